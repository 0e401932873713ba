/- HeapFills: the walk. -/
import Derived.Test.YtfdpcjdghmdkkaaH15
import Derived.Deep.RegionHeld3
set_option linter.unusedSimpArgs false
set_option linter.unusedVariables false
namespace Go.Proofs.Ytfdpcjdghmdkkaa.Hp
open Go.RowKit Go.Sort
/-- A state in memory, of a heap made behind w. -/
def StB (w w' : World) (h b fr n last : Nat) (ks : List Nat) (g : Nat → Bk) : Prop := St w' h b fr n last ks g ∧ Below w.heap.size w w'
theorem StB.held {w w' w'' : World} {h b fr n last : Nat} {ks : List Nat} {g : Nat → Bk} (S : StB w w' h b fr n last ks g) (hb : Below w'.heap.size w' w'') : StB w w'' h b fr n last ks g := ⟨S.1.keeps hb, S.2.trans (hb.mono S.2.size)⟩
theorem StB.drew {w w' : World} {h b fr n last : Nat} {ks : List Nat} {g : Nat → Bk} (S : St w' h b fr n last ks g) (hb : Below w.heap.size w w') : StB w w'.drew h b fr n last ks g := ⟨⟨⟨S.at_.cells, S.at_.map⟩, S.ok⟩, hb.drew⟩
theorem free_some {w w' : World} {fr n last : Nat} {ks : List Nat} {g : Nat → Bk} (S : StB w w' (w.heap.size + 1) w.heap.size fr n last ks g) (m : Nat) : Calls Try.prog 20 #[.pointer (some ⟨w.heap.size + 1, 0, none⟩), .int .u16 (m : Nat)] w' fun e w'' =>
    ∃ r : Int, e = .returned (.int .i64 r) ∧ StB w w'' (w.heap.size + 1) w.heap.size fr n last (ks.filter fun k => !decide (k = m)) g :=
  (free_any S.1.at_ m).mono fun e w'' ⟨h1, h2, h3⟩ => ⟨_, h1, ⟨h2, S.1.ok.freed m⟩, S.2.trans (h3.below S.2.size (Nat.le_succ _) (Nat.le_refl _))⟩
set_option maxRecDepth 100000 in
set_option maxHeartbeats 3200000 in
theorem fills_nat (n m : Nat) (hn : n < 65536) (hm : m < 256) {w : World} {A : Option Addr} {c : Nat} {l : List Nat} (h : Bs w A c l) :
    Calls Try.prog 5 #[.int .u16 (n : Nat), .int .u8 (m : Nat), .slice A l.length c] w fun e w' => e = .returned (.bool true) ∧ Below w.heap.size w w' := by
  have hal := alive_any
  by_cases hlen : l.length ≤ 300
  · have q1 : decide ((l.length : Int) > 300) = false := decide_eq_false (by omega)
    have HBs := Lib.hid h
    obtain ⟨all, hall⟩ : ∃ all, all = n % 2000 := ⟨_, rfl⟩
    obtain ⟨one, hone⟩ : ∃ one, one = 1 + m % 50 := ⟨_, rfl⟩
    have r1 : ((n : Int).tmod 2000) = (all : Nat) := by rw [hall]; rfl
    have r2 : ((m : Int).tmod 50) = ((one - 1 : Nat) : Int) := by rw [hone, Nat.add_sub_cancel_left]; rfl
    have r3 : (1 : Int) + ((one - 1 : Nat) : Int) = (one : Nat) := by rw [hone]; omega
    have ha : all < 2000 := by rw [hall]; exact Nat.mod_lt _ (by decide)
    have ho : 1 ≤ one ∧ one ≤ 50 := by rw [hone]; have := Nat.mod_lt m (show 50 > 0 by decide); omega
    have HNEW := Lib.hid (new_good 1 all w (by decide) (by omega) gA)
    clear hall hone h
    go_enter Try.func5, Try.ntmps5
    go_wp2_with fail
    refine HNEW.out.mono ?_
    rintro e w1 ⟨rfl, hp, hb⟩
    have S0 := Lib.hid (show St w1 (w.heap.size + 1) w.heap.size 1 all 0 [] gA from ⟨hp, OKSt.start (by decide) (by omega) _⟩)
    have B0 := Lib.hid hb
    clear hp hb HNEW r1 r2 q1
    go_wp2
    go_loopg [11] (all + 1) (fun gh sc wr => ∃ (count : Nat) (ks : List Nat) (g : Nat → Bk), sc = .int .i64 (count : Nat) ∧ count ≤ all ∧ count * one ≤ all ∧ all + 1 - count ≤ gh ∧ Hid (St wr (w.heap.size + 1) w.heap.size 1 all count ks g) ∧ Hid (Full one count ks g) ∧ Hid (Below w.heap.size w wr))
    case atStart => exact ⟨0, [], gA, rfl, by omega, by omega, by omega, S0, Lib.hid (Full.start one gA), B0⟩
    case round =>
      obtain ⟨count, ks, g, rfl, hc1, hc2, hgh, hst, hfl, hbl⟩ := hrel
      by_cases hq : (count + 1) * one ≤ all
      · have HMK := Lib.hid (make_at hst.out ho.1 (by omega) (by omega) (hfl.out.fits ho.1 hq) (fun a' => hfl.out.least ho.1))
        have hmul : (count : Int) * (one : Int) = ((count * one : Nat) : Int) := by rw [Int.natCast_mul]
        generalize hcm : count * one = cm at *
        go_wp2_with (go_at_call 19; refine HMK.out.mono ?_; rintro e w2 ⟨rfl, hs, hk⟩)
        have HS2 := Lib.hid hs
        have HB2 := Lib.hid (hbl.out.trans (hk.below hbl.out.size (Nat.le_succ _) (Nat.le_refl _)))
        have HF2 := Lib.hid (show Full one (count + 1) (ks ++ [count + 1]) (updB g (count + 1) (mkB (1 + cm) one)) from by rw [← hcm]; exact hfl.out.next ho.1 (by omega))
        have hcl : count + 1 ≤ all := by have := Nat.mul_le_mul_left (count + 1) ho.1; omega
        clear hs hk HMK hst hfl hbl
        go_roundg (all - count)
        case rel => exact ⟨count + 1, _, _, by rfl, hcl, hq, by omega, HS2, HF2, HB2⟩
        case measure => omega
      · have HMK := Lib.hid (make_full hst.out ho.1 (by omega) (hfl.out.none_ ho.1 hq))
        have HSUM := Lib.hid (hfl.out.sum hst.out.ok.nd)
        have HQ := Lib.hid hq
        clear hst hq
        go_wp2_with (go_at_call 19; refine HMK.out.mono ?_; rintro e w2 ⟨rfl, hs, hk⟩)
        have HS2 := Lib.hid hs
        have HB2 := Lib.hid (hbl.out.trans (hk.below hbl.out.size (Nat.le_succ _) (Nat.le_refl _)))
        obtain ⟨hd1, hd2⟩ := count_eq ho.1 hc2 HQ.out
        have hsum := HSUM.out
        have hw1 : IntKind.i64.wrap (count : Int) = count := IntWalk.i64_in _ (by omega)
        have hquo : (all : Int).tdiv (one : Int) = (count : Int) := by rw [← Int.ofNat_tdiv, ← hd1]
        obtain ⟨rm, hrm⟩ : ∃ rm, rm = all % one := ⟨_, rfl⟩
        have hrem : (all : Int).tmod (one : Int) = (rm : Int) := by rw [← Int.ofNat_tmod, ← hrm]
        have hrml : rm < one := by rw [hrm]; exact Nat.mod_lt _ ho.1
        have hne : ¬ one = 0 := by omega
        have hw2 : IntKind.i64.wrap (rm : Int) = rm := IntWalk.i64_in _ (by omega)
        have hroom : Hid (∀ w', St w' (w.heap.size + 1) w.heap.size 1 all count ks g → Calls Try.prog 11 #[.pointer (some ⟨w.heap.size + 1, 0, none⟩)] w' fun e w'' => e = .returned (.int .i64 (rm : Int)) ∧ Below w'.heap.size w' w'') := Lib.hid fun w' S => by
          have := room_any S.at_ (by rw [hsum]; exact hc2) (by omega)
          rwa [hsum, hd2, ← hrm] at this
        clear hs hk HMK hd1 hd2 hrm hsum
        have HD0 := StB.drew HS2.out HB2.out
        go_region_held3 (fun w' => StB w w' (w.heap.size + 1) w.heap.size 1 all count ks g)
          ((first | exact HD0 | (with_reducible exact StB.held (by assumption) (by assumption)) | (with_reducible assumption)))
          ((first | (go_at_call 11; refine (hroom.out _ (And.left (by assumption))).mono ?_; rintro e w' ⟨rfl, hbb⟩)))
        have HA1 := Lib.hid (show StB w w' (w.heap.size + 1) w.heap.size 1 all count ks g by assumption)
        clear HD0 hw1 hquo hrem hrml hne hw2 hroom HS2 HB2 hbb
        go_wp2
        go_loopg [15] l.length (fun gh2 si wr => ∃ (i : Nat) (ks2 : List Nat), si = .int .i64 (i : Nat) ∧ i ≤ l.length ∧ l.length - i ≤ gh2 ∧ Hid (StB w wr (w.heap.size + 1) w.heap.size 1 all count ks2 g))
        case atStart => exact ⟨0, ks, rfl, by omega, by omega, HA1⟩
        case round =>
          obtain ⟨i, ks2, rfl, hi1, hi2, hst2⟩ := hrel
          by_cases hgo : i < l.length ∧ 0 < count
          · obtain ⟨hgo1, hgo2⟩ := hgo
            obtain ⟨b1, off1, u, eA, hb1, hu, hcell⟩ := (HBs.out.below hst2.out.2).spot hgo1
            obtain ⟨x, hx⟩ : ∃ x, x = l[i] := ⟨_, rfl⟩
            have hxs : x < 256 := by rw [hx]; exact HBs.out.small _ (List.getElem_mem _)
            have hu2 : u = .int .u8 (x : Nat) := by
              rw [List.getElem?_map, List.getElem?_eq_getElem hgo1, ← hx] at hu
              injection hu with hu; exact hu.symm
            subst hu2
            subst eA
            obtain ⟨k, hk⟩ : ∃ k, k = 1 + x % count := ⟨_, rfl⟩
            have hkl : x % count < count := Nat.mod_lt _ hgo2
            have t1 : (x : Int).tmod (count : Int) = ((k - 1 : Nat) : Int) := by rw [← Int.ofNat_tmod, hk, Nat.add_sub_cancel_left]
            have t2 : (1 : Int) + ((k - 1 : Nat) : Int) = (k : Nat) := by omega
            have t3 : ¬ count = 0 := by omega
            have hkk : 1 ≤ k ∧ k ≤ count := by omega
            have HFR := Lib.hid (free_some hst2.out k)
            clear hu hx hk hkl
            go_wp2_with (go_at_call 20; refine HFR.out.mono ?_; rintro e w3 ⟨r, rfl, hp⟩)
            have HP := Lib.hid hp
            clear hp HFR t1 t2 t3 hcell
            go_roundg (l.length - i - 1)
            case rel => exact ⟨i + 1, _, by rfl, by omega, by omega, HP⟩
            case measure => omega
          · have hgo2 : ¬ i < l.length ∨ (i < l.length ∧ ¬ 0 < count) := by omega
            clear hgo
            rcases hgo2 with hgo | ⟨hgo, hgo3⟩
            all_goals
              have HA2 := Lib.hid hst2.out
              clear hst2
              go_wp2
              go_loopg [16] count (fun gh3 sk wr3 => ∃ (k : Nat) (ks3 : List Nat), sk = .int .i64 (k : Nat) ∧ 1 ≤ k ∧ k ≤ count + 1 ∧ count + 1 - k ≤ gh3 ∧ Hid (StB w wr3 (w.heap.size + 1) w.heap.size 1 all count ks3 g) ∧ Hid (∀ q ∈ ks3, k ≤ q))
              case atStart => exact ⟨1, ks2, rfl, by omega, by omega, by omega, HA2, Lib.hid fun q hq => (HA2.out.1.ok.key q hq).1⟩
              case round =>
                obtain ⟨k, ks3, rfl, hk1, hk2, hk3, hst3, hge⟩ := hrel
                by_cases hkc : k ≤ count
                · have HFR := Lib.hid (free_some hst3.out k)
                  have HGE := Lib.hid (show ∀ q ∈ (ks3.filter fun x => !decide (x = k)), k + 1 ≤ q from fun q hq => by
                    rw [List.mem_filter] at hq
                    have h1 := hge.out q hq.1
                    have h2 : q ≠ k := by simpa using hq.2
                    omega)
                  clear hst3 hge
                  go_wp2_with (go_at_call 20; refine HFR.out.mono ?_; rintro e w3 ⟨r, rfl, hp⟩)
                  have HP := Lib.hid hp
                  clear hp HFR
                  go_roundg (count - k)
                  case rel => exact ⟨k + 1, _, by rfl, by omega, by omega, by omega, HP, HGE⟩
                  case measure => omega
                · have hks : ks3 = [] := by
                    cases ks3 with
                    | nil => rfl
                    | cons q l2 =>
                      have h1 := hge.out q (List.mem_cons_self ..)
                      have h2 := (hst3.out.1.ok.key q (List.mem_cons_self ..)).2
                      omega
                  subst hks
                  clear hge
                  have HA3 := Lib.hid hst3.out
                  clear hst3
                  by_cases hall0 : all = 0
                  · go_wp2_with (go_at_call 7; refine (hal _).mono ?_; rintro e w4 ⟨rfl, hb4⟩)
                    go_ret
                    exact ⟨rfl, HA3.out.2.trans (hb4.mono HA3.out.2.size)⟩
                  · have HMK := Lib.hid (make_at HA3.out.1 (show 1 ≤ all by omega) (by omega) (by omega) ⟨Nat.le_refl _, Nat.le_refl _, nomem⟩ (fun a' hf => hf.1))
                    clear HBs HA1 HA2 S0 B0
                    go_wp2_with (go_at_call 19; refine HMK.out.mono ?_; rintro e w5 ⟨rfl, hs, hk⟩)
                    have HSX := hs
                    have HB5 := HA3.out.2.trans (hk.below HA3.out.2.size (Nat.le_succ _) (Nat.le_refl _))
                    generalize hg5 : updB g (count + 1) (mkB 1 all) = g5 at *
                    have hsum5 : sumB g5 ([] ++ [count + 1]) = all := by rw [← hg5]; simp [sumB, updB, mkB]
                    have hroom : Hid (∀ w', St w' (w.heap.size + 1) w.heap.size 1 all (count + 1) ([] ++ [count + 1]) g5 → Calls Try.prog 11 #[.pointer (some ⟨w.heap.size + 1, 0, none⟩)] w' fun e w'' => e = .returned (.int .i64 0) ∧ Below w'.heap.size w' w'') := Lib.hid fun w' S => by
                      have := room_any S.at_ (by rw [hsum5]; exact Nat.le_refl _) (by omega)
                      rw [hsum5, Nat.sub_self] at this
                      exact this
                    have HD0 := Lib.hid (show StB w w5 (w.heap.size + 1) w.heap.size 1 all (count + 1) ([] ++ [count + 1]) g5 from ⟨HSX, HB5⟩)
                    have HAL := Lib.hid hal
                    clear hs hk HMK hsum5 hg5 HSX HB5 hal
                    refine (hroom.out _ HD0.out.1).mono ?_
                    rintro e w6 ⟨rfl, hb6⟩
                    have HD6 := Lib.hid (HD0.out.held hb6)
                    clear hb6
                    go_wp2_with (go_at_call 7; refine (HAL.out _).mono ?_; rintro e w7 ⟨rfl, hb7⟩)
                    go_ret
                    exact ⟨rfl, HD6.out.2.trans (hb7.mono HD6.out.2.size)⟩
  · have q1 : decide ((l.length : Int) > 300) = true := decide_eq_true (by omega)
    clear h
    go_enter Try.func5, Try.ntmps5
    go_wp2_with (go_at_call 7; refine (hal _).mono ?_; rintro e w' ⟨rfl, hb⟩)
    go_ret
    exact ⟨rfl, hb⟩
theorem fills_walk (n : Int) (hn : (Lit.int .u16 n).wf = true) (m : Int) (hm : (Lit.int .u8 m).wf = true) {w : World} {A : Option Addr} {c : Nat} {l : List Nat} (h : Bs w A c l) :
    Calls Try.prog 5 #[.int .u16 n, .int .u8 m, .slice A l.length c] w fun e w' => e = .returned (.bool true) ∧ Below w.heap.size w w' := by
  obtain ⟨n1, n2⟩ := bounds_u16 hn
  obtain ⟨m1, m2⟩ := bnd_u8 hm
  have := fills_nat n.toNat m.toNat (by omega) (by omega) h
  rwa [Int.toNat_of_nonneg n1, Int.toNat_of_nonneg m1] at this
end Go.Proofs.Ytfdpcjdghmdkkaa.Hp
