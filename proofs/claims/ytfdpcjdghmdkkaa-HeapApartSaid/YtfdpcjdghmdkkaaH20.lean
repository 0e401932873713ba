/- HeapApart: the walk. -/
import Derived.Test.YtfdpcjdghmdkkaaH19
import Derived.Deep.RegionHeld3
import Derived.Deep.Onto
import Derived.Deep.QuietTactic
set_option linter.unusedSimpArgs false
set_option linter.unusedVariables false
namespace Go.Proofs.Ytfdpcjdghmdkkaa.Hp
open Go.RowKit Go.Sort
set_option maxRecDepth 100000 in
set_option maxHeartbeats 12800000 in
theorem apart_nat (fn nn : Nat) (hf : fn < 65536) (hn : nn < 65536) {w : World} {A : Option Addr} {c : Nat} {l : List Cl} (h : Cs w A c l) :
    Calls Try.prog 4 #[.int .u16 (fn : Nat), .int .u16 (nn : Nat), .slice A l.length c] w fun e w' => e = .returned (.bool true) ∧ Below w.heap.size w w' := by
  have hal := alive_any
  by_cases hlen : l.length ≤ 100
  · have q1 : decide ((l.length : Int) > 100) = false := decide_eq_false (by omega)
    have HCs := Lib.hid h
    obtain ⟨fr, hfr⟩ : ∃ fr, fr = 1 + fn % 1000 := ⟨_, rfl⟩
    obtain ⟨n, hnq⟩ : ∃ n, n = nn % 1000 := ⟨_, rfl⟩
    have r1 : ((nn : Int).tmod 1000) = (n : Nat) := by rw [hnq]; rfl
    have r2 : ((fn : Int).tmod 1000) = ((fr - 1 : Nat) : Int) := by rw [hfr, Nat.add_sub_cancel_left]; rfl
    have r3 : (1 : Int) + ((fr - 1 : Nat) : Int) = (fr : Nat) := by rw [hfr]; omega
    have ha : n < 1000 := by rw [hnq]; exact Nat.mod_lt _ (by decide)
    have ho : 1 ≤ fr ∧ fr ≤ 1000 := by rw [hfr]; have := Nat.mod_lt fn (show 1000 > 0 by decide); omega
    have HNEW := Lib.hid (new_good fr n w ho.1 (by omega) gA)
    have HAL := Lib.hid hal
    clear hfr hnq h hal
    go_enter Try.func4, Try.ntmps4
    go_wp2_with fail
    refine HNEW.out.mono ?_
    rintro e w1 ⟨rfl, hp, hb⟩
    have S0 := Lib.hid (show StB w w1 (w.heap.size + 1) w.heap.size fr n 0 [] gA from ⟨⟨hp, OKSt.start ho.1 (by omega) _⟩, hb⟩)
    clear hp hb HNEW r1 r2 q1
    go_wp2
    go_loopg [11, 12] l.length (fun gh sl si wr => ∃ (i last : Nat) (ks : List Nat) (g : Nat → Bk), sl = .int .u16 (last : Nat) ∧ si = .int .i64 (i : Nat) ∧ i ≤ l.length ∧ l.length - i ≤ gh ∧ last ≤ i ∧ Hid (StB w wr (w.heap.size + 1) w.heap.size fr n last ks g))
    case atStart => exact ⟨0, 0, [], gA, rfl, rfl, by omega, by omega, by omega, S0⟩
    case round =>
      obtain ⟨i, last, ks, g, rfl, rfl, hi1, hgh, hla, hst⟩ := hrel
      by_cases hi : i < l.length
      · obtain ⟨b1, off1, eA, hb1, d0, d1, d2⟩ := HCs.out.spot hst.out.2 hi
        obtain ⟨p, hpq⟩ : ∃ p, p = l[i] := ⟨_, rfl⟩
        have hfit := HCs.out.fit l[i] (List.getElem_mem _)
        rw [← hpq] at d0 d1 d2 hfit
        obtain ⟨dd, N, x⟩ := p
        dsimp only at d0 d1 d2 hfit
        obtain ⟨f1, f2, f3⟩ := hfit
        subst eA
        obtain ⟨q, hq⟩ : ∃ q, q = dd % 6 := ⟨_, rfl⟩
        have t1 : (dd : Int).tmod 6 = (q : Nat) := by rw [hq]; rfl
        have t2 : q < 6 := by rw [hq]; exact Nat.mod_lt _ (by decide)
        clear hpq hq
        go_upto_if 59 with fail
        go_cut [11, 13, 14, 15] from 47 to 87 (fun s11 s13 s14 s15 wc => ∃ (last : Nat) (ks : List Nat) (g : Nat → Bk), s11 = .int .u16 (last : Nat) ∧ last ≤ i + 1 ∧ Hid (StB w wc (w.heap.size + 1) w.heap.size fr n last ks g))
        case first =>
          by_cases h4 : q < 4
          · have HMK := Lib.hid (make_some hst.out N f2.2)
            clear t1
            go_wp2_with fail
            refine HMK.out.mono ?_
            rintro e w2 (⟨a, rfl, hS⟩ | ⟨er, her, rfl, hS⟩)
            · have HS := Lib.hid hS
              clear hS HMK hst
              go_wp2
              go_meet
              exact ⟨last + 1, _, _, by rfl, by omega, HS⟩
            · have HS := Lib.hid hS
              clear hS HMK hst
              go_wp2
              go_meet
              exact ⟨last, _, _, by rfl, by omega, HS⟩
          · obtain ⟨k, hk⟩ : ∃ k, k = x % (last + 2) := ⟨_, rfl⟩
            have t3 : (x : Int).tmod ((last : Int) + 2) = (k : Nat) := by rw [hk]; exact (Int.ofNat_tmod x (last + 2)).symm
            have t4 : ¬ (last : Int) + 2 = 0 := by omega
            have t5 : k < 65536 := by rw [hk]; have := Nat.mod_lt x (show last + 2 > 0 by omega); omega
            have HFR := Lib.hid (free_some hst.out k)
            clear hk
            go_wp2_with (go_at_call 20; refine HFR.out.mono ?_; rintro e w3 ⟨r, rfl, hp⟩)
            have HS := Lib.hid hp
            go_meet
            exact ⟨last, _, _, by rfl, by omega, HS⟩
        case rest =>
          obtain ⟨last2, ks2, g2, rfl, hla2, hst2⟩ := hcut
          clear hst t1 t2 d0 d1 d2 f1 f2 f3
          obtain ⟨w3, hmk, htr, hgt, hsz⟩ := made_taken wc n (by omega)
          have HS3 := Lib.hid (show StB w w3 (w.heap.size + 1) w.heap.size fr n last2 ks2 g2 from hst2.out.held ((Below.refl _ _).grown hgt (Nat.le_refl _) (fun k hk => by cases hk)))
          have HTR := Lib.hid htr
          have HGS := Lib.hid (show w.heap.size + 1 < wc.heap.size from hst2.out.1.at_.lt)
          have HLV := Lib.hid (live_any HS3.out.1.at_ (by have := HS3.out.1.ok.len; omega))
          have HSZ := Lib.hid hsz
          clear htr hgt hsz hst2
          go_wp2_with (go_at_call 17; refine HLV.out.mono ?_; rintro e w4 ⟨lv, L, rfl, hpm, hpw, hrow, hb4⟩; obtain ⟨A2, c2, rfl, hrd⟩ := own_form hrow)
          have HAP := Lib.hid (show Ap w w4 (w.heap.size + 1) w.heap.size fr n last2 ks2 g2 wc.heap.size (cov g2 fr (L.take 0)) (.slice A2 L.length c2) L from by
            have h1 := HGS.out
            have h2 := HSZ.out
            have e0 : cov g2 fr (L.take 0) = fun _ => false := by funext x; simp [cov]
            refine ⟨HS3.out.held hb4, ?_, World.ownsRow.mono hrow (by omega), fun e => ?_, by omega, by omega⟩
            · rw [e0]; exact rowK (World.ownsRow.mono HTR.out (by omega)) (grownB hb4 none) (fun k _ e => by cases e)
            · have := (World.ownsRow.lt hrow _ e).1
              omega)
          have HPM := Lib.hid hpm
          have HPW := Lib.hid hpw
          have HOK := Lib.hid HS3.out.1.ok
          clear hpm hpw hrow hb4 hrd HS3 HTR HGS HSZ HLV hmk
          generalize wc.heap.size = gt at *
          go_loopg [17, 19] L.length (fun gh2 sr sj wr => ∃ (j room : Nat), sr = .int .i64 (room : Nat) ∧ sj = .int .i64 (j : Nat) ∧ j ≤ L.length ∧ L.length - j ≤ gh2 ∧ room ≤ n ∧ Hid (room + sumB g2 (L.take j) = n) ∧ Hid (Ap w wr (w.heap.size + 1) w.heap.size fr n last2 ks2 g2 gt (cov g2 fr (L.take j)) (.slice A2 L.length c2) L))
          case atStart => exact ⟨0, n, rfl, rfl, by omega, by omega, Nat.le_refl _, Lib.hid (by simp [sumB]), HAP⟩
          case round =>
            obtain ⟨j, room, rfl, rfl, hj1, hgh2, hroom, hsm, hap⟩ := hrel
            by_cases hj : j < L.length
            · obtain ⟨k, hkq⟩ : ∃ k, k = L[j] := ⟨_, rfl⟩
              have hk : k ∈ ks2 := by rw [hkq]; exact HPM.out.mem_iff.1 (List.getElem_mem hj)
              have hkk := HOK.out.key k hk
              have hpos := HOK.out.pos k hk
              have hlo := HOK.out.lo k hk
              have hhi := HOK.out.hi k hk
              have HCF := Lib.hid (fun (y : Nat) (h1 : (g2 k).1.val ≤ fr + y) (h2 : fr + y < (g2 k).1.val + (g2 k).2) => cov_free (g := g2) HOK.out HPM.out hj (x := y) (by rw [← hkq]; exact h1) (by rw [← hkq]; exact h2))
              have HCN := Lib.hid (show ∀ y, cov g2 fr (L.take (j + 1)) y = (cov g2 fr (L.take j) y || decide ((g2 k).1.val ≤ fr + y ∧ fr + y < (g2 k).1.val + (g2 k).2)) from fun y => by
                rw [List.take_succ_eq_append_getElem hj, ← hkq, cov_snoc])
              have HSN := Lib.hid (show sumB g2 (L.take (j + 1)) = sumB g2 (L.take j) + (g2 k).2 from by rw [hkq]; exact sum_take hj)
              have HSL := Lib.hid (sum_take_le HOK.out HPM.out (j + 1))
              have HAT := Lib.hid (at_in hap.out.st.1.at_ hk)
              generalize (g2 k).1.val = a at *
              generalize (g2 k).2 = m at *
              obtain ⟨b2, off2, u, eA, hb2, hu, hcell⟩ := hap.out.row.spot hj
              have hu2 : u = .int .u16 (k : Nat) := by
                rw [List.getElem?_map, List.getElem?_eq_getElem hj, ← hkq] at hu
                injection hu with hu; exact hu.symm
              subst hu2
              subst eA
              have hmr : m ≤ room := by have h1 := hsm.out; have h2 := HSN.out; have h3 := HSL.out; omega
              have n0 : ¬ (m : Int) < 1 := by omega
              have o0 : decide ((m : Int) < 1) = false := decide_eq_false n0
              have n1 : ¬ m < 1 := by omega
              have o1 : decide (m < 1) = false := decide_eq_false n1
              have n2 : ¬ m = 0 := by omega
              have o2 : decide (m = 0) = false := decide_eq_false n2
              have n3 : ¬ (m : Int) = 0 := by omega
              have o3 : decide ((m : Int) = 0) = false := decide_eq_false n3
              have n4 : ¬ (a : Int) < (fr : Int) := by omega
              have o4 : decide ((a : Int) < (fr : Int)) = false := decide_eq_false n4
              have n5 : ¬ a < fr := by omega
              have o5 : decide (a < fr) = false := decide_eq_false n5
              have n6 : ¬ (fr : Int) + (n : Int) < (a : Int) := by omega
              have o6 : decide ((fr : Int) + (n : Int) < (a : Int)) = false := decide_eq_false n6
              have n7 : ¬ fr + n < a := by omega
              have o7 : decide (fr + n < a) = false := decide_eq_false n7
              have n8 : ¬ (fr : Int) + (n : Int) - (a : Int) < (m : Int) := by omega
              have o8 : decide ((fr : Int) + (n : Int) - (a : Int) < (m : Int)) = false := decide_eq_false n8
              have n9 : ¬ (last2 : Int) < (k : Int) := by omega
              have o9 : decide ((last2 : Int) < (k : Int)) = false := decide_eq_false n9
              have n10 : ¬ last2 < k := by omega
              have o10 : decide (last2 < k) = false := decide_eq_false n10
              have hj65 : j < 65536 := by
                have := HOK.out.len
                have := HOK.out.lst
                have := HPM.out.length_eq
                omega
              clear hu hk hkk
              rcases Nat.eq_zero_or_pos j with h0 | h0
              case' inl =>
                have c6 : ¬ (0 : Int) < (j : Int) := by omega
                have c6n : ¬ 0 < j := by omega
                have c6o : decide ((0 : Int) < (j : Int)) = false := decide_eq_false c6
                have c6p : decide (0 < j) = false := decide_eq_false c6n
                have HJ0 := Lib.hid h0
                clear hkq h0
                go_wp2_with (go_at_call 14; refine HAT.out.mono ?_; rintro e w5 ⟨rfl, hb5⟩; have HP5 := Lib.hid (hap.out.below hb5); have e5 := (hb5.cell (p := ⟨b2, off2 + j, none⟩) hb2).trans hcell)
                go_big_quiet (fail)
                clear c6 c6n c6o c6p
              case' inr =>
                have c6 : (0 : Int) < (j : Int) := by omega
                have c6n : 0 < j := by omega
                have c6o : decide ((0 : Int) < (j : Int)) = true := decide_eq_true c6
                have c6p : decide (0 < j) = true := decide_eq_true c6n
                have hjl : j - 1 < L.length := by omega
                obtain ⟨k0, hk0q⟩ : ∃ k0, k0 = L[j - 1] := ⟨_, rfl⟩
                have hlt : k0 < k := by rw [hk0q, hkq]; exact live_lt HOK.out HPM.out HPW.out hj (by omega)
                have c7 : ¬ (k : Int) ≤ (k0 : Int) := by omega
                have c7n : ¬ k ≤ k0 := by omega
                have c7o : decide ((k : Int) ≤ (k0 : Int)) = false := decide_eq_false c7
                have c7p : decide (k ≤ k0) = false := decide_eq_false c7n
                obtain ⟨b3, off3, u, eA, hb3, hu, hcell3⟩ := hap.out.row.spot hjl
                injection eA with eA
                injection eA with e1 e2 e3
                subst e1
                subst e2
                have hu3 : u = .int .u16 (k0 : Nat) := by
                  rw [List.getElem?_map, List.getElem?_eq_getElem hjl, ← hk0q] at hu
                  injection hu with hu; exact hu.symm
                subst hu3
                clear hkq hk0q hu e3
                go_wp2_with (go_at_call 14; refine HAT.out.mono ?_; rintro e w5 ⟨rfl, hb5⟩; have HP5 := Lib.hid (hap.out.below hb5); have e5 := (hb5.cell (p := ⟨b2, off2 + j, none⟩) hb2).trans hcell; have e6 := (hb5.cell (p := ⟨b2, off2 + (j - 1), none⟩) hb2).trans hcell3)
                go_big_quiet (fail)
                clear c6 c6n c6o c6p c7 c7n c7o c7p e6 hcell3
              all_goals
                clear n0 o0 n1 o1 n2 o2 n3 o3 n4 o4 n5 o5 n6 o6 n7 o7 n8 o8 n9 o9 n10 o10 e5 hcell hb5
                have HPD := Lib.hid (HP5.out.dn nq)
                clear HP5 HAT
                generalize w5.drewN nq = w6 at *
                go_wp2
                go_loopg [23] m (fun gh3 sp wr3 => ∃ p : Nat, sp = .int .i64 (p : Nat) ∧ a ≤ p ∧ p ≤ a + m ∧ a + m - p ≤ gh3 ∧ Hid (Ap w wr3 (w.heap.size + 1) w.heap.size fr n last2 ks2 g2 gt (covP (cov g2 fr (L.take j)) a fr p) (.slice (some ⟨b2, off2, none⟩) L.length c2) L))
                case atStart => exact ⟨a, rfl, by omega, by omega, by omega, by rw [covP_start]; exact HPD⟩
                case round =>
                  obtain ⟨p, rfl, hp1, hp2, hp3, hap3⟩ := hrel
                  by_cases hpm : p < a + m
                  · obtain ⟨x, hx⟩ : ∃ x, fr + x = p := ⟨p - fr, by omega⟩
                    have hxn : x < n := by omega
                    have ⟨k1, k2⟩ := hap3.out.cellT hxn
                    have hv : covP (cov g2 fr (L.take j)) a fr p x = false := by
                      unfold covP
                      rw [HCF.out x (by omega) (by omega), Bool.false_or]
                      exact decide_eq_false (by omega)
                    rw [hv] at k1
                    have HS3 := Lib.hid (hap3.out.set hxn)
                    rw [covP_step (cov g2 fr (L.take j)) hp1 hx] at HS3
                    have hxi : (p : Int) - (fr : Int) = (x : Nat) := by omega
                    have HX := Lib.hid hx
                    clear hv hx hap3
                    go_wp2
                    go_roundg (a + m - p - 1)
                    case rel => exact ⟨p + 1, by rfl, by omega, by omega, by omega, HS3⟩
                    case measure => omega
                  · have hpe : p = a + m := by omega
                    have hfun : covP (cov g2 fr (L.take j)) a fr p = cov g2 fr (L.take (j + 1)) := by
                      funext y
                      rw [HCN.out y, hpe]
                      rfl
                    have HAF := Lib.hid (show Ap w wr (w.heap.size + 1) w.heap.size fr n last2 ks2 g2 gt (cov g2 fr (L.take (j + 1))) (.slice (some ⟨b2, off2, none⟩) L.length c2) L from by rw [← hfun]; exact hap3.out)
                    have HRM := Lib.hid (show (room - m) + sumB g2 (L.take (j + 1)) = n from by have h1 := hsm.out; have h2 := HSN.out; omega)
                    clear hfun hap3 hpe
                    go_wp2
                    go_roundg (L.length - j - 1)
                    case rel => exact ⟨j + 1, room - m, by go_num, by rfl, by omega, by omega, by omega, HRM, HAF⟩
                    case measure => omega
            · have hje : j = L.length := by omega
              have hrm : n - sumB g2 ks2 = room := by
                have h1 := hsm.out
                rw [hje, List.take_length, sumB_perm HPM.out] at h1
                omega
              have HRM := room_any hap.out.st.1.at_ HOK.out.sum_le (by omega)
              rw [hrm] at HRM
              have HRM := Lib.hid HRM
              have HST := Lib.hid hap.out.st
              clear hje hrm hap hsm
              go_wp2_with (go_at_call 11; refine HRM.out.mono ?_; rintro e w7 ⟨rfl, hb7⟩)
              have HST7 := Lib.hid (HST.out.held hb7)
              go_roundg (l.length - i - 1)
              case rel => exact ⟨i + 1, last2, ks2, g2, rfl, by rfl, by omega, by omega, by omega, HST7⟩
              case measure => omega
      · go_wp2_with (go_at_call 7; refine (HAL.out _).mono ?_; rintro e w2 ⟨rfl, hb2⟩)
        go_ret
        exact ⟨rfl, hst.out.2.trans (hb2.mono hst.out.2.size)⟩
  · have q1 : decide ((l.length : Int) > 100) = true := decide_eq_true (by omega)
    clear h
    go_enter Try.func4, Try.ntmps4
    go_wp2_with (go_at_call 7; refine (hal _).mono ?_; rintro e w' ⟨rfl, hb⟩)
    go_ret
    exact ⟨rfl, hb⟩
theorem apart_walk (n : Int) (hn : (Lit.int .u16 n).wf = true) (m : Int) (hm : (Lit.int .u16 m).wf = true) {w : World} {A : Option Addr} {c : Nat} {l : List Cl} (h : Cs w A c l) :
    Calls Try.prog 4 #[.int .u16 n, .int .u16 m, .slice A l.length c] w fun e w' => e = .returned (.bool true) ∧ Below w.heap.size w w' := by
  obtain ⟨n1, n2⟩ := bounds_u16 hn
  obtain ⟨m1, m2⟩ := bounds_u16 hm
  have := apart_nat n.toNat m.toNat (by omega) (by omega) h
  rwa [Int.toNat_of_nonneg n1, Int.toNat_of_nonneg m1] at this
end Go.Proofs.Ytfdpcjdghmdkkaa.Hp
