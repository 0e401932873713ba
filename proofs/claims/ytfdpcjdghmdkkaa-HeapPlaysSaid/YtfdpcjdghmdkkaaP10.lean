/- HeapPlays: the walk. -/
import Derived.Test.YtfdpcjdghmdkkaaP9
import Derived.Deep.RegionWith
import Derived.Deep.DrawnRows
set_option linter.unusedSimpArgs false
set_option linter.unusedVariables false
namespace Go.Proofs.Ytfdpcjdghmdkkaa.Hp
open Go.RowKit Go.Sort
attribute [local go_sem ↓] Go.wp_at_zero Go.wp_at_succ
theorem Bo.room {w0 w : World} {hr gl fr n last : Nat} {ks : List Nat} {g : Nat → Bk} {f : Nat → Nat} (S : Bo w0 w hr gl fr n last ks g f) : Calls Try.prog 11 #[.pointer (some ⟨w0.heap.size + 1, 0, none⟩)] w fun e w' => e = .returned (.int .i64 (zeros f n : Nat)) ∧ Below w.heap.size w w' := by
  have h := room_any S.st.1.at_ S.st.1.ok.sum_le (by have := S.st.1.ok.top; omega)
  rwa [← zeros_sum S.st.1.ok S.rl] at h
theorem Bo.last {w0 w : World} {hr gl fr n last : Nat} {ks : List Nat} {g : Nat → Bk} {f : Nat → Nat} (S : Bo w0 w hr gl fr n last ks g f) : Calls Try.prog 13 #[.pointer (some ⟨w0.heap.size + 1, 0, none⟩)] w fun e w' => e = .returned (.int .u16 (last : Nat)) ∧ Below w.heap.size w w' :=
  (last_any S.st.1.at_ S.st.1.ok.lst).mono fun e w' ⟨h1, h2⟩ => ⟨h1, h2 ▸ Below.refl _ _⟩
theorem Bo.rroom {w0 w : World} {hr gl fr n last : Nat} {ks : List Nat} {g : Nat → Bk} {f : Nat → Nat} (S : Bo w0 w hr gl fr n last ks g f) : Calls Try.prog 12 #[.pointer (some ⟨hr, 0, none⟩)] w fun e w' => e = .returned (.int .i64 (zeros f n : Nat)) ∧ Below w.heap.size w w' :=
  (rroom_any S.ref (by have := S.st.1.ok.top; omega)).mono fun e w' ⟨h1, h2⟩ => ⟨h1, h2 ▸ Below.refl _ _⟩
theorem Bo.wrap {w0 w : World} {hr gl fr n last : Nat} {ks : List Nat} {g : Nat → Bk} {f : Nat → Nat} (S : Bo w0 w hr gl fr n last ks g f) : IntKind.i64.wrap (last : Int) = (last : Int) :=
  IntWalk.i64_in _ (by have := S.st.1.ok.lst; omega)
set_option maxRecDepth 100000 in
set_option maxHeartbeats 6400000 in
theorem plays_good (fr n x : Nat) (h1 : 1 ≤ fr) (h2 : fr + n ≤ 65536) (hx : x < 65536) {w : World} {A : Option Addr} {c : Nat} {l : List Cl} (C : Cs w A c l) (hlen : l.length ≤ 100) :
    Calls Try.prog 3 #[.int .i64 (fr : Nat), .int .i64 (n : Nat), .slice A l.length c, .int .u16 (x : Nat)] w fun e w' => e = .returned (.bool true) ∧ Below w.heap.size w w' := by
  have HCs := Lib.hid C
  have HAL := Lib.hid alive_any
  have q1 : decide ((l.length : Int) > 100) = false := decide_eq_false (by omega)
  have HN := Lib.hid (new_good fr n w h1 h2 gA)
  have H12 := Lib.hid (And.intro h1 h2)
  clear C h1 h2
  go_enter Try.func3, Try.ntmps3
  go_wp2_with fail
  refine HN.out.mono ?_
  rintro e w1 ⟨rfl, hp, hb⟩
  have S1 := Lib.hid (show StB w w1 (w.heap.size + 1) w.heap.size fr n 0 [] gA from ⟨⟨hp, OKSt.start H12.out.1 H12.out.2 _⟩, hb⟩)
  have HR := Lib.hid (rnew_good fr n w1 H12.out.1 H12.out.2)
  clear hp hb HN
  go_wp2_with fail
  refine HR.out.mono ?_
  rintro e w2 ⟨hr, gl, rfl, hR, hb2⟩
  have SB := Lib.hid (show Bo w w2 hr gl fr n 0 [] gA (fun _ => 0) from ⟨S1.out.held hb2, hR.base (by have := S1.out.1.at_.lt; omega), Rl.start _⟩)
  clear hR hb2 HR S1
  go_wp2
  clear q1
  go_loopg [12] l.length (fun gh si wr => ∃ (i last : Nat) (ks : List Nat) (g : Nat → Bk) (f : Nat → Nat), si = .int .i64 (i : Nat) ∧ i ≤ l.length ∧ l.length - i ≤ gh ∧ last ≤ i ∧ Hid (Bo w wr hr gl fr n last ks g f))
  case atStart => exact ⟨0, 0, [], gA, _, rfl, by omega, by omega, by omega, SB⟩
  case round =>
    obtain ⟨i, last, ks, g, f, rfl, hi1, hi2, hla, hbo⟩ := hrel
    by_cases hi : i < l.length
    · obtain ⟨b1, off1, eA, hb1, d0, d1, d2⟩ := HCs.out.spot hbo.out.st.2 hi
      have hfit := HCs.out.fit l[i] (List.getElem_mem _)
      obtain ⟨p, hpq⟩ : ∃ p, p = l[i] := ⟨_, rfl⟩
      rw [← hpq] at d0 d1 d2 hfit
      obtain ⟨dd, N, y⟩ := p
      dsimp only at d0 d1 d2 hfit
      subst eA
      have HFT := Lib.hid hfit
      have HDO := Lib.hid (fun (w' : World) (S : Bo w w' hr gl fr n last ks g f) => does_any S (by omega) HFT.out.1 HFT.out.2.2 HFT.out.2.1)
      have HLA := Lib.hid hla
      clear hpq hfit hla
      go_upto_region 12 with fail
      go_region_with (first
        | (go_at_call 10; (with_reducible refine (HDO.out _ hbo.out.drew).mono ?_); rintro e w3 ⟨rfl, last2, ks2, g2, f2, hl2, hB2⟩; have HL2 := Lib.hid hl2; have HB := Lib.hid hB2; have k2 := hB2.ref.c2; have k3 := hB2.wrap; clear hl2 hB2)
        | (go_at_call 11; (with_reducible refine HB.out.room.mono ?_); rintro e w4 ⟨rfl, hb4⟩; have HB := Lib.hid (HB.out.below hb4); have k2 := HB.out.ref.c2; clear hb4)
        | (go_at_call 12; (with_reducible refine HB.out.rroom.mono ?_); rintro e w4 ⟨rfl, hb4⟩; have HB := Lib.hid (HB.out.below hb4); have k2 := HB.out.ref.c2; clear hb4)
        | (go_at_call 13; (with_reducible refine HB.out.last.mono ?_); rintro e w4 ⟨rfl, hb4⟩; have HB := Lib.hid (HB.out.below hb4); have k2 := HB.out.ref.c2; clear hb4))
      all_goals
        clear HDO hbo d0 d1 d2
        go_wp2
        go_roundg (l.length - i - 1)
        case rel => exact ⟨i + 1, last2, ks2, g2, f2, by rfl, by omega, by omega, by have := HL2.out; have := HLA.out; omega, HB⟩
        case measure => omega
    · have hOK := hbo.out.st.1.ok
      obtain ⟨p, q, k, HA1, HA2⟩ : ∃ p q k : Int, Hid (∀ w', Bo w w' hr gl fr n last ks g f → Calls Try.prog 14 #[.pointer (some ⟨w.heap.size + 1, 0, none⟩), .int .u16 (x : Nat)] w' fun e w'' => e = .returned (.tuple #[.int .i64 p, .int .i64 q, .int .i64 k]) ∧ Below w'.heap.size w' w'') ∧
          Hid (∀ w', Bo w w' hr gl fr n last ks g f → Calls Try.prog 15 #[.pointer (some ⟨hr, 0, none⟩), .int .u16 (x : Nat)] w' fun e w'' => e = .returned (.tuple #[.int .i64 p, .int .i64 q, .int .i64 k]) ∧ Below w'.heap.size w' w'') := by
        by_cases hm : x ∈ ks
        · have hk1 := hOK.key x hm
          exact ⟨_, _, _, Lib.hid fun w' S => at_in S.st.1.at_ hm, Lib.hid fun w' S => (rat_in S.ref hOK.top ⟨hk1.1, hx⟩ (hOK.pos x hm) (hOK.lo x hm) (hOK.hi x hm) (fun i hi => S.rl.iff hOK hm hi)).mono fun e w'' ⟨h1, h2⟩ => ⟨h1, h2 ▸ Below.refl _ _⟩⟩
        · exact ⟨0, 0, 3, Lib.hid fun w' S => at_out S.st.1.at_ hm, Lib.hid fun w' S => (rat_out S.ref hOK.top hx (by
            by_cases h0 : x = 0
            · exact .inl h0
            · exact .inr fun i hi => S.rl.out hm h0 hi)).mono fun e w'' ⟨h1, h2⟩ => ⟨h1, h2 ▸ Below.refl _ _⟩⟩
      have HOK := Lib.hid hOK
      have hil : ¬ i < l.length := hi
      clear hOK hla
      go_wp2_with fail
      refine (HA1.out _ hbo.out).mono ?_
      rintro e w3 ⟨rfl, hb3⟩
      have HB3 := Lib.hid (hbo.out.below hb3)
      clear hb3 HA1 hbo
      go_wp2_with fail
      refine (HA2.out _ HB3.out).mono ?_
      rintro e w4 ⟨rfl, hb4⟩
      have HB4 := Lib.hid (HB3.out.below hb4)
      clear hb4 HA2 HB3
      go_wp2_with fail
      refine (live_any HB4.out.st.1.at_ (by have := HOK.out.len; have := HOK.out.lst; omega)).mono ?_
      rintro e w5 ⟨v, L, rfl, hpm, hpw, hrow, hb5⟩
      obtain ⟨A1, c1, rfl, hr1⟩ := own_form hrow
      have HB5 := Lib.hid (HB4.out.below hb5)
      have HLE := Lib.hid (liveT_eq HOK.out HB5.out.rl hpm hpw)
      have HLL := Lib.hid (show L.length ≤ 70000 by have := hpm.length_eq; have := HOK.out.len; have := HOK.out.lst; omega)
      have HR1 := Lib.hid hr1
      clear hpm hpw hrow hb5 hr1 HB4
      go_wp2_with fail
      refine (rlive_any HB5.out.ref HOK.out.lst (fun i hi => by
        by_cases h0 : f i = 0
        · omega
        · exact (HOK.out.key _ (HB5.out.rl.own i hi h0).1).2) (by have := HOK.out.top; omega)).mono ?_
      rintro e w6 ⟨v2, rfl, hrow2, hb6⟩
      rw [HLE.out] at hrow2
      obtain ⟨A2, c2, rfl, hr2⟩ := own_form hrow2
      have HR2 := Lib.hid hr2
      have HR1b := Lib.hid ((HR1.out.below hb6).more hb6.size)
      have HB6 := Lib.hid (HB5.out.below hb6)
      have hs := same_any (c1 := c1) (c2 := c2) HLL.out HR1b.out HR2.out
      unfold SameT at hs
      have HSM := Lib.hid hs
      clear hrow2 hr2 hb6 hs HR1 HB5
      go_wp2_with fail
      refine HSM.out.mono ?_
      rintro e w7 ⟨rfl, hb7⟩
      have HB7 := Lib.hid (HB6.out.below hb7)
      clear hb7 HSM HB6
      go_wp2_with fail
      refine (HAL.out _).mono ?_
      rintro e w8 ⟨rfl, hb8⟩
      have HB8 := Lib.hid (HB7.out.below hb8)
      clear hb8 HB7
      go_wp2
      go_ret
      exact ⟨rfl, HB8.out.st.2⟩
set_option maxRecDepth 100000 in
set_option maxHeartbeats 3200000 in
theorem plays_bad (fr n : Int) (x : Nat) (hb : fr < 1 ∨ fr > 65536 ∨ n < 0 ∨ n > 65536 - fr) (hn : n ≤ 9223372036854775807) (hfr : -9223372036854775808 ≤ fr) {w : World} {A : Option Addr} {c : Nat} {m : Nat} (hlen : m ≤ 100) :
    Calls Try.prog 3 #[.int .i64 fr, .int .i64 n, .slice A m c, .int .u16 (x : Nat)] w fun e w' => e = .returned (.bool true) ∧ Below w.heap.size w w' := by
  have q1 : decide ((m : Int) > 100) = false := decide_eq_false (by omega)
  have H1 := Lib.hid (new_bad fr n w hb hn hfr)
  have H2 := Lib.hid (rnew_bad fr n w hb hn hfr)
  have HAL := Lib.hid (alive_any w)
  clear hb hn hfr
  go_enter Try.func3, Try.ntmps3
  go_wp2_with fail
  refine H1.out.mono ?_
  rintro e w1 ⟨rfl, hw⟩
  have hw2 := hw.symm
  subst hw2
  clear hw
  go_wp2_with fail
  refine H2.out.mono ?_
  rintro e w1 ⟨rfl, hw⟩
  have hw2 := hw.symm
  subst hw2
  clear hw
  go_wp2_with fail
  refine HAL.out.mono ?_
  rintro e w8 ⟨rfl, hb8⟩
  have HB8 := Lib.hid hb8
  clear hb8
  go_wp2
  go_ret
  exact ⟨rfl, HB8.out⟩
set_option maxRecDepth 100000 in
set_option maxHeartbeats 3200000 in
theorem plays_long (fr n : Int) (x : Nat) {w : World} {A : Option Addr} {c : Nat} {m : Nat} (hlen : 100 < m) :
    Calls Try.prog 3 #[.int .i64 fr, .int .i64 n, .slice A m c, .int .u16 (x : Nat)] w fun e w' => e = .returned (.bool true) ∧ Below w.heap.size w w' := by
  have q1 : decide ((m : Int) > 100) = true := decide_eq_true (by omega)
  have q2 : (100 : Int) < (m : Int) := by omega
  have HAL := Lib.hid (alive_any w)
  go_enter Try.func3, Try.ntmps3
  go_wp2_with fail
  refine HAL.out.mono ?_
  rintro e w8 ⟨rfl, hb8⟩
  have HB8 := Lib.hid hb8
  clear hb8
  go_wp2
  go_ret
  exact ⟨rfl, HB8.out⟩
theorem plays_walk (fr : Int) (hf : (Lit.int .i64 fr).wf = true) (n : Int) (hn : (Lit.int .i64 n).wf = true) {w : World} {A : Option Addr} {c : Nat} {l : List Cl} (h : Cs w A c l) (x : Int) (hx : (Lit.int .u16 x).wf = true) :
    Calls Try.prog 3 #[.int .i64 fr, .int .i64 n, .slice A l.length c, .int .u16 x] w fun e w' => e = .returned (.bool true) ∧ Below w.heap.size w w' := by
  obtain ⟨f1, f2⟩ := bounds_i64 hf
  obtain ⟨n1, n2⟩ := bounds_i64 hn
  obtain ⟨x1, x2⟩ := bounds_u16 hx
  obtain ⟨y, rfl⟩ : ∃ y : Nat, x = y := ⟨x.toNat, by omega⟩
  by_cases hl : l.length ≤ 100
  · by_cases hb : fr < 1 ∨ fr > 65536 ∨ n < 0 ∨ n > 65536 - fr
    · exact plays_bad fr n y hb (by omega) (by omega) hl
    · obtain ⟨fr', rfl⟩ : ∃ y : Nat, fr = y := ⟨fr.toNat, by omega⟩
      obtain ⟨n', rfl⟩ : ∃ y : Nat, n = y := ⟨n.toNat, by omega⟩
      exact plays_good fr' n' y (by omega) (by omega) (by omega) h hl
  · exact plays_long fr n y (by omega)
end Go.Proofs.Ytfdpcjdghmdkkaa.Hp
