/- LexScans: the walk. -/
import Derived.Test.YtkiedbanobjmlaaDoorL14
import Derived.Test.YtkiedbanobjmlaaDoorR11
set_option linter.unusedSimpArgs false
set_option linter.unusedVariables false
namespace Go.Proofs.YtkiedbanobjmlaaDoor.Lx
open Go.RowKit
open Pl Fl

theorem own_reads {w : World} {src : List UInt8} {base n g cap : Nat} {xs : List Value} (h : w.ownsRow base 35 5 (.slice (some ⟨g, 0, none⟩) n cap) n xs) : Reads w w.heap.size 5 (some ⟨g, 0, none⟩) n xs := by
  obtain ⟨A, c, e, h⟩ := own_form h
  injection e with e1 e2 e3
  subst e1
  exact h
theorem scanF_len : ∀ (f i : Nat) (s : List UInt8) (l : List Tok), scanF f i s = .ok l → l.length ≤ s.length + 1 := by
  intro f
  induction f with
  | zero => intro i s l h; unfold scanF at h; cases h
  | succ f ih =>
    intro i s l h
    unfold scanF at h
    split at h
    · injection h with h; subst h; simp
    · rename_i hs
      obtain ⟨b1, b2⟩ := item_bd s hs
      split at h
      · cases h
      · rename_i n hi
        have := b1 n hi
        have := ih _ _ _ h
        rw [List.length_drop] at this
        omega
      · rename_i t n hi
        have := b2 t n hi
        cases e : scanF f (i + n) (s.drop n) with
        | error k => rw [e] at h; cases h
        | ok l' =>
          rw [e] at h
          injection h with h
          subst h
          have := ih _ _ _ e
          rw [List.length_drop] at this
          simp only [List.length_cons]
          omega
theorem scanL_len {s : List UInt8} {l : List Tok} (h : scanL s = .ok l) : l.length ≤ 16385 ∧ s.length ≤ 16384 := by
  unfold scanL at h
  split at h
  · cases h
  · have := scanF_len _ _ _ _ h
    omega
set_option maxRecDepth 100000 in
set_option maxHeartbeats 6400000 in
theorem scans_walk (s : ByteArray) {w : World} (E : EnvJ w) : Calls Tryd.prog 3 #[.string s] w fun e w' => e = .returned (.bool true) ∧ Below w.heap.size w w' := by
  have HE := Lib.hid E
  by_cases hbig : 16394 < s.size
  · have x0 : (16394 : Int) < (s.size : Int) := by omega
    have HWK := Lib.hid (works_any E)
    clear E
    go_enter Tryd.func3, Tryd.ntmps3
    go_wp2_with fail
    refine HWK.out.mono ?_
    rintro e w1 ⟨rfl, hb⟩
    have HB := Lib.hid hb
    clear hb
    go_wp2
    go_ret
    exact ⟨rfl, HB.out⟩
  have x0 : ¬ (16394 : Int) < (s.size : Int) := by omega
  have HS := Lib.hid (Scan_any s (by omega) E.toEnvS)
  have HRS := Lib.hid (fun (W : World) => rScan_any s (by omega) W)
  have hlen := fun l (h : scanL s.data.toList = .ok l) => scanL_len h
  have hats := fun (h : s.data.toList.length ≤ 16384) => at_is s.data.toList h
  have hbeg : at_ s.data.toList 0 = (1, 1) := rfl
  have herr : ∀ i k, scanL s.data.toList = .error (i, k) → isN (at_ s.data.toList i) = true ∧ (at_ s.data.toList i).1 < 4294967296 ∧ (at_ s.data.toList i).2 < 4294967296 := by
    intro i k h
    by_cases h16 : s.data.toList.length ≤ 16384
    · have := hats h16 i
      exact ⟨this.1, by omega, by omega⟩
    · unfold scanL at h
      rw [if_pos (by omega)] at h
      injection h with h
      injection h with h1 h2
      subst h1
      rw [hbeg]
      decide
  have HER := Lib.hid herr
  have HLN := Lib.hid hlen
  clear herr hlen hats hbeg E
  generalize hsrc : s.data.toList = src at *
  clear hsrc
  go_enter Tryd.func3, Tryd.ntmps3
  go_wp2_with fail
  refine HS.out.mono ?_
  rintro e w1 h1
  cases hsc : scanL src with
  | error ik =>
    obtain ⟨i, k⟩ := ik
    rw [hsc] at h1
    obtain ⟨rfl, hb1⟩ := h1
    obtain ⟨u1, u2, u3⟩ := HER.out i k hsc
    have HB1 := Lib.hid hb1
    have HSC := Lib.hid hsc
    have sp := same_c (at_ src i) (at_ src i) u2 u3 u2 u3
    rw [show decide (at_ src i = at_ src i) = true by simp] at sp
    clear hb1 hsc
    go_wp2_with fail
    refine (HRS.out _).mono ?_
    rintro e w2 h2
    rw [HSC.out] at h2
    obtain ⟨rfl, hb2⟩ := h2
    have HB2 := Lib.hid (HB1.out.trans (hb2.mono HB1.out.size))
    have HSM := Lib.hid (Same_any (s1 := []) (by decide) (l := []) (by decide) (A1 := none) (A2 := none) (c1 := 0) (c2 := 0) (w := w2) Reads.none_ Reads.none_)
    clear hb2
    go_wp2_with fail
    refine HSM.out.mono ?_
    rintro e w3 ⟨rfl, hb3⟩
    have HB3 := Lib.hid (HB2.out.trans (hb3.mono HB2.out.size))
    have HWK := Lib.hid (works_any (HE.out.below HB3.out))
    clear hb3
    go_wp2_with fail
    refine HWK.out.mono ?_
    rintro e w4 ⟨rfl, hb4⟩
    have HB4 := Lib.hid (HB3.out.trans (hb4.mono HB3.out.size))
    clear hb4
    go_wp2
    go_ret
    exact ⟨rfl, HB4.out⟩
  | ok l =>
    rw [hsc] at h1
    obtain ⟨g1, c1, rfl, hr1, hb1⟩ := h1
    have HB1 := Lib.hid hb1
    have HSC := Lib.hid hsc
    have HR1 := Lib.hid hr1
    have hln := HLN.out l hsc
    clear hb1 hsc hr1
    go_wp2_with fail
    refine (HRS.out _).mono ?_
    rintro e w2 h2
    rw [HSC.out] at h2
    obtain ⟨g2, c2, rfl, hr2, hb2⟩ := h2
    have HB2 := Lib.hid (HB1.out.trans (hb2.mono HB1.out.size))
    have HSM := Lib.hid (Same_any (c1 := c1) (c2 := c2) hln.2 (by omega) (Reads.rowBelow (src := src) (own_reads (src := src) HR1.out) hb2) (own_reads (src := src) hr2))
    clear hb2 hr2 hln HR1
    go_wp2_with fail
    refine HSM.out.mono ?_
    rintro e w3 ⟨rfl, hb3⟩
    have HB3 := Lib.hid (HB2.out.trans (hb3.mono HB2.out.size))
    have HWK := Lib.hid (works_any (HE.out.below HB3.out))
    clear hb3
    have sp := same_c (0, 0) (0, 0) (by decide) (by decide) (by decide) (by decide)
    rw [show decide (((0, 0) : Nat × Nat) = (0, 0)) = true by decide] at sp
    dsimp only at sp
    rw [fl_0] at sp
    go_wp2_with fail
    refine HWK.out.mono ?_
    rintro e w4 ⟨rfl, hb4⟩
    have HB4 := Lib.hid (HB3.out.trans (hb4.mono HB3.out.size))
    clear hb4
    go_wp2
    go_ret
    exact ⟨rfl, HB4.out⟩
end Go.Proofs.YtkiedbanobjmlaaDoor.Lx
