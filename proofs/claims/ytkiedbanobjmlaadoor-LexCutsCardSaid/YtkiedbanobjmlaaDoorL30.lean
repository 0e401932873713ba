/- LexCuts: the walk. -/
import Derived.Test.YtkiedbanobjmlaaDoorL29
import Derived.BigQuiet
import Derived.Deep.QuietTactic
set_option linter.unusedSimpArgs false
set_option linter.unusedVariables false
namespace Go.Proofs.YtkiedbanobjmlaaDoor.Lx
open Go.RowKit
open Pl Fl
attribute [local go_sem] run_store_complexL

set_option maxRecDepth 100000 in
set_option maxHeartbeats 3200000 in
theorem cuts_works (s t : ByteArray) {w : World} (E : EnvJ w) (h : 1024 < s.size ∨ 1024 < t.size) : Calls Tryd.prog 8 #[.string s, .string t] w fun e w' => e = .returned (.bool true) ∧ Below w.heap.size w w' := by
  have HWK := Lib.hid (works_any E)
  clear E
  by_cases h1 : 1024 < s.size
  · have x0 : (1024 : Int) < (s.size : Int) := by omega
    clear h
    go_enter Tryd.func8, Tryd.ntmps8
    go_wp2_with fail
    refine HWK.out.mono ?_
    rintro e w1 ⟨rfl, hb⟩
    have HB := Lib.hid hb
    clear hb
    go_wp2
    go_ret
    exact ⟨rfl, HB.out⟩
  · have x0 : ¬ (1024 : Int) < (s.size : Int) := by omega
    have x1 : (1024 : Int) < (t.size : Int) := by omega
    clear h
    go_enter Tryd.func8, Tryd.ntmps8
    go_wp2_with fail
    refine HWK.out.mono ?_
    rintro e w1 ⟨rfl, hb⟩
    have HB := Lib.hid hb
    clear hb
    go_wp2
    go_ret
    exact ⟨rfl, HB.out⟩
theorem in_at (s : ByteArray) {src : List UInt8} (h : s.data.toList = src) (hs : src.length ≤ 1024) (k : Nat) (hk : k ≤ src.length) (w : World) : Calls Tryd.prog 22 #[.string s, .complex .f64 (fl (at_ src k).1) (fl (at_ src k).2)] w fun e w' => e = .returned (.tuple #[.int .i64 k, .bool true]) ∧ w = w' := by
  have hl : s.data.toList.length = s.size := by simp
  have hb := at_is src (by omega) k
  have := In_any s (at_ src k) w (by omega) (by omega) (by rw [h] at hl; omega)
  rw [h, idx_at (by omega) hk] at this
  exact this
set_option maxRecDepth 100000 in
set_option maxHeartbeats 6400000 in
theorem cuts_bad (s t : ByteArray) {w : World} (E : EnvJ w) (hs : s.size ≤ 1024) (ht : t.size ≤ 1024) {i k : Nat} (hsc : scanL s.data.toList = .error (i, k)) : Calls Tryd.prog 8 #[.string s, .string t] w fun e w' => e = .returned (.bool true) ∧ Below w.heap.size w w' := by
  have x0 : ¬ (1024 : Int) < (s.size : Int) := by omega
  have x1 : ¬ (1024 : Int) < (t.size : Int) := by omega
  have HE := Lib.hid E
  have HS := Lib.hid (Scan_any s (by omega) E.toEnvS)
  have hsl : s.data.toList.length = s.size := by simp
  have htl : t.data.toList.length = t.size := by simp
  have hi := scanL_pos hsc (by omega)
  have hk := scanL_err hsc
  have hst : (s ++ ⟨#[10]⟩ ++ t).data.toList = s.data.toList ++ 10 :: t.data.toList := by simp
  have hsz : (s ++ ⟨#[10]⟩ ++ t).size ≤ 2049 := by
    have h10 : (⟨#[10]⟩ : ByteArray).size = 1 := rfl
    rw [ByteArray.size_append, ByteArray.size_append, h10]; omega
  have hat : at_ (s.data.toList ++ 10 :: t.data.toList) i = at_ s.data.toList i := by
    unfold at_
    rw [List.take_append_of_le_length (by omega)]
  have HNL := Lib.hid (fun (h : k ≠ 43) => scanL_nl (r := t.data.toList) hsc (by simp only [List.length_append, List.length_cons]; omega) h)
  have HIN := Lib.hid (fun (wx : World) => in_at s rfl (by omega) i (by omega) wx)
  have HS2 := Lib.hid (fun (wx : World) (hb : Below w.heap.size w wx) => Scan_any (s ++ ⟨#[10]⟩ ++ t) (by omega) (E.below hb).toEnvS)
  rw [hsc] at HS
  rw [hst] at HS2
  have HSZ := Lib.hid hsz
  have z1 : ¬ 9223372036854775807 < s.size + 1 := by omega
  have z2 : ¬ 9223372036854775807 < s.size + 1 + t.size := by omega
  have hbd := at_is s.data.toList (by omega) i
  generalize hsrc : s.data.toList = src at *
  generalize ht2 : t.data.toList = tl at *
  have sp := same_c (at_ src i) (at_ src i) (by omega) (by omega) (by omega) (by omega)
  rw [show decide (at_ src i = at_ src i) = true by simp] at sp
  have HAT := Lib.hid hat
  have k0 : ((k : Int) != 0) = true := by simp only [bne_iff_ne, ne_eq]; omega
  have k1 : ¬ (s.size : Int) ≤ (i : Int) := by omega
  have k2 : (i : Int) < (s.size : Int) := by omega
  clear hsrc ht2 hst hsz hat hbd E hsc
  go_enter Tryd.func8, Tryd.ntmps8
  go_wp2_with fail
  refine HS.out.mono ?_
  rintro e w1 ⟨rfl, hb1⟩
  have HB1 := Lib.hid hb1
  clear hb1 HS
  go_wp2_with fail
  with_reducible refine (HIN.out _).mono ?_
  rintro e w2 ⟨rfl, rfl⟩
  rcases hk with rfl | rfl | rfl | rfl | rfl
  case inr.inl =>
    have hn := HNL.out (by omega)
    rw [hn] at HS2
    clear hn HNL
    go_wp2_with fail
    with_reducible refine (HS2.out _ HB1.out).mono ?_
    rintro e w3 h3
    simp only [scanEnd, HAT.out] at h3
    obtain ⟨rfl, hb3⟩ := h3
    have HB3 := Lib.hid (HB1.out.trans (hb3.mono HB1.out.size))
    have HWK := Lib.hid (works_any (HE.out.below HB3.out))
    clear hb3 HS2
    go_wp2_with fail
    refine HWK.out.mono ?_
    rintro e w4 ⟨rfl, hb4⟩
    have HB4 := Lib.hid (HB3.out.trans (hb4.mono HB3.out.size))
    clear hb4
    go_wp2
    go_ret
    exact ⟨rfl, HB4.out⟩
  case inr.inr.inl =>
    have hn := HNL.out (by omega)
    rw [hn] at HS2
    clear hn HNL
    go_wp2_with fail
    with_reducible refine (HS2.out _ HB1.out).mono ?_
    rintro e w3 h3
    simp only [scanEnd, HAT.out] at h3
    obtain ⟨rfl, hb3⟩ := h3
    have HB3 := Lib.hid (HB1.out.trans (hb3.mono HB1.out.size))
    have HWK := Lib.hid (works_any (HE.out.below HB3.out))
    clear hb3 HS2
    go_wp2_with fail
    refine HWK.out.mono ?_
    rintro e w4 ⟨rfl, hb4⟩
    have HB4 := Lib.hid (HB3.out.trans (hb4.mono HB3.out.size))
    clear hb4
    go_wp2
    go_ret
    exact ⟨rfl, HB4.out⟩
  case inr.inr.inr.inl =>
    have hn := HNL.out (by omega)
    rw [hn] at HS2
    clear hn HNL
    go_wp2_with fail
    with_reducible refine (HS2.out _ HB1.out).mono ?_
    rintro e w3 h3
    simp only [scanEnd, HAT.out] at h3
    obtain ⟨rfl, hb3⟩ := h3
    have HB3 := Lib.hid (HB1.out.trans (hb3.mono HB1.out.size))
    have HWK := Lib.hid (works_any (HE.out.below HB3.out))
    clear hb3 HS2
    go_wp2_with fail
    refine HWK.out.mono ?_
    rintro e w4 ⟨rfl, hb4⟩
    have HB4 := Lib.hid (HB3.out.trans (hb4.mono HB3.out.size))
    clear hb4
    go_wp2
    go_ret
    exact ⟨rfl, HB4.out⟩
  case inl =>
    clear HNL
    go_wp2_with fail
    with_reducible refine (HS2.out _ HB1.out).mono ?_
    rintro e w3 h3
    cases hq : scanL (src ++ 10 :: tl) with
    | error jk =>
      obtain ⟨j, k'⟩ := jk
      rw [hq] at h3
      obtain ⟨rfl, hb3⟩ := h3
      have HB3 := Lib.hid (HB1.out.trans (hb3.mono HB1.out.size))
      have HWK := Lib.hid (works_any (HE.out.below HB3.out))
      clear hb3 HS2 hq
      go_wp2_with fail
      refine HWK.out.mono ?_
      rintro e w4 ⟨rfl, hb4⟩
      have HB4 := Lib.hid (HB3.out.trans (hb4.mono HB3.out.size))
      clear hb4
      go_wp2
      go_ret
      exact ⟨rfl, HB4.out⟩
    | ok l =>
      rw [hq] at h3
      obtain ⟨g3, c3, rfl, _, hb3⟩ := h3
      have HB3 := Lib.hid (HB1.out.trans (hb3.mono HB1.out.size))
      have HWK := Lib.hid (works_any (HE.out.below HB3.out))
      clear hb3 HS2 hq
      go_wp2_with fail
      refine HWK.out.mono ?_
      rintro e w4 ⟨rfl, hb4⟩
      have HB4 := Lib.hid (HB3.out.trans (hb4.mono HB3.out.size))
      clear hb4
      go_wp2
      go_ret
      exact ⟨rfl, HB4.out⟩
  case inr.inr.inr.inr =>
    clear HNL
    go_wp2_with fail
    with_reducible refine (HS2.out _ HB1.out).mono ?_
    rintro e w3 h3
    cases hq : scanL (src ++ 10 :: tl) with
    | error jk =>
      obtain ⟨j, k'⟩ := jk
      rw [hq] at h3
      obtain ⟨rfl, hb3⟩ := h3
      have HB3 := Lib.hid (HB1.out.trans (hb3.mono HB1.out.size))
      have HWK := Lib.hid (works_any (HE.out.below HB3.out))
      clear hb3 HS2 hq
      go_wp2_with fail
      refine HWK.out.mono ?_
      rintro e w4 ⟨rfl, hb4⟩
      have HB4 := Lib.hid (HB3.out.trans (hb4.mono HB3.out.size))
      clear hb4
      go_wp2
      go_ret
      exact ⟨rfl, HB4.out⟩
    | ok l =>
      rw [hq] at h3
      obtain ⟨g3, c3, rfl, _, hb3⟩ := h3
      have HB3 := Lib.hid (HB1.out.trans (hb3.mono HB1.out.size))
      have HWK := Lib.hid (works_any (HE.out.below HB3.out))
      clear hb3 HS2 hq
      go_wp2_with fail
      refine HWK.out.mono ?_
      rintro e w4 ⟨rfl, hb4⟩
      have HB4 := Lib.hid (HB3.out.trans (hb4.mono HB3.out.size))
      clear hb4
      go_wp2
      go_ret
      exact ⟨rfl, HB4.out⟩
end Go.Proofs.YtkiedbanobjmlaaDoor.Lx
