/- The walks of the law package's works and heavy. -/
import Derived.Test.YtpomnihgimgpdaaDoorP13
set_option linter.unusedSimpArgs false
set_option linter.unusedVariables false
namespace Go.Proofs.YtpomnihgimgpdaaDoor.Pl
open Go.RowKit
open Fl
open Num

theorem tabs_tab {w : World} (h : Tabs w) : Tab w := by
  obtain ⟨h, _⟩ := h; exact h
theorem k_behind (w : World) : Calls Tryd.prog 17 #[C (1, 1), .string ⟨#[97, 98, 10, 99]⟩] w fun e w' => e = .returned (C (2, 2)) ∧ w = w' := by
  have h := Behind_any (1, 1) ⟨#[97, 98, 10, 99]⟩ w (by decide) (by decide) (by decide)
  rw [show behN (1, 1) (⟨#[97, 98, 10, 99]⟩ : ByteArray).data.toList = (2, 2) from by decide +kernel] at h
  exact h
theorem dec_2 : Lib.decDigits 2 = [50] := by rw [dec_small 2 (by omega)]; rfl
theorem text_22 : textN (2, 2) = [50, 58, 50] := by rw [textN_in (by decide)]; show Lib.decDigits 2 ++ 58 :: Lib.decDigits 2 = _; rw [dec_2]; rfl
theorem num_50 : numN [50] = 2 := by have h := inN_dec 2 (by omega); rw [dec_2] at h; exact h
theorem read_22 : readN [50, 58, 50] = (2, 2) := by
  show readFrom [] (50 :: 58 :: [50]) = _
  rw [readFrom_next _ (by decide), readFrom_here _ (by decide)]
  rw [show ([] ++ [50] : List UInt8) = [50] from rfl, readP_ok (by rw [num_50]; decide), num_50]
theorem k_read (w : World) (ht : Tabs w) : Calls Tryd.prog 24 #[.string ⟨#[50, 58, 50]⟩] w fun e w' => e = .returned (.tuple #[C (2, 2), .bool true]) ∧ Below w.heap.size w w' := by
  have h := Read_any ⟨#[50, 58, 50]⟩ w (by decide) ht
  rw [show readN (⟨#[50, 58, 50]⟩ : ByteArray).data.toList = (2, 2) from read_22] at h
  exact h
theorem k_of (w : World) : Calls Tryd.prog 11 #[.int .i64 2, .int .i64 2] w fun e w' => e = .returned (C (2, 2)) ∧ w = w' := Of_any 2 2 w
theorem k_line (w : World) : Calls Tryd.prog 15 #[C (2, 2)] w fun e w' => e = .returned (.int .i64 2) ∧ w = w' := Line_any (2, 2) w (by decide) (by decide)
theorem k_column (w : World) : Calls Tryd.prog 16 #[C (2, 2)] w fun e w' => e = .returned (.int .i64 2) ∧ w = w' := Column_any (2, 2) w (by decide) (by decide)
theorem k_text (w : World) (ht : Tab w) : Calls Tryd.prog 20 #[C (2, 2)] w fun e w' => e = .returned (.string ⟨#[50, 58, 50]⟩) ∧ Below w.heap.size w w' := by
  have h := Text_any (2, 2) w (by decide) (by decide) ht
  rw [text_22] at h
  exact h
theorem k_before (w : World) : Calls Tryd.prog 19 #[C (1, 1), C (2, 2)] w fun e w' => e = .returned (.bool true) ∧ w = w' := Before_any (1, 1) (2, 2) w (by decide) (by decide) (by decide) (by decide)
theorem k_same (w : World) : Calls Tryd.prog 19 #[C (2, 2), C (2, 2)] w fun e w' => e = .returned (.bool false) ∧ w = w' := Before_any (2, 2) (2, 2) w (by decide) (by decide) (by decide) (by decide)
theorem same_22 : ((FloatKind.f64.format.order (fl 2) (fl 2) == some .eq) && (FloatKind.f64.format.order (fl 2) (fl 2) == some .eq)) = true := same_c (2, 2) (2, 2) (by decide) (by decide) (by decide) (by decide)

set_option maxHeartbeats 1600000 in
theorem works_any (w : World) (ht : Tabs w) : Calls Tryd.prog 10 #[] w fun e w' => e = .returned (.bool true) ∧ Below w.heap.size w w' := by
  have HT := Lib.hid ht
  have hs := same_22
  have c1 := Lib.hid k_behind
  have c2 := Lib.hid k_read
  have c3 := Lib.hid k_of
  have c4 := Lib.hid k_line
  have c5 := Lib.hid k_column
  have c6 := Lib.hid k_text
  have c7 := Lib.hid k_before
  have c8 := Lib.hid k_same
  have c0 := Lib.hid Begin_any
  clear ht
  unfold C at c0 c1 c2 c3 c4 c5 c6 c7 c8
  go_enter Tryd.func10, Tryd.ntmps10
  go_wp2_with fail
  ((with_reducible refine (c0.out _).mono ?_); rintro e w' ⟨rfl, rfl⟩)
  go_wp2_with fail
  ((with_reducible refine (c1.out _).mono ?_); rintro e w' ⟨rfl, rfl⟩)
  go_wp2_with fail
  ((with_reducible refine (c2.out _ HT.out).mono ?_); rintro e x1 ⟨rfl, h1⟩)
  go_wp2_with fail
  ((with_reducible refine (c3.out _).mono ?_); rintro e w' ⟨rfl, rfl⟩)
  go_wp2_with fail
  ((with_reducible refine (c4.out _).mono ?_); rintro e w' ⟨rfl, rfl⟩)
  go_wp2_with fail
  ((with_reducible refine (c5.out _).mono ?_); rintro e w' ⟨rfl, rfl⟩)
  go_wp2_with fail
  ((with_reducible refine (c6.out _ (tabs_tab (tabs_below HT.out h1))).mono ?_); rintro e x2 ⟨rfl, h2⟩)
  replace h2 := h1.trans (h2.mono h1.size)
  go_wp2_with fail
  ((with_reducible refine (c0.out _).mono ?_); rintro e w' ⟨rfl, rfl⟩)
  go_wp2_with fail
  ((with_reducible refine (c7.out _).mono ?_); rintro e w' ⟨rfl, rfl⟩)
  go_wp2_with fail
  ((with_reducible refine (c8.out _).mono ?_); rintro e w' ⟨rfl, rfl⟩)
  go_wp2
  go_ret
  exact ⟨rfl, h2⟩

theorem heavy_any (s : ByteArray) (w : World) (hs : s.size ≤ 9223372036854775807) : Calls Tryd.prog 9 #[.string s] w fun e w' => e = .returned (.bool (decide (4096 < s.size))) ∧ w = w' := by
  go_enter Tryd.func9, Tryd.ntmps9
  go_wp2
  go_ret
  exact ⟨ret_bool (by rw [Bool.eq_iff_iff]; simp; omega), rfl⟩

end Go.Proofs.YtpomnihgimgpdaaDoor.Pl
