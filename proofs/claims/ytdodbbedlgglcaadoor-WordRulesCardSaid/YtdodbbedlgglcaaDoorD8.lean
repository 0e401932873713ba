/- The walks of the reference's quotient (joined), numbers and Does: Does is what word.Does is. -/
import Derived.Test.YtdodbbedlgglcaaDoorD6
set_option linter.unusedSimpArgs false
set_option linter.unusedVariables false
namespace Go.Proofs.YtdodbbedlgglcaaDoor.Wd
open Go.RowKit
open WPlain

theorem quo_any (a b : Int) (w : World) (ha : a.natAbs ≤ 65536) (hb : b.natAbs ≤ 65536) (h0 : b ≠ 0) : Calls Tryd.prog 73 #[.int .i64 a, .int .i64 b] w fun e w' => e = .returned (.tuple #[.int .i64 (a.tdiv b), .int .i64 (a.tmod b)]) ∧ w = w' := by
  by_cases h1 : 0 ≤ a <;> by_cases h2 : 0 < b
  · exact quopp a b w ha hb h1 h2
  · exact quopn a b w ha hb h1 (by omega)
  · exact quonp a b w ha hb (by omega) h2
  · exact quonn a b w ha hb (by omega) (by omega)

set_option maxHeartbeats 400000 in
theorem num1 (a b low high : Int) (w : World) (ha : a.natAbs ≤ 65536) (hb : b.natAbs ≤ 65536) (hl : -32768 ≤ low) (hh : high ≤ 65535) : Calls Tryd.prog 24 #[.int .u8 1, .int .i64 a, .int .i64 b, .int .i64 low, .int .i64 high] w fun e w' => e = .returned (tup (fitsP (a + b) low high)) ∧ w = w' := by
  have hc := rfits_any (a + b) low high w hl hh
  unfold tup at hc
  have HC := Lib.hid hc
  clear hc
  have hm := mul_abs a b 65536 65536 ha hb
  have b1 : -4294967296 ≤ a + b := by omega
  have b2 : a + b ≤ 4294967296 := by omega
  generalize fitsP (a + b) low high = r at *
  go_enter Tryd.func24, Tryd.ntmps24
  go_wp2_with fail
  ((with_reducible refine HC.out.mono ?_); rintro e w' ⟨rfl, rfl⟩)
  go_wp2
  go_ret2
  exact ⟨rfl, rfl⟩

set_option maxHeartbeats 400000 in
theorem num2 (a b low high : Int) (w : World) (ha : a.natAbs ≤ 65536) (hb : b.natAbs ≤ 65536) (hl : -32768 ≤ low) (hh : high ≤ 65535) : Calls Tryd.prog 24 #[.int .u8 2, .int .i64 a, .int .i64 b, .int .i64 low, .int .i64 high] w fun e w' => e = .returned (tup (fitsP (a - b) low high)) ∧ w = w' := by
  have hc := rfits_any (a - b) low high w hl hh
  unfold tup at hc
  have HC := Lib.hid hc
  clear hc
  have hm := mul_abs a b 65536 65536 ha hb
  have b1 : -4294967296 ≤ a - b := by omega
  have b2 : a - b ≤ 4294967296 := by omega
  generalize fitsP (a - b) low high = r at *
  go_enter Tryd.func24, Tryd.ntmps24
  go_wp2_with fail
  ((with_reducible refine HC.out.mono ?_); rintro e w' ⟨rfl, rfl⟩)
  go_wp2
  go_ret2
  exact ⟨rfl, rfl⟩

set_option maxHeartbeats 400000 in
theorem num3 (a b low high : Int) (w : World) (ha : a.natAbs ≤ 65536) (hb : b.natAbs ≤ 65536) (hl : -32768 ≤ low) (hh : high ≤ 65535) : Calls Tryd.prog 24 #[.int .u8 3, .int .i64 a, .int .i64 b, .int .i64 low, .int .i64 high] w fun e w' => e = .returned (tup (fitsP (a * b) low high)) ∧ w = w' := by
  have hc := rfits_any (a * b) low high w hl hh
  unfold tup at hc
  have HC := Lib.hid hc
  clear hc
  have hm := mul_abs a b 65536 65536 ha hb
  have b1 : -4294967296 ≤ a * b := by omega
  have b2 : a * b ≤ 4294967296 := by omega
  generalize fitsP (a * b) low high = r at *
  go_enter Tryd.func24, Tryd.ntmps24
  go_wp2_with fail
  ((with_reducible refine HC.out.mono ?_); rintro e w' ⟨rfl, rfl⟩)
  go_wp2
  go_ret2
  exact ⟨rfl, rfl⟩

set_option maxHeartbeats 400000 in
theorem num4 (a b low high : Int) (w : World) (ha : a.natAbs ≤ 65536) (hb : b.natAbs ≤ 65536) (hl : -32768 ≤ low) (hh : high ≤ 65535) : Calls Tryd.prog 24 #[.int .u8 4, .int .i64 a, .int .i64 b, .int .i64 low, .int .i64 high] w fun e w' => e = .returned (tup (overP b (fitsP (a.tdiv b) low high))) ∧ w = w' := by
  by_cases h0 : b = 0
  · subst h0
    go_enter Tryd.func24, Tryd.ntmps24
    go_wp2
    go_ret2
    exact ⟨rfl, rfl⟩
  · have hc := rfits_any (a.tdiv b) low high w hl hh
    have HP := Lib.hid (show overP b (fitsP (a.tdiv b) low high) = fitsP (a.tdiv b) low high from by unfold overP; rw [if_neg h0])
    unfold tup at hc
    have HC := Lib.hid hc
    clear hc
    have HQ := Lib.hid (quo_any a b w ha hb h0)
    generalize fitsP (a.tdiv b) low high = r at *
    generalize a.tdiv b = u at *
    generalize a.tmod b = v at *
    go_enter Tryd.func24, Tryd.ntmps24
    go_wp2_with fail
    ((with_reducible refine HQ.out.mono ?_); rintro e w' ⟨rfl, rfl⟩)
    go_wp2_with fail
    ((with_reducible refine HC.out.mono ?_); rintro e w' ⟨rfl, rfl⟩)
    go_wp2
    go_ret2
    exact ⟨by rw [HP.out]; rfl, rfl⟩

set_option maxHeartbeats 400000 in
theorem num5 (a b low high : Int) (w : World) (ha : a.natAbs ≤ 65536) (hb : b.natAbs ≤ 65536) (hl : -32768 ≤ low) (hh : high ≤ 65535) : Calls Tryd.prog 24 #[.int .u8 5, .int .i64 a, .int .i64 b, .int .i64 low, .int .i64 high] w fun e w' => e = .returned (tup (overP b (fitsP (a.tmod b) low high))) ∧ w = w' := by
  by_cases h0 : b = 0
  · subst h0
    go_enter Tryd.func24, Tryd.ntmps24
    go_wp2
    go_ret2
    exact ⟨rfl, rfl⟩
  · have hc := rfits_any (a.tmod b) low high w hl hh
    have HP := Lib.hid (show overP b (fitsP (a.tmod b) low high) = fitsP (a.tmod b) low high from by unfold overP; rw [if_neg h0])
    unfold tup at hc
    have HC := Lib.hid hc
    clear hc
    have HQ := Lib.hid (quo_any a b w ha hb h0)
    generalize fitsP (a.tmod b) low high = r at *
    generalize a.tdiv b = u at *
    generalize a.tmod b = v at *
    go_enter Tryd.func24, Tryd.ntmps24
    go_wp2_with fail
    ((with_reducible refine HQ.out.mono ?_); rintro e w' ⟨rfl, rfl⟩)
    go_wp2_with fail
    ((with_reducible refine HC.out.mono ?_); rintro e w' ⟨rfl, rfl⟩)
    go_wp2
    go_ret2
    exact ⟨by rw [HP.out]; rfl, rfl⟩
theorem rt1 (w : World) : Calls Tryd.prog 12 #[.int .u8 1] w fun e w' => e = .returned (.int .i64 2) ∧ w = w' := by
  have h := rtakes_any 1 w (by omega)
  rw [show takesP 1 = 2 from by decide] at h
  exact h
theorem rt2 (w : World) : Calls Tryd.prog 12 #[.int .u8 2] w fun e w' => e = .returned (.int .i64 2) ∧ w = w' := by
  have h := rtakes_any 2 w (by omega)
  rw [show takesP 2 = 2 from by decide] at h
  exact h
theorem rt3 (w : World) : Calls Tryd.prog 12 #[.int .u8 3] w fun e w' => e = .returned (.int .i64 2) ∧ w = w' := by
  have h := rtakes_any 3 w (by omega)
  rw [show takesP 3 = 2 from by decide] at h
  exact h
theorem rt4 (w : World) : Calls Tryd.prog 12 #[.int .u8 4] w fun e w' => e = .returned (.int .i64 2) ∧ w = w' := by
  have h := rtakes_any 4 w (by omega)
  rw [show takesP 4 = 2 from by decide] at h
  exact h
theorem rt5 (w : World) : Calls Tryd.prog 12 #[.int .u8 5] w fun e w' => e = .returned (.int .i64 2) ∧ w = w' := by
  have h := rtakes_any 5 w (by omega)
  rw [show takesP 5 = 2 from by decide] at h
  exact h
theorem rt6 (w : World) : Calls Tryd.prog 12 #[.int .u8 6] w fun e w' => e = .returned (.int .i64 1) ∧ w = w' := by
  have h := rtakes_any 6 w (by omega)
  rw [show takesP 6 = 1 from by decide] at h
  exact h
theorem rt7 (w : World) : Calls Tryd.prog 12 #[.int .u8 7] w fun e w' => e = .returned (.int .i64 1) ∧ w = w' := by
  have h := rtakes_any 7 w (by omega)
  rw [show takesP 7 = 1 from by decide] at h
  exact h
theorem rt8 (w : World) : Calls Tryd.prog 12 #[.int .u8 8] w fun e w' => e = .returned (.int .i64 2) ∧ w = w' := by
  have h := rtakes_any 8 w (by omega)
  rw [show takesP 8 = 2 from by decide] at h
  exact h
theorem rt9 (w : World) : Calls Tryd.prog 12 #[.int .u8 9] w fun e w' => e = .returned (.int .i64 2) ∧ w = w' := by
  have h := rtakes_any 9 w (by omega)
  rw [show takesP 9 = 2 from by decide] at h
  exact h
theorem rt10 (w : World) : Calls Tryd.prog 12 #[.int .u8 10] w fun e w' => e = .returned (.int .i64 2) ∧ w = w' := by
  have h := rtakes_any 10 w (by omega)
  rw [show takesP 10 = 2 from by decide] at h
  exact h
theorem rt11 (w : World) : Calls Tryd.prog 12 #[.int .u8 11] w fun e w' => e = .returned (.int .i64 2) ∧ w = w' := by
  have h := rtakes_any 11 w (by omega)
  rw [show takesP 11 = 2 from by decide] at h
  exact h
theorem rt12 (w : World) : Calls Tryd.prog 12 #[.int .u8 12] w fun e w' => e = .returned (.int .i64 2) ∧ w = w' := by
  have h := rtakes_any 12 w (by omega)
  rw [show takesP 12 = 2 from by decide] at h
  exact h
theorem rt13 (w : World) : Calls Tryd.prog 12 #[.int .u8 13] w fun e w' => e = .returned (.int .i64 2) ∧ w = w' := by
  have h := rtakes_any 13 w (by omega)
  rw [show takesP 13 = 2 from by decide] at h
  exact h
theorem rt14 (w : World) : Calls Tryd.prog 12 #[.int .u8 14] w fun e w' => e = .returned (.int .i64 2) ∧ w = w' := by
  have h := rtakes_any 14 w (by omega)
  rw [show takesP 14 = 2 from by decide] at h
  exact h
theorem rt15 (w : World) : Calls Tryd.prog 12 #[.int .u8 15] w fun e w' => e = .returned (.int .i64 2) ∧ w = w' := by
  have h := rtakes_any 15 w (by omega)
  rw [show takesP 15 = 2 from by decide] at h
  exact h
theorem rt16 (w : World) : Calls Tryd.prog 12 #[.int .u8 16] w fun e w' => e = .returned (.int .i64 2) ∧ w = w' := by
  have h := rtakes_any 16 w (by omega)
  rw [show takesP 16 = 2 from by decide] at h
  exact h
theorem rt17 (w : World) : Calls Tryd.prog 12 #[.int .u8 17] w fun e w' => e = .returned (.int .i64 2) ∧ w = w' := by
  have h := rtakes_any 17 w (by omega)
  rw [show takesP 17 = 2 from by decide] at h
  exact h
theorem rt18 (w : World) : Calls Tryd.prog 12 #[.int .u8 18] w fun e w' => e = .returned (.int .i64 2) ∧ w = w' := by
  have h := rtakes_any 18 w (by omega)
  rw [show takesP 18 = 2 from by decide] at h
  exact h
theorem rt19 (w : World) : Calls Tryd.prog 12 #[.int .u8 19] w fun e w' => e = .returned (.int .i64 2) ∧ w = w' := by
  have h := rtakes_any 19 w (by omega)
  rw [show takesP 19 = 2 from by decide] at h
  exact h
theorem rt20 (w : World) : Calls Tryd.prog 12 #[.int .u8 20] w fun e w' => e = .returned (.int .i64 2) ∧ w = w' := by
  have h := rtakes_any 20 w (by omega)
  rw [show takesP 20 = 2 from by decide] at h
  exact h
theorem rt21 (w : World) : Calls Tryd.prog 12 #[.int .u8 21] w fun e w' => e = .returned (.int .i64 2) ∧ w = w' := by
  have h := rtakes_any 21 w (by omega)
  rw [show takesP 21 = 2 from by decide] at h
  exact h
theorem rt22 (w : World) : Calls Tryd.prog 12 #[.int .u8 22] w fun e w' => e = .returned (.int .i64 2) ∧ w = w' := by
  have h := rtakes_any 22 w (by omega)
  rw [show takesP 22 = 2 from by decide] at h
  exact h
theorem rt23 (w : World) : Calls Tryd.prog 12 #[.int .u8 23] w fun e w' => e = .returned (.int .i64 1) ∧ w = w' := by
  have h := rtakes_any 23 w (by omega)
  rw [show takesP 23 = 1 from by decide] at h
  exact h
theorem rt24 (w : World) : Calls Tryd.prog 12 #[.int .u8 24] w fun e w' => e = .returned (.int .i64 2) ∧ w = w' := by
  have h := rtakes_any 24 w (by omega)
  rw [show takesP 24 = 2 from by decide] at h
  exact h
theorem rt25 (w : World) : Calls Tryd.prog 12 #[.int .u8 25] w fun e w' => e = .returned (.int .i64 2) ∧ w = w' := by
  have h := rtakes_any 25 w (by omega)
  rw [show takesP 25 = 2 from by decide] at h
  exact h
theorem rt26 (w : World) : Calls Tryd.prog 12 #[.int .u8 26] w fun e w' => e = .returned (.int .i64 2) ∧ w = w' := by
  have h := rtakes_any 26 w (by omega)
  rw [show takesP 26 = 2 from by decide] at h
  exact h
theorem rt27 (w : World) : Calls Tryd.prog 12 #[.int .u8 27] w fun e w' => e = .returned (.int .i64 2) ∧ w = w' := by
  have h := rtakes_any 27 w (by omega)
  rw [show takesP 27 = 2 from by decide] at h
  exact h
theorem rt28 (w : World) : Calls Tryd.prog 12 #[.int .u8 28] w fun e w' => e = .returned (.int .i64 2) ∧ w = w' := by
  have h := rtakes_any 28 w (by omega)
  rw [show takesP 28 = 2 from by decide] at h
  exact h
theorem rt29 (w : World) : Calls Tryd.prog 12 #[.int .u8 29] w fun e w' => e = .returned (.int .i64 2) ∧ w = w' := by
  have h := rtakes_any 29 w (by omega)
  rw [show takesP 29 = 2 from by decide] at h
  exact h
theorem rt30 (w : World) : Calls Tryd.prog 12 #[.int .u8 30] w fun e w' => e = .returned (.int .i64 1) ∧ w = w' := by
  have h := rtakes_any 30 w (by omega)
  rw [show takesP 30 = 1 from by decide] at h
  exact h
theorem rt31 (w : World) : Calls Tryd.prog 12 #[.int .u8 31] w fun e w' => e = .returned (.int .i64 2) ∧ w = w' := by
  have h := rtakes_any 31 w (by omega)
  rw [show takesP 31 = 2 from by decide] at h
  exact h

set_option maxRecDepth 100000 in
set_option maxHeartbeats 1600000 in
theorem rd1 (a b : Nat) (w : World) (ha : a < 65536) (hb : b < 65536) : Calls Tryd.prog 10 #[.int .u8 1, .int .u16 a, .int .u16 b] w fun e w' => e = .returned (tup (opP 1 a b)) ∧ w = w' := by
  have I1 := Lib.hid (rint_any a w ha)
  have I2 := Lib.hid (rint_any b w hb)
  obtain ⟨b1, b2⟩ := sg_bd a ha
  obtain ⟨b3, b4⟩ := sg_bd b hb
  have HP := Lib.hid (show opP 1 a b = fitsP (sg a + sg b) (-32768) 32767 from rfl)
  have hc := num1 (sg a) (sg b) (-32768) 32767 w (by omega) (by omega) (by omega) (by omega)
  unfold tup at hc
  have HC := Lib.hid hc
  clear hc
  generalize fitsP (sg a + sg b) (-32768) 32767 = r at *

  generalize sg a = x at *
  generalize sg b = y at *
  go_enter Tryd.func10, Tryd.ntmps10
  go_wp2_with fail
  ((with_reducible refine I1.out.mono ?_); rintro e w' ⟨rfl, rfl⟩)
  go_wp2_with fail
  ((with_reducible refine I2.out.mono ?_); rintro e w' ⟨rfl, rfl⟩)
  go_wp2_with fail
  ((with_reducible refine (rt1 _).mono ?_); rintro e w' ⟨rfl, rfl⟩)
  go_wp2_with fail
  ((with_reducible refine HC.out.mono ?_); rintro e w' ⟨rfl, rfl⟩)
  go_wp2
  go_ret2
  exact ⟨by rw [HP.out]; rfl, rfl⟩

set_option maxRecDepth 100000 in
set_option maxHeartbeats 1600000 in
theorem rd2 (a b : Nat) (w : World) (ha : a < 65536) (hb : b < 65536) : Calls Tryd.prog 10 #[.int .u8 2, .int .u16 a, .int .u16 b] w fun e w' => e = .returned (tup (opP 2 a b)) ∧ w = w' := by
  have I1 := Lib.hid (rint_any a w ha)
  have I2 := Lib.hid (rint_any b w hb)
  obtain ⟨b1, b2⟩ := sg_bd a ha
  obtain ⟨b3, b4⟩ := sg_bd b hb
  have HP := Lib.hid (show opP 2 a b = fitsP (sg a - sg b) (-32768) 32767 from rfl)
  have hc := num2 (sg a) (sg b) (-32768) 32767 w (by omega) (by omega) (by omega) (by omega)
  unfold tup at hc
  have HC := Lib.hid hc
  clear hc
  generalize fitsP (sg a - sg b) (-32768) 32767 = r at *

  generalize sg a = x at *
  generalize sg b = y at *
  go_enter Tryd.func10, Tryd.ntmps10
  go_wp2_with fail
  ((with_reducible refine I1.out.mono ?_); rintro e w' ⟨rfl, rfl⟩)
  go_wp2_with fail
  ((with_reducible refine I2.out.mono ?_); rintro e w' ⟨rfl, rfl⟩)
  go_wp2_with fail
  ((with_reducible refine (rt2 _).mono ?_); rintro e w' ⟨rfl, rfl⟩)
  go_wp2_with fail
  ((with_reducible refine HC.out.mono ?_); rintro e w' ⟨rfl, rfl⟩)
  go_wp2
  go_ret2
  exact ⟨by rw [HP.out]; rfl, rfl⟩

set_option maxRecDepth 100000 in
set_option maxHeartbeats 1600000 in
theorem rd3 (a b : Nat) (w : World) (ha : a < 65536) (hb : b < 65536) : Calls Tryd.prog 10 #[.int .u8 3, .int .u16 a, .int .u16 b] w fun e w' => e = .returned (tup (opP 3 a b)) ∧ w = w' := by
  have I1 := Lib.hid (rint_any a w ha)
  have I2 := Lib.hid (rint_any b w hb)
  obtain ⟨b1, b2⟩ := sg_bd a ha
  obtain ⟨b3, b4⟩ := sg_bd b hb
  have HP := Lib.hid (show opP 3 a b = fitsP (sg a * sg b) (-32768) 32767 from rfl)
  have hc := num3 (sg a) (sg b) (-32768) 32767 w (by omega) (by omega) (by omega) (by omega)
  unfold tup at hc
  have HC := Lib.hid hc
  clear hc
  generalize fitsP (sg a * sg b) (-32768) 32767 = r at *

  generalize sg a = x at *
  generalize sg b = y at *
  go_enter Tryd.func10, Tryd.ntmps10
  go_wp2_with fail
  ((with_reducible refine I1.out.mono ?_); rintro e w' ⟨rfl, rfl⟩)
  go_wp2_with fail
  ((with_reducible refine I2.out.mono ?_); rintro e w' ⟨rfl, rfl⟩)
  go_wp2_with fail
  ((with_reducible refine (rt3 _).mono ?_); rintro e w' ⟨rfl, rfl⟩)
  go_wp2_with fail
  ((with_reducible refine HC.out.mono ?_); rintro e w' ⟨rfl, rfl⟩)
  go_wp2
  go_ret2
  exact ⟨by rw [HP.out]; rfl, rfl⟩

set_option maxRecDepth 100000 in
set_option maxHeartbeats 1600000 in
theorem rd4 (a b : Nat) (w : World) (ha : a < 65536) (hb : b < 65536) : Calls Tryd.prog 10 #[.int .u8 4, .int .u16 a, .int .u16 b] w fun e w' => e = .returned (tup (opP 4 a b)) ∧ w = w' := by
  have I1 := Lib.hid (rint_any a w ha)
  have I2 := Lib.hid (rint_any b w hb)
  obtain ⟨b1, b2⟩ := sg_bd a ha
  obtain ⟨b3, b4⟩ := sg_bd b hb
  have HP := Lib.hid (show opP 4 a b = overP (sg b) (fitsP ((sg a).tdiv (sg b)) (-32768) 32767) from rfl)
  have hc := num4 (sg a) (sg b) (-32768) 32767 w (by omega) (by omega) (by omega) (by omega)
  unfold tup at hc
  have HC := Lib.hid hc
  clear hc
  generalize overP (sg b) (fitsP ((sg a).tdiv (sg b)) (-32768) 32767) = r at *

  generalize sg a = x at *
  generalize sg b = y at *
  go_enter Tryd.func10, Tryd.ntmps10
  go_wp2_with fail
  ((with_reducible refine I1.out.mono ?_); rintro e w' ⟨rfl, rfl⟩)
  go_wp2_with fail
  ((with_reducible refine I2.out.mono ?_); rintro e w' ⟨rfl, rfl⟩)
  go_wp2_with fail
  ((with_reducible refine (rt4 _).mono ?_); rintro e w' ⟨rfl, rfl⟩)
  go_wp2_with fail
  ((with_reducible refine HC.out.mono ?_); rintro e w' ⟨rfl, rfl⟩)
  go_wp2
  go_ret2
  exact ⟨by rw [HP.out]; rfl, rfl⟩

set_option maxRecDepth 100000 in
set_option maxHeartbeats 1600000 in
theorem rd5 (a b : Nat) (w : World) (ha : a < 65536) (hb : b < 65536) : Calls Tryd.prog 10 #[.int .u8 5, .int .u16 a, .int .u16 b] w fun e w' => e = .returned (tup (opP 5 a b)) ∧ w = w' := by
  have I1 := Lib.hid (rint_any a w ha)
  have I2 := Lib.hid (rint_any b w hb)
  obtain ⟨b1, b2⟩ := sg_bd a ha
  obtain ⟨b3, b4⟩ := sg_bd b hb
  have HP := Lib.hid (show opP 5 a b = overP (sg b) (fitsP ((sg a).tmod (sg b)) (-32768) 32767) from rfl)
  have hc := num5 (sg a) (sg b) (-32768) 32767 w (by omega) (by omega) (by omega) (by omega)
  unfold tup at hc
  have HC := Lib.hid hc
  clear hc
  generalize overP (sg b) (fitsP ((sg a).tmod (sg b)) (-32768) 32767) = r at *

  generalize sg a = x at *
  generalize sg b = y at *
  go_enter Tryd.func10, Tryd.ntmps10
  go_wp2_with fail
  ((with_reducible refine I1.out.mono ?_); rintro e w' ⟨rfl, rfl⟩)
  go_wp2_with fail
  ((with_reducible refine I2.out.mono ?_); rintro e w' ⟨rfl, rfl⟩)
  go_wp2_with fail
  ((with_reducible refine (rt5 _).mono ?_); rintro e w' ⟨rfl, rfl⟩)
  go_wp2_with fail
  ((with_reducible refine HC.out.mono ?_); rintro e w' ⟨rfl, rfl⟩)
  go_wp2
  go_ret2
  exact ⟨by rw [HP.out]; rfl, rfl⟩

set_option maxRecDepth 100000 in
set_option maxHeartbeats 1600000 in
theorem rd6 (a b : Nat) (w : World) (ha : a < 65536) (hb : b < 65536) : Calls Tryd.prog 10 #[.int .u8 6, .int .u16 a, .int .u16 b] w fun e w' => e = .returned (tup (opP 6 a b)) ∧ w = w' := by
  have I1 := Lib.hid (rint_any a w ha)
  have I2 := Lib.hid (rint_any b w hb)
  obtain ⟨b1, b2⟩ := sg_bd a ha
  obtain ⟨b3, b4⟩ := sg_bd b hb
  have HP := Lib.hid (show opP 6 a b = fitsP (-(sg a)) (-32768) 32767 from rfl)
  have hc := rfits_any (-(sg a)) (-32768) 32767 w (by omega) (by omega)
  unfold tup at hc
  have HC := Lib.hid hc
  clear hc
  generalize fitsP (-(sg a)) (-32768) 32767 = r at *

  generalize sg a = x at *
  generalize sg b = y at *
  go_enter Tryd.func10, Tryd.ntmps10
  go_wp2_with fail
  ((with_reducible refine I1.out.mono ?_); rintro e w' ⟨rfl, rfl⟩)
  go_wp2_with fail
  ((with_reducible refine I2.out.mono ?_); rintro e w' ⟨rfl, rfl⟩)
  go_wp2_with fail
  ((with_reducible refine (rt6 _).mono ?_); rintro e w' ⟨rfl, rfl⟩)
  go_wp2_with fail
  ((with_reducible refine HC.out.mono ?_); rintro e w' ⟨rfl, rfl⟩)
  go_wp2
  go_ret2
  exact ⟨by rw [HP.out]; rfl, rfl⟩

set_option maxRecDepth 100000 in
set_option maxHeartbeats 1600000 in
theorem rd7 (a b : Nat) (w : World) (ha : a < 65536) (hb : b < 65536) : Calls Tryd.prog 10 #[.int .u8 7, .int .u16 a, .int .u16 b] w fun e w' => e = .returned (tup (opP 7 a b)) ∧ w = w' := by
  have I1 := Lib.hid (rint_any a w ha)
  have I2 := Lib.hid (rint_any b w hb)
  obtain ⟨b1, b2⟩ := sg_bd a ha
  obtain ⟨b3, b4⟩ := sg_bd b hb
  by_cases hm : sg a < -(sg a)
  · have HP := Lib.hid (show opP 7 a b = fitsP (-(sg a)) (-32768) 32767 from by show fitsP (max (sg a) (-(sg a))) (-32768) 32767 = _; rw [show max (sg a) (-(sg a)) = -(sg a) from by omega])
    have hc := rfits_any (-(sg a)) (-32768) 32767 w (by omega) (by omega)
    unfold tup at hc
    have HC := Lib.hid hc
    clear hc
    generalize fitsP (-(sg a)) (-32768) 32767 = r at *

    generalize sg a = x at *
    generalize sg b = y at *
    go_enter Tryd.func10, Tryd.ntmps10
    go_wp2_with fail
    ((with_reducible refine I1.out.mono ?_); rintro e w' ⟨rfl, rfl⟩)
    go_wp2_with fail
    ((with_reducible refine I2.out.mono ?_); rintro e w' ⟨rfl, rfl⟩)
    go_wp2_with fail
    ((with_reducible refine (rt7 _).mono ?_); rintro e w' ⟨rfl, rfl⟩)
    go_wp2_with fail
    ((with_reducible refine HC.out.mono ?_); rintro e w' ⟨rfl, rfl⟩)
    go_wp2
    go_ret2
    exact ⟨by rw [HP.out]; rfl, rfl⟩
  · have HP := Lib.hid (show opP 7 a b = fitsP (sg a) (-32768) 32767 from by show fitsP (max (sg a) (-(sg a))) (-32768) 32767 = _; rw [show max (sg a) (-(sg a)) = sg a from by omega])
    have hc := rfits_any (sg a) (-32768) 32767 w (by omega) (by omega)
    unfold tup at hc
    have HC := Lib.hid hc
    clear hc
    generalize fitsP (sg a) (-32768) 32767 = r at *

    generalize sg a = x at *
    generalize sg b = y at *
    go_enter Tryd.func10, Tryd.ntmps10
    go_wp2_with fail
    ((with_reducible refine I1.out.mono ?_); rintro e w' ⟨rfl, rfl⟩)
    go_wp2_with fail
    ((with_reducible refine I2.out.mono ?_); rintro e w' ⟨rfl, rfl⟩)
    go_wp2_with fail
    ((with_reducible refine (rt7 _).mono ?_); rintro e w' ⟨rfl, rfl⟩)
    go_wp2_with fail
    ((with_reducible refine HC.out.mono ?_); rintro e w' ⟨rfl, rfl⟩)
    go_wp2
    go_ret2
    exact ⟨by rw [HP.out]; rfl, rfl⟩

set_option maxRecDepth 100000 in
set_option maxHeartbeats 1600000 in
theorem rd8 (a b : Nat) (w : World) (ha : a < 65536) (hb : b < 65536) : Calls Tryd.prog 10 #[.int .u8 8, .int .u16 a, .int .u16 b] w fun e w' => e = .returned (tup (opP 8 a b)) ∧ w = w' := by
  have I1 := Lib.hid (rint_any a w ha)
  have I2 := Lib.hid (rint_any b w hb)
  obtain ⟨b1, b2⟩ := sg_bd a ha
  obtain ⟨b3, b4⟩ := sg_bd b hb
  have HP := Lib.hid (show opP 8 a b = fitsP ((a : Int) + b) 0 65535 from rfl)
  have hc := num1 (a : Int) (b : Int) 0 65535 w (by omega) (by omega) (by omega) (by omega)
  unfold tup at hc
  have HC := Lib.hid hc
  clear hc
  generalize fitsP ((a : Int) + b) 0 65535 = r at *

  generalize sg a = x at *
  generalize sg b = y at *
  go_enter Tryd.func10, Tryd.ntmps10
  go_wp2_with fail
  ((with_reducible refine I1.out.mono ?_); rintro e w' ⟨rfl, rfl⟩)
  go_wp2_with fail
  ((with_reducible refine I2.out.mono ?_); rintro e w' ⟨rfl, rfl⟩)
  go_wp2_with fail
  ((with_reducible refine (rt8 _).mono ?_); rintro e w' ⟨rfl, rfl⟩)
  go_wp2_with fail
  ((with_reducible refine HC.out.mono ?_); rintro e w' ⟨rfl, rfl⟩)
  go_wp2
  go_ret2
  exact ⟨by rw [HP.out]; rfl, rfl⟩

set_option maxRecDepth 100000 in
set_option maxHeartbeats 1600000 in
theorem rd9 (a b : Nat) (w : World) (ha : a < 65536) (hb : b < 65536) : Calls Tryd.prog 10 #[.int .u8 9, .int .u16 a, .int .u16 b] w fun e w' => e = .returned (tup (opP 9 a b)) ∧ w = w' := by
  have I1 := Lib.hid (rint_any a w ha)
  have I2 := Lib.hid (rint_any b w hb)
  obtain ⟨b1, b2⟩ := sg_bd a ha
  obtain ⟨b3, b4⟩ := sg_bd b hb
  have HP := Lib.hid (show opP 9 a b = fitsP ((a : Int) - b) 0 65535 from rfl)
  have hc := num2 (a : Int) (b : Int) 0 65535 w (by omega) (by omega) (by omega) (by omega)
  unfold tup at hc
  have HC := Lib.hid hc
  clear hc
  generalize fitsP ((a : Int) - b) 0 65535 = r at *

  generalize sg a = x at *
  generalize sg b = y at *
  go_enter Tryd.func10, Tryd.ntmps10
  go_wp2_with fail
  ((with_reducible refine I1.out.mono ?_); rintro e w' ⟨rfl, rfl⟩)
  go_wp2_with fail
  ((with_reducible refine I2.out.mono ?_); rintro e w' ⟨rfl, rfl⟩)
  go_wp2_with fail
  ((with_reducible refine (rt9 _).mono ?_); rintro e w' ⟨rfl, rfl⟩)
  go_wp2_with fail
  ((with_reducible refine HC.out.mono ?_); rintro e w' ⟨rfl, rfl⟩)
  go_wp2
  go_ret2
  exact ⟨by rw [HP.out]; rfl, rfl⟩

set_option maxRecDepth 100000 in
set_option maxHeartbeats 1600000 in
theorem rd10 (a b : Nat) (w : World) (ha : a < 65536) (hb : b < 65536) : Calls Tryd.prog 10 #[.int .u8 10, .int .u16 a, .int .u16 b] w fun e w' => e = .returned (tup (opP 10 a b)) ∧ w = w' := by
  have I1 := Lib.hid (rint_any a w ha)
  have I2 := Lib.hid (rint_any b w hb)
  obtain ⟨b1, b2⟩ := sg_bd a ha
  obtain ⟨b3, b4⟩ := sg_bd b hb
  have HP := Lib.hid (show opP 10 a b = fitsP ((a : Int) * b) 0 65535 from rfl)
  have hc := num3 (a : Int) (b : Int) 0 65535 w (by omega) (by omega) (by omega) (by omega)
  unfold tup at hc
  have HC := Lib.hid hc
  clear hc
  generalize fitsP ((a : Int) * b) 0 65535 = r at *

  generalize sg a = x at *
  generalize sg b = y at *
  go_enter Tryd.func10, Tryd.ntmps10
  go_wp2_with fail
  ((with_reducible refine I1.out.mono ?_); rintro e w' ⟨rfl, rfl⟩)
  go_wp2_with fail
  ((with_reducible refine I2.out.mono ?_); rintro e w' ⟨rfl, rfl⟩)
  go_wp2_with fail
  ((with_reducible refine (rt10 _).mono ?_); rintro e w' ⟨rfl, rfl⟩)
  go_wp2_with fail
  ((with_reducible refine HC.out.mono ?_); rintro e w' ⟨rfl, rfl⟩)
  go_wp2
  go_ret2
  exact ⟨by rw [HP.out]; rfl, rfl⟩

set_option maxRecDepth 100000 in
set_option maxHeartbeats 1600000 in
theorem rd11 (a b : Nat) (w : World) (ha : a < 65536) (hb : b < 65536) : Calls Tryd.prog 10 #[.int .u8 11, .int .u16 a, .int .u16 b] w fun e w' => e = .returned (tup (opP 11 a b)) ∧ w = w' := by
  have I1 := Lib.hid (rint_any a w ha)
  have I2 := Lib.hid (rint_any b w hb)
  obtain ⟨b1, b2⟩ := sg_bd a ha
  obtain ⟨b3, b4⟩ := sg_bd b hb
  have HP := Lib.hid (show opP 11 a b = overP (b : Int) (fitsP ((a : Int).tdiv b) 0 65535) from rfl)
  have hc := num4 (a : Int) (b : Int) 0 65535 w (by omega) (by omega) (by omega) (by omega)
  unfold tup at hc
  have HC := Lib.hid hc
  clear hc
  generalize overP (b : Int) (fitsP ((a : Int).tdiv b) 0 65535) = r at *

  generalize sg a = x at *
  generalize sg b = y at *
  go_enter Tryd.func10, Tryd.ntmps10
  go_wp2_with fail
  ((with_reducible refine I1.out.mono ?_); rintro e w' ⟨rfl, rfl⟩)
  go_wp2_with fail
  ((with_reducible refine I2.out.mono ?_); rintro e w' ⟨rfl, rfl⟩)
  go_wp2_with fail
  ((with_reducible refine (rt11 _).mono ?_); rintro e w' ⟨rfl, rfl⟩)
  go_wp2_with fail
  ((with_reducible refine HC.out.mono ?_); rintro e w' ⟨rfl, rfl⟩)
  go_wp2
  go_ret2
  exact ⟨by rw [HP.out]; rfl, rfl⟩

set_option maxRecDepth 100000 in
set_option maxHeartbeats 1600000 in
theorem rd12 (a b : Nat) (w : World) (ha : a < 65536) (hb : b < 65536) : Calls Tryd.prog 10 #[.int .u8 12, .int .u16 a, .int .u16 b] w fun e w' => e = .returned (tup (opP 12 a b)) ∧ w = w' := by
  have I1 := Lib.hid (rint_any a w ha)
  have I2 := Lib.hid (rint_any b w hb)
  obtain ⟨b1, b2⟩ := sg_bd a ha
  obtain ⟨b3, b4⟩ := sg_bd b hb
  have HP := Lib.hid (show opP 12 a b = overP (b : Int) (fitsP ((a : Int).tmod b) 0 65535) from rfl)
  have hc := num5 (a : Int) (b : Int) 0 65535 w (by omega) (by omega) (by omega) (by omega)
  unfold tup at hc
  have HC := Lib.hid hc
  clear hc
  generalize overP (b : Int) (fitsP ((a : Int).tmod b) 0 65535) = r at *

  generalize sg a = x at *
  generalize sg b = y at *
  go_enter Tryd.func10, Tryd.ntmps10
  go_wp2_with fail
  ((with_reducible refine I1.out.mono ?_); rintro e w' ⟨rfl, rfl⟩)
  go_wp2_with fail
  ((with_reducible refine I2.out.mono ?_); rintro e w' ⟨rfl, rfl⟩)
  go_wp2_with fail
  ((with_reducible refine (rt12 _).mono ?_); rintro e w' ⟨rfl, rfl⟩)
  go_wp2_with fail
  ((with_reducible refine HC.out.mono ?_); rintro e w' ⟨rfl, rfl⟩)
  go_wp2
  go_ret2
  exact ⟨by rw [HP.out]; rfl, rfl⟩

set_option maxRecDepth 100000 in
set_option maxHeartbeats 1600000 in
theorem rd13 (a b : Nat) (w : World) (ha : a < 65536) (hb : b < 65536) : Calls Tryd.prog 10 #[.int .u8 13, .int .u16 a, .int .u16 b] w fun e w' => e = .returned (tup (opP 13 a b)) ∧ w = w' := by
  have I1 := Lib.hid (rint_any a w ha)
  have I2 := Lib.hid (rint_any b w hb)
  obtain ⟨b1, b2⟩ := sg_bd a ha
  obtain ⟨b3, b4⟩ := sg_bd b hb
  by_cases he : a = b
  · subst he
    have HP := Lib.hid (show opP 13 a a = isP true from by show isP _ = _; congr 1; simp)
    have hc := so_any true w
    unfold tup at hc
    have HC := Lib.hid hc
    clear hc

    generalize sg a = x at *
    go_enter Tryd.func10, Tryd.ntmps10
    go_wp2_with fail
    ((with_reducible refine I1.out.mono ?_); rintro e w' ⟨rfl, rfl⟩)
    go_wp2_with fail
    ((with_reducible refine I2.out.mono ?_); rintro e w' ⟨rfl, rfl⟩)
    go_wp2_with fail
    ((with_reducible refine (rt13 _).mono ?_); rintro e w' ⟨rfl, rfl⟩)
    go_wp2_with fail
    ((with_reducible refine HC.out.mono ?_); rintro e w' ⟨rfl, rfl⟩)
    go_wp2
    go_ret2
    exact ⟨by rw [HP.out]; rfl, rfl⟩
  · have he' : ((a : Int) == (b : Int)) = false := by simp; omega
    have he3 : ((a : Int) != (b : Int)) = true := by simp; omega
    have HP := Lib.hid (show opP 13 a b = isP false from by show isP _ = _; congr 1; simp [he])
    have hc := so_any false w
    unfold tup at hc
    have HC := Lib.hid hc
    clear hc

    generalize sg a = x at *
    generalize sg b = y at *
    go_enter Tryd.func10, Tryd.ntmps10
    go_wp2_with fail
    ((with_reducible refine I1.out.mono ?_); rintro e w' ⟨rfl, rfl⟩)
    go_wp2_with fail
    ((with_reducible refine I2.out.mono ?_); rintro e w' ⟨rfl, rfl⟩)
    go_wp2_with fail
    ((with_reducible refine (rt13 _).mono ?_); rintro e w' ⟨rfl, rfl⟩)
    go_wp2_with fail
    ((with_reducible refine HC.out.mono ?_); rintro e w' ⟨rfl, rfl⟩)
    go_wp2
    go_ret2
    exact ⟨by rw [HP.out]; rfl, rfl⟩

set_option maxRecDepth 100000 in
set_option maxHeartbeats 1600000 in
theorem rd14 (a b : Nat) (w : World) (ha : a < 65536) (hb : b < 65536) : Calls Tryd.prog 10 #[.int .u8 14, .int .u16 a, .int .u16 b] w fun e w' => e = .returned (tup (opP 14 a b)) ∧ w = w' := by
  have I1 := Lib.hid (rint_any a w ha)
  have I2 := Lib.hid (rint_any b w hb)
  obtain ⟨b1, b2⟩ := sg_bd a ha
  obtain ⟨b3, b4⟩ := sg_bd b hb
  by_cases he : a = b
  · subst he
    have HP := Lib.hid (show opP 14 a a = isP false from by show isP _ = _; congr 1; simp)
    have hc := so_any false w
    unfold tup at hc
    have HC := Lib.hid hc
    clear hc

    generalize sg a = x at *
    go_enter Tryd.func10, Tryd.ntmps10
    go_wp2_with fail
    ((with_reducible refine I1.out.mono ?_); rintro e w' ⟨rfl, rfl⟩)
    go_wp2_with fail
    ((with_reducible refine I2.out.mono ?_); rintro e w' ⟨rfl, rfl⟩)
    go_wp2_with fail
    ((with_reducible refine (rt14 _).mono ?_); rintro e w' ⟨rfl, rfl⟩)
    go_wp2_with fail
    ((with_reducible refine HC.out.mono ?_); rintro e w' ⟨rfl, rfl⟩)
    go_wp2
    go_ret2
    exact ⟨by rw [HP.out]; rfl, rfl⟩
  · have he' : ((a : Int) == (b : Int)) = false := by simp; omega
    have he3 : ((a : Int) != (b : Int)) = true := by simp; omega
    have HP := Lib.hid (show opP 14 a b = isP true from by show isP _ = _; congr 1; simp [he])
    have hc := so_any true w
    unfold tup at hc
    have HC := Lib.hid hc
    clear hc

    generalize sg a = x at *
    generalize sg b = y at *
    go_enter Tryd.func10, Tryd.ntmps10
    go_wp2_with fail
    ((with_reducible refine I1.out.mono ?_); rintro e w' ⟨rfl, rfl⟩)
    go_wp2_with fail
    ((with_reducible refine I2.out.mono ?_); rintro e w' ⟨rfl, rfl⟩)
    go_wp2_with fail
    ((with_reducible refine (rt14 _).mono ?_); rintro e w' ⟨rfl, rfl⟩)
    go_wp2_with fail
    ((with_reducible refine HC.out.mono ?_); rintro e w' ⟨rfl, rfl⟩)
    go_wp2
    go_ret2
    exact ⟨by rw [HP.out]; rfl, rfl⟩

set_option maxRecDepth 100000 in
set_option maxHeartbeats 1600000 in
theorem rd15 (a b : Nat) (w : World) (ha : a < 65536) (hb : b < 65536) : Calls Tryd.prog 10 #[.int .u8 15, .int .u16 a, .int .u16 b] w fun e w' => e = .returned (tup (opP 15 a b)) ∧ w = w' := by
  have I1 := Lib.hid (rint_any a w ha)
  have I2 := Lib.hid (rint_any b w hb)
  obtain ⟨b1, b2⟩ := sg_bd a ha
  obtain ⟨b3, b4⟩ := sg_bd b hb
  have HP := Lib.hid (show opP 15 a b = isP (decide (sg a < sg b)) from rfl)
  have hc := rasks0 (sg a) (sg b) w
  unfold tup at hc
  have HC := Lib.hid hc
  clear hc
  generalize isP (decide (sg a < sg b)) = r at *

  generalize sg a = x at *
  generalize sg b = y at *
  go_enter Tryd.func10, Tryd.ntmps10
  go_wp2_with fail
  ((with_reducible refine I1.out.mono ?_); rintro e w' ⟨rfl, rfl⟩)
  go_wp2_with fail
  ((with_reducible refine I2.out.mono ?_); rintro e w' ⟨rfl, rfl⟩)
  go_wp2_with fail
  ((with_reducible refine (rt15 _).mono ?_); rintro e w' ⟨rfl, rfl⟩)
  go_wp2_with fail
  ((with_reducible refine HC.out.mono ?_); rintro e w' ⟨rfl, rfl⟩)
  go_wp2
  go_ret2
  exact ⟨by rw [HP.out]; rfl, rfl⟩

set_option maxRecDepth 100000 in
set_option maxHeartbeats 1600000 in
theorem rd16 (a b : Nat) (w : World) (ha : a < 65536) (hb : b < 65536) : Calls Tryd.prog 10 #[.int .u8 16, .int .u16 a, .int .u16 b] w fun e w' => e = .returned (tup (opP 16 a b)) ∧ w = w' := by
  have I1 := Lib.hid (rint_any a w ha)
  have I2 := Lib.hid (rint_any b w hb)
  obtain ⟨b1, b2⟩ := sg_bd a ha
  obtain ⟨b3, b4⟩ := sg_bd b hb
  have HP := Lib.hid (show opP 16 a b = isP (decide (sg a ≤ sg b)) from rfl)
  have hc := rasks1 (sg a) (sg b) w
  unfold tup at hc
  have HC := Lib.hid hc
  clear hc
  generalize isP (decide (sg a ≤ sg b)) = r at *

  generalize sg a = x at *
  generalize sg b = y at *
  go_enter Tryd.func10, Tryd.ntmps10
  go_wp2_with fail
  ((with_reducible refine I1.out.mono ?_); rintro e w' ⟨rfl, rfl⟩)
  go_wp2_with fail
  ((with_reducible refine I2.out.mono ?_); rintro e w' ⟨rfl, rfl⟩)
  go_wp2_with fail
  ((with_reducible refine (rt16 _).mono ?_); rintro e w' ⟨rfl, rfl⟩)
  go_wp2_with fail
  ((with_reducible refine HC.out.mono ?_); rintro e w' ⟨rfl, rfl⟩)
  go_wp2
  go_ret2
  exact ⟨by rw [HP.out]; rfl, rfl⟩

set_option maxRecDepth 100000 in
set_option maxHeartbeats 1600000 in
theorem rd17 (a b : Nat) (w : World) (ha : a < 65536) (hb : b < 65536) : Calls Tryd.prog 10 #[.int .u8 17, .int .u16 a, .int .u16 b] w fun e w' => e = .returned (tup (opP 17 a b)) ∧ w = w' := by
  have I1 := Lib.hid (rint_any a w ha)
  have I2 := Lib.hid (rint_any b w hb)
  obtain ⟨b1, b2⟩ := sg_bd a ha
  obtain ⟨b3, b4⟩ := sg_bd b hb
  have HP := Lib.hid (show opP 17 a b = isP (decide (sg b < sg a)) from rfl)
  have hc := rasks2 (sg a) (sg b) w
  unfold tup at hc
  have HC := Lib.hid hc
  clear hc
  generalize isP (decide (sg b < sg a)) = r at *

  generalize sg a = x at *
  generalize sg b = y at *
  go_enter Tryd.func10, Tryd.ntmps10
  go_wp2_with fail
  ((with_reducible refine I1.out.mono ?_); rintro e w' ⟨rfl, rfl⟩)
  go_wp2_with fail
  ((with_reducible refine I2.out.mono ?_); rintro e w' ⟨rfl, rfl⟩)
  go_wp2_with fail
  ((with_reducible refine (rt17 _).mono ?_); rintro e w' ⟨rfl, rfl⟩)
  go_wp2_with fail
  ((with_reducible refine HC.out.mono ?_); rintro e w' ⟨rfl, rfl⟩)
  go_wp2
  go_ret2
  exact ⟨by rw [HP.out]; rfl, rfl⟩

set_option maxRecDepth 100000 in
set_option maxHeartbeats 1600000 in
theorem rd18 (a b : Nat) (w : World) (ha : a < 65536) (hb : b < 65536) : Calls Tryd.prog 10 #[.int .u8 18, .int .u16 a, .int .u16 b] w fun e w' => e = .returned (tup (opP 18 a b)) ∧ w = w' := by
  have I1 := Lib.hid (rint_any a w ha)
  have I2 := Lib.hid (rint_any b w hb)
  obtain ⟨b1, b2⟩ := sg_bd a ha
  obtain ⟨b3, b4⟩ := sg_bd b hb
  have HP := Lib.hid (show opP 18 a b = isP (decide (sg b ≤ sg a)) from rfl)
  have hc := rasks3 (sg a) (sg b) w
  unfold tup at hc
  have HC := Lib.hid hc
  clear hc
  generalize isP (decide (sg b ≤ sg a)) = r at *

  generalize sg a = x at *
  generalize sg b = y at *
  go_enter Tryd.func10, Tryd.ntmps10
  go_wp2_with fail
  ((with_reducible refine I1.out.mono ?_); rintro e w' ⟨rfl, rfl⟩)
  go_wp2_with fail
  ((with_reducible refine I2.out.mono ?_); rintro e w' ⟨rfl, rfl⟩)
  go_wp2_with fail
  ((with_reducible refine (rt18 _).mono ?_); rintro e w' ⟨rfl, rfl⟩)
  go_wp2_with fail
  ((with_reducible refine HC.out.mono ?_); rintro e w' ⟨rfl, rfl⟩)
  go_wp2
  go_ret2
  exact ⟨by rw [HP.out]; rfl, rfl⟩

set_option maxRecDepth 100000 in
set_option maxHeartbeats 1600000 in
theorem rd19 (a b : Nat) (w : World) (ha : a < 65536) (hb : b < 65536) : Calls Tryd.prog 10 #[.int .u8 19, .int .u16 a, .int .u16 b] w fun e w' => e = .returned (tup (opP 19 a b)) ∧ w = w' := by
  have I1 := Lib.hid (rint_any a w ha)
  have I2 := Lib.hid (rint_any b w hb)
  obtain ⟨b1, b2⟩ := sg_bd a ha
  obtain ⟨b3, b4⟩ := sg_bd b hb
  have HP := Lib.hid (show opP 19 a b = isP (decide ((a : Int) < (b : Int))) from by show isP (decide (a < b)) = _; congr 1; rw [Bool.eq_iff_iff]; simp)
  have hc := rasks0 (a : Int) (b : Int) w
  unfold tup at hc
  have HC := Lib.hid hc
  clear hc
  generalize isP (decide ((a : Int) < (b : Int))) = r at *

  generalize sg a = x at *
  generalize sg b = y at *
  go_enter Tryd.func10, Tryd.ntmps10
  go_wp2_with fail
  ((with_reducible refine I1.out.mono ?_); rintro e w' ⟨rfl, rfl⟩)
  go_wp2_with fail
  ((with_reducible refine I2.out.mono ?_); rintro e w' ⟨rfl, rfl⟩)
  go_wp2_with fail
  ((with_reducible refine (rt19 _).mono ?_); rintro e w' ⟨rfl, rfl⟩)
  go_wp2_with fail
  ((with_reducible refine HC.out.mono ?_); rintro e w' ⟨rfl, rfl⟩)
  go_wp2
  go_ret2
  exact ⟨by rw [HP.out]; rfl, rfl⟩

set_option maxRecDepth 100000 in
set_option maxHeartbeats 1600000 in
theorem rd20 (a b : Nat) (w : World) (ha : a < 65536) (hb : b < 65536) : Calls Tryd.prog 10 #[.int .u8 20, .int .u16 a, .int .u16 b] w fun e w' => e = .returned (tup (opP 20 a b)) ∧ w = w' := by
  have I1 := Lib.hid (rint_any a w ha)
  have I2 := Lib.hid (rint_any b w hb)
  obtain ⟨b1, b2⟩ := sg_bd a ha
  obtain ⟨b3, b4⟩ := sg_bd b hb
  have HP := Lib.hid (show opP 20 a b = isP (decide ((a : Int) ≤ (b : Int))) from by show isP (decide (a ≤ b)) = _; congr 1; rw [Bool.eq_iff_iff]; simp)
  have hc := rasks1 (a : Int) (b : Int) w
  unfold tup at hc
  have HC := Lib.hid hc
  clear hc
  generalize isP (decide ((a : Int) ≤ (b : Int))) = r at *

  generalize sg a = x at *
  generalize sg b = y at *
  go_enter Tryd.func10, Tryd.ntmps10
  go_wp2_with fail
  ((with_reducible refine I1.out.mono ?_); rintro e w' ⟨rfl, rfl⟩)
  go_wp2_with fail
  ((with_reducible refine I2.out.mono ?_); rintro e w' ⟨rfl, rfl⟩)
  go_wp2_with fail
  ((with_reducible refine (rt20 _).mono ?_); rintro e w' ⟨rfl, rfl⟩)
  go_wp2_with fail
  ((with_reducible refine HC.out.mono ?_); rintro e w' ⟨rfl, rfl⟩)
  go_wp2
  go_ret2
  exact ⟨by rw [HP.out]; rfl, rfl⟩

set_option maxRecDepth 100000 in
set_option maxHeartbeats 1600000 in
theorem rd21 (a b : Nat) (w : World) (ha : a < 65536) (hb : b < 65536) : Calls Tryd.prog 10 #[.int .u8 21, .int .u16 a, .int .u16 b] w fun e w' => e = .returned (tup (opP 21 a b)) ∧ w = w' := by
  have I1 := Lib.hid (rint_any a w ha)
  have I2 := Lib.hid (rint_any b w hb)
  obtain ⟨b1, b2⟩ := sg_bd a ha
  obtain ⟨b3, b4⟩ := sg_bd b hb
  have HP := Lib.hid (show opP 21 a b = isP (decide ((b : Int) < (a : Int))) from by show isP (decide (b < a)) = _; congr 1; rw [Bool.eq_iff_iff]; simp)
  have hc := rasks2 (a : Int) (b : Int) w
  unfold tup at hc
  have HC := Lib.hid hc
  clear hc
  generalize isP (decide ((b : Int) < (a : Int))) = r at *

  generalize sg a = x at *
  generalize sg b = y at *
  go_enter Tryd.func10, Tryd.ntmps10
  go_wp2_with fail
  ((with_reducible refine I1.out.mono ?_); rintro e w' ⟨rfl, rfl⟩)
  go_wp2_with fail
  ((with_reducible refine I2.out.mono ?_); rintro e w' ⟨rfl, rfl⟩)
  go_wp2_with fail
  ((with_reducible refine (rt21 _).mono ?_); rintro e w' ⟨rfl, rfl⟩)
  go_wp2_with fail
  ((with_reducible refine HC.out.mono ?_); rintro e w' ⟨rfl, rfl⟩)
  go_wp2
  go_ret2
  exact ⟨by rw [HP.out]; rfl, rfl⟩

set_option maxRecDepth 100000 in
set_option maxHeartbeats 1600000 in
theorem rd22 (a b : Nat) (w : World) (ha : a < 65536) (hb : b < 65536) : Calls Tryd.prog 10 #[.int .u8 22, .int .u16 a, .int .u16 b] w fun e w' => e = .returned (tup (opP 22 a b)) ∧ w = w' := by
  have I1 := Lib.hid (rint_any a w ha)
  have I2 := Lib.hid (rint_any b w hb)
  obtain ⟨b1, b2⟩ := sg_bd a ha
  obtain ⟨b3, b4⟩ := sg_bd b hb
  have HP := Lib.hid (show opP 22 a b = isP (decide ((b : Int) ≤ (a : Int))) from by show isP (decide (b ≤ a)) = _; congr 1; rw [Bool.eq_iff_iff]; simp)
  have hc := rasks3 (a : Int) (b : Int) w
  unfold tup at hc
  have HC := Lib.hid hc
  clear hc
  generalize isP (decide ((b : Int) ≤ (a : Int))) = r at *

  generalize sg a = x at *
  generalize sg b = y at *
  go_enter Tryd.func10, Tryd.ntmps10
  go_wp2_with fail
  ((with_reducible refine I1.out.mono ?_); rintro e w' ⟨rfl, rfl⟩)
  go_wp2_with fail
  ((with_reducible refine I2.out.mono ?_); rintro e w' ⟨rfl, rfl⟩)
  go_wp2_with fail
  ((with_reducible refine (rt22 _).mono ?_); rintro e w' ⟨rfl, rfl⟩)
  go_wp2_with fail
  ((with_reducible refine HC.out.mono ?_); rintro e w' ⟨rfl, rfl⟩)
  go_wp2
  go_ret2
  exact ⟨by rw [HP.out]; rfl, rfl⟩

set_option maxRecDepth 100000 in
set_option maxHeartbeats 1600000 in
theorem rd23 (a b : Nat) (w : World) (ha : a < 65536) (hb : b < 65536) : Calls Tryd.prog 10 #[.int .u8 23, .int .u16 a, .int .u16 b] w fun e w' => e = .returned (tup (opP 23 a b)) ∧ w = w' := by
  have I1 := Lib.hid (rint_any a w ha)
  have I2 := Lib.hid (rint_any b w hb)
  obtain ⟨b1, b2⟩ := sg_bd a ha
  obtain ⟨b3, b4⟩ := sg_bd b hb
  by_cases he : a = 0
  · subst he
    have I1 : Hid (Calls Tryd.prog 19 #[.int .u16 0] w (fun e w' => e = .returned (.int .i64 (sg 0)) ∧ w = w')) := Lib.hid (rint_any 0 w ha)
    generalize sg 0 = x0 at *
    show Calls _ _ #[.int .u8 23, .int .u16 0, .int .u16 b] _ _
    have HP := Lib.hid (show opP 23 0 b = isP true from rfl)
    have hc := so_any true w
    unfold tup at hc
    have HC := Lib.hid hc
    clear hc

    generalize sg b = y at *
    go_enter Tryd.func10, Tryd.ntmps10
    go_wp2_with fail
    ((with_reducible refine I1.out.mono ?_); rintro e w' ⟨rfl, rfl⟩)
    go_wp2_with fail
    ((with_reducible refine I2.out.mono ?_); rintro e w' ⟨rfl, rfl⟩)
    go_wp2_with fail
    ((with_reducible refine (rt23 _).mono ?_); rintro e w' ⟨rfl, rfl⟩)
    go_wp2_with fail
    ((with_reducible refine HC.out.mono ?_); rintro e w' ⟨rfl, rfl⟩)
    go_wp2
    go_ret2
    exact ⟨by rw [HP.out]; rfl, rfl⟩
  · have he' : ((a : Int) == 0) = false := by simp; omega
    have he3 : ((a : Int) != 0) = true := by simp; omega
    have HP := Lib.hid (show opP 23 a b = isP false from by show isP _ = _; congr 1; simp [he])
    have hc := so_any false w
    unfold tup at hc
    have HC := Lib.hid hc
    clear hc

    generalize sg a = x at *
    generalize sg b = y at *
    go_enter Tryd.func10, Tryd.ntmps10
    go_wp2_with fail
    ((with_reducible refine I1.out.mono ?_); rintro e w' ⟨rfl, rfl⟩)
    go_wp2_with fail
    ((with_reducible refine I2.out.mono ?_); rintro e w' ⟨rfl, rfl⟩)
    go_wp2_with fail
    ((with_reducible refine (rt23 _).mono ?_); rintro e w' ⟨rfl, rfl⟩)
    go_wp2_with fail
    ((with_reducible refine HC.out.mono ?_); rintro e w' ⟨rfl, rfl⟩)
    go_wp2
    go_ret2
    exact ⟨by rw [HP.out]; rfl, rfl⟩

set_option maxRecDepth 100000 in
set_option maxHeartbeats 1600000 in
theorem rd24 (a b : Nat) (w : World) (ha : a < 65536) (hb : b < 65536) : Calls Tryd.prog 10 #[.int .u8 24, .int .u16 a, .int .u16 b] w fun e w' => e = .returned (tup (opP 24 a b)) ∧ w = w' := by
  have I1 := Lib.hid (rint_any a w ha)
  have I2 := Lib.hid (rint_any b w hb)
  obtain ⟨b1, b2⟩ := sg_bd a ha
  obtain ⟨b3, b4⟩ := sg_bd b hb
  have hc := sets24 a b w ha hb
  unfold tup at hc
  have HR : Hid (tup (opP 24 a b) = .tuple #[.int .u16 ((opP 24 a b).1 : Nat), .int .u8 ((opP 24 a b).2 : Nat)]) := rfl
  have HC := Lib.hid hc
  clear hc
  generalize opP 24 a b = r at *

  generalize sg a = x at *
  generalize sg b = y at *
  go_enter Tryd.func10, Tryd.ntmps10
  go_wp2_with fail
  ((with_reducible refine I1.out.mono ?_); rintro e w' ⟨rfl, rfl⟩)
  go_wp2_with fail
  ((with_reducible refine I2.out.mono ?_); rintro e w' ⟨rfl, rfl⟩)
  go_wp2_with fail
  ((with_reducible refine (rt24 _).mono ?_); rintro e w' ⟨rfl, rfl⟩)
  go_wp2_with fail
  ((with_reducible refine HC.out.mono ?_); rintro e w' ⟨rfl, rfl⟩)
  go_wp2
  go_ret2
  exact ⟨rfl, rfl⟩

set_option maxRecDepth 100000 in
set_option maxHeartbeats 1600000 in
theorem rd25 (a b : Nat) (w : World) (ha : a < 65536) (hb : b < 65536) : Calls Tryd.prog 10 #[.int .u8 25, .int .u16 a, .int .u16 b] w fun e w' => e = .returned (tup (opP 25 a b)) ∧ w = w' := by
  have I1 := Lib.hid (rint_any a w ha)
  have I2 := Lib.hid (rint_any b w hb)
  obtain ⟨b1, b2⟩ := sg_bd a ha
  obtain ⟨b3, b4⟩ := sg_bd b hb
  have hc := sets25 a b w ha hb
  unfold tup at hc
  have HR : Hid (tup (opP 25 a b) = .tuple #[.int .u16 ((opP 25 a b).1 : Nat), .int .u8 ((opP 25 a b).2 : Nat)]) := rfl
  have HC := Lib.hid hc
  clear hc
  generalize opP 25 a b = r at *

  generalize sg a = x at *
  generalize sg b = y at *
  go_enter Tryd.func10, Tryd.ntmps10
  go_wp2_with fail
  ((with_reducible refine I1.out.mono ?_); rintro e w' ⟨rfl, rfl⟩)
  go_wp2_with fail
  ((with_reducible refine I2.out.mono ?_); rintro e w' ⟨rfl, rfl⟩)
  go_wp2_with fail
  ((with_reducible refine (rt25 _).mono ?_); rintro e w' ⟨rfl, rfl⟩)
  go_wp2_with fail
  ((with_reducible refine HC.out.mono ?_); rintro e w' ⟨rfl, rfl⟩)
  go_wp2
  go_ret2
  exact ⟨rfl, rfl⟩

set_option maxRecDepth 100000 in
set_option maxHeartbeats 1600000 in
theorem rd26 (a b : Nat) (w : World) (ha : a < 65536) (hb : b < 65536) : Calls Tryd.prog 10 #[.int .u8 26, .int .u16 a, .int .u16 b] w fun e w' => e = .returned (tup (opP 26 a b)) ∧ w = w' := by
  have I1 := Lib.hid (rint_any a w ha)
  have I2 := Lib.hid (rint_any b w hb)
  obtain ⟨b1, b2⟩ := sg_bd a ha
  obtain ⟨b3, b4⟩ := sg_bd b hb
  have hc := sets26 a b w ha hb
  unfold tup at hc
  have HR : Hid (tup (opP 26 a b) = .tuple #[.int .u16 ((opP 26 a b).1 : Nat), .int .u8 ((opP 26 a b).2 : Nat)]) := rfl
  have HC := Lib.hid hc
  clear hc
  generalize opP 26 a b = r at *

  generalize sg a = x at *
  generalize sg b = y at *
  go_enter Tryd.func10, Tryd.ntmps10
  go_wp2_with fail
  ((with_reducible refine I1.out.mono ?_); rintro e w' ⟨rfl, rfl⟩)
  go_wp2_with fail
  ((with_reducible refine I2.out.mono ?_); rintro e w' ⟨rfl, rfl⟩)
  go_wp2_with fail
  ((with_reducible refine (rt26 _).mono ?_); rintro e w' ⟨rfl, rfl⟩)
  go_wp2_with fail
  ((with_reducible refine HC.out.mono ?_); rintro e w' ⟨rfl, rfl⟩)
  go_wp2
  go_ret2
  exact ⟨rfl, rfl⟩

set_option maxRecDepth 100000 in
set_option maxHeartbeats 1600000 in
theorem rd27 (a b : Nat) (w : World) (ha : a < 65536) (hb : b < 65536) : Calls Tryd.prog 10 #[.int .u8 27, .int .u16 a, .int .u16 b] w fun e w' => e = .returned (tup (opP 27 a b)) ∧ w = w' := by
  have I1 := Lib.hid (rint_any a w ha)
  have I2 := Lib.hid (rint_any b w hb)
  obtain ⟨b1, b2⟩ := sg_bd a ha
  obtain ⟨b3, b4⟩ := sg_bd b hb
  have hc := sets27 a b w ha hb
  unfold tup at hc
  have HR : Hid (tup (opP 27 a b) = .tuple #[.int .u16 ((opP 27 a b).1 : Nat), .int .u8 ((opP 27 a b).2 : Nat)]) := rfl
  have HC := Lib.hid hc
  clear hc
  generalize opP 27 a b = r at *

  generalize sg a = x at *
  generalize sg b = y at *
  go_enter Tryd.func10, Tryd.ntmps10
  go_wp2_with fail
  ((with_reducible refine I1.out.mono ?_); rintro e w' ⟨rfl, rfl⟩)
  go_wp2_with fail
  ((with_reducible refine I2.out.mono ?_); rintro e w' ⟨rfl, rfl⟩)
  go_wp2_with fail
  ((with_reducible refine (rt27 _).mono ?_); rintro e w' ⟨rfl, rfl⟩)
  go_wp2_with fail
  ((with_reducible refine HC.out.mono ?_); rintro e w' ⟨rfl, rfl⟩)
  go_wp2
  go_ret2
  exact ⟨rfl, rfl⟩

set_option maxRecDepth 100000 in
set_option maxHeartbeats 1600000 in
theorem rd28 (a b : Nat) (w : World) (ha : a < 65536) (hb : b < 65536) : Calls Tryd.prog 10 #[.int .u8 28, .int .u16 a, .int .u16 b] w fun e w' => e = .returned (tup (opP 28 a b)) ∧ w = w' := by
  have I1 := Lib.hid (rint_any a w ha)
  have I2 := Lib.hid (rint_any b w hb)
  obtain ⟨b1, b2⟩ := sg_bd a ha
  obtain ⟨b3, b4⟩ := sg_bd b hb
  have hc := sets28 a b w ha hb
  unfold tup at hc
  have HR : Hid (tup (opP 28 a b) = .tuple #[.int .u16 ((opP 28 a b).1 : Nat), .int .u8 ((opP 28 a b).2 : Nat)]) := rfl
  have HC := Lib.hid hc
  clear hc
  generalize opP 28 a b = r at *

  generalize sg a = x at *
  generalize sg b = y at *
  go_enter Tryd.func10, Tryd.ntmps10
  go_wp2_with fail
  ((with_reducible refine I1.out.mono ?_); rintro e w' ⟨rfl, rfl⟩)
  go_wp2_with fail
  ((with_reducible refine I2.out.mono ?_); rintro e w' ⟨rfl, rfl⟩)
  go_wp2_with fail
  ((with_reducible refine (rt28 _).mono ?_); rintro e w' ⟨rfl, rfl⟩)
  go_wp2_with fail
  ((with_reducible refine HC.out.mono ?_); rintro e w' ⟨rfl, rfl⟩)
  go_wp2
  go_ret2
  exact ⟨rfl, rfl⟩

set_option maxRecDepth 100000 in
set_option maxHeartbeats 1600000 in
theorem rd29 (a b : Nat) (w : World) (ha : a < 65536) (hb : b < 65536) : Calls Tryd.prog 10 #[.int .u8 29, .int .u16 a, .int .u16 b] w fun e w' => e = .returned (tup (opP 29 a b)) ∧ w = w' := by
  have I1 := Lib.hid (rint_any a w ha)
  have I2 := Lib.hid (rint_any b w hb)
  obtain ⟨b1, b2⟩ := sg_bd a ha
  obtain ⟨b3, b4⟩ := sg_bd b hb
  have hc := sets29 a b w ha hb
  unfold tup at hc
  have HR : Hid (tup (opP 29 a b) = .tuple #[.int .u16 ((opP 29 a b).1 : Nat), .int .u8 ((opP 29 a b).2 : Nat)]) := rfl
  have HC := Lib.hid hc
  clear hc
  generalize opP 29 a b = r at *

  generalize sg a = x at *
  generalize sg b = y at *
  go_enter Tryd.func10, Tryd.ntmps10
  go_wp2_with fail
  ((with_reducible refine I1.out.mono ?_); rintro e w' ⟨rfl, rfl⟩)
  go_wp2_with fail
  ((with_reducible refine I2.out.mono ?_); rintro e w' ⟨rfl, rfl⟩)
  go_wp2_with fail
  ((with_reducible refine (rt29 _).mono ?_); rintro e w' ⟨rfl, rfl⟩)
  go_wp2_with fail
  ((with_reducible refine HC.out.mono ?_); rintro e w' ⟨rfl, rfl⟩)
  go_wp2
  go_ret2
  exact ⟨rfl, rfl⟩

set_option maxRecDepth 100000 in
set_option maxHeartbeats 1600000 in
theorem rd30 (a b : Nat) (w : World) (ha : a < 65536) (hb : b < 65536) : Calls Tryd.prog 10 #[.int .u8 30, .int .u16 a, .int .u16 b] w fun e w' => e = .returned (tup (opP 30 a b)) ∧ w = w' := by
  have I1 := Lib.hid (rint_any a w ha)
  have I2 := Lib.hid (rint_any b w hb)
  obtain ⟨b1, b2⟩ := sg_bd a ha
  obtain ⟨b3, b4⟩ := sg_bd b hb
  have hc := sets30 a b w ha hb
  unfold tup at hc
  have HR : Hid (tup (opP 30 a b) = .tuple #[.int .u16 ((opP 30 a b).1 : Nat), .int .u8 ((opP 30 a b).2 : Nat)]) := rfl
  have HC := Lib.hid hc
  clear hc
  generalize opP 30 a b = r at *

  generalize sg a = x at *
  generalize sg b = y at *
  go_enter Tryd.func10, Tryd.ntmps10
  go_wp2_with fail
  ((with_reducible refine I1.out.mono ?_); rintro e w' ⟨rfl, rfl⟩)
  go_wp2_with fail
  ((with_reducible refine I2.out.mono ?_); rintro e w' ⟨rfl, rfl⟩)
  go_wp2_with fail
  ((with_reducible refine (rt30 _).mono ?_); rintro e w' ⟨rfl, rfl⟩)
  go_wp2_with fail
  ((with_reducible refine HC.out.mono ?_); rintro e w' ⟨rfl, rfl⟩)
  go_wp2
  go_ret2
  exact ⟨rfl, rfl⟩

set_option maxRecDepth 100000 in
set_option maxHeartbeats 1600000 in
theorem rd31 (a b : Nat) (w : World) (ha : a < 65536) (hb : b < 65536) : Calls Tryd.prog 10 #[.int .u8 31, .int .u16 a, .int .u16 b] w fun e w' => e = .returned (tup (opP 31 a b)) ∧ w = w' := by
  have I1 := Lib.hid (rint_any a w ha)
  have I2 := Lib.hid (rint_any b w hb)
  obtain ⟨b1, b2⟩ := sg_bd a ha
  obtain ⟨b3, b4⟩ := sg_bd b hb
  have hc := sets31 a b w ha hb
  unfold tup at hc
  have HR : Hid (tup (opP 31 a b) = .tuple #[.int .u16 ((opP 31 a b).1 : Nat), .int .u8 ((opP 31 a b).2 : Nat)]) := rfl
  have HC := Lib.hid hc
  clear hc
  generalize opP 31 a b = r at *

  generalize sg a = x at *
  generalize sg b = y at *
  go_enter Tryd.func10, Tryd.ntmps10
  go_wp2_with fail
  ((with_reducible refine I1.out.mono ?_); rintro e w' ⟨rfl, rfl⟩)
  go_wp2_with fail
  ((with_reducible refine I2.out.mono ?_); rintro e w' ⟨rfl, rfl⟩)
  go_wp2_with fail
  ((with_reducible refine (rt31 _).mono ?_); rintro e w' ⟨rfl, rfl⟩)
  go_wp2_with fail
  ((with_reducible refine HC.out.mono ?_); rintro e w' ⟨rfl, rfl⟩)
  go_wp2
  go_ret2
  exact ⟨rfl, rfl⟩

set_option maxRecDepth 100000 in
set_option maxHeartbeats 1600000 in
theorem rdout (op a b : Nat) (w : World) (ho : op < 256) (ha : a < 65536) (hb : b < 65536) (h : ¬ (1 ≤ op ∧ op ≤ 31)) : Calls Tryd.prog 10 #[.int .u8 op, .int .u16 a, .int .u16 b] w fun e w' => e = .returned (tup (opP op a b)) ∧ w = w' := by
  have I1 := Lib.hid (rint_any a w ha)
  have I2 := Lib.hid (rint_any b w hb)
  have ht := rtakes_any op w ho
  rw [show takesP op = 0 from by unfold takesP; rw [if_pos (by omega)]] at ht
  have HT := Lib.hid ht
  clear ht
  have hP : opP op a b = (0, 12) := by
    unfold opP
    split <;> first | rfl | omega
  have HP := Lib.hid hP
  clear hP
  generalize sg a = x at *
  generalize sg b = y at *
  go_enter Tryd.func10, Tryd.ntmps10
  go_wp2_with fail
  ((with_reducible refine I1.out.mono ?_); rintro e w' ⟨rfl, rfl⟩)
  go_wp2_with fail
  ((with_reducible refine I2.out.mono ?_); rintro e w' ⟨rfl, rfl⟩)
  go_wp2_with fail
  ((with_reducible refine HT.out.mono ?_); rintro e w' ⟨rfl, rfl⟩)
  go_wp2
  go_ret2
  exact ⟨by rw [HP.out]; rfl, rfl⟩
theorem rDoes_any (op a b : Nat) (w : World) (ho : op < 256) (ha : a < 65536) (hb : b < 65536) : Calls Tryd.prog 10 #[.int .u8 op, .int .u16 a, .int .u16 b] w fun e w' => e = .returned (tup (opP op a b)) ∧ w = w' := by
  by_cases h : 1 ≤ op ∧ op ≤ 31
  · have hh : op = 1 ∨ op = 2 ∨ op = 3 ∨ op = 4 ∨ op = 5 ∨ op = 6 ∨ op = 7 ∨ op = 8 ∨ op = 9 ∨ op = 10 ∨ op = 11 ∨ op = 12 ∨ op = 13 ∨ op = 14 ∨ op = 15 ∨ op = 16 ∨ op = 17 ∨ op = 18 ∨ op = 19 ∨ op = 20 ∨ op = 21 ∨ op = 22 ∨ op = 23 ∨ op = 24 ∨ op = 25 ∨ op = 26 ∨ op = 27 ∨ op = 28 ∨ op = 29 ∨ op = 30 ∨ op = 31 := by omega
    rcases hh with rfl | rfl | rfl | rfl | rfl | rfl | rfl | rfl | rfl | rfl | rfl | rfl | rfl | rfl | rfl | rfl | rfl | rfl | rfl | rfl | rfl | rfl | rfl | rfl | rfl | rfl | rfl | rfl | rfl | rfl | rfl
    · exact rd1 a b w ha hb
    · exact rd2 a b w ha hb
    · exact rd3 a b w ha hb
    · exact rd4 a b w ha hb
    · exact rd5 a b w ha hb
    · exact rd6 a b w ha hb
    · exact rd7 a b w ha hb
    · exact rd8 a b w ha hb
    · exact rd9 a b w ha hb
    · exact rd10 a b w ha hb
    · exact rd11 a b w ha hb
    · exact rd12 a b w ha hb
    · exact rd13 a b w ha hb
    · exact rd14 a b w ha hb
    · exact rd15 a b w ha hb
    · exact rd16 a b w ha hb
    · exact rd17 a b w ha hb
    · exact rd18 a b w ha hb
    · exact rd19 a b w ha hb
    · exact rd20 a b w ha hb
    · exact rd21 a b w ha hb
    · exact rd22 a b w ha hb
    · exact rd23 a b w ha hb
    · exact rd24 a b w ha hb
    · exact rd25 a b w ha hb
    · exact rd26 a b w ha hb
    · exact rd27 a b w ha hb
    · exact rd28 a b w ha hb
    · exact rd29 a b w ha hb
    · exact rd30 a b w ha hb
    · exact rd31 a b w ha hb
  · exact rdout op a b w ho ha hb h

end Go.Proofs.YtdodbbedlgglcaaDoor.Wd
