/- The walks of the law package's alive (what the document fixes) and does. -/
import Derived.Test.YtdodbbedlgglcaaDoorD9
import Derived.Test.YtdodbbedlgglcaaDoorWPlain3
set_option linter.unusedSimpArgs false
set_option linter.unusedVariables false
namespace Go.Proofs.YtdodbbedlgglcaaDoor.Wd
open Go.RowKit
open WPlain

theorem c1 (w : World) : Calls Tryd.prog 9 #[.int .u8 1, .int .u16 32767, .int .u16 1] w fun e w' => e = .returned (.tuple #[.int .u16 0, .int .u8 1]) ∧ Below w.heap.size w w' := by
  have h := Does_any 1 32767 1 w (by omega) (by omega) (by omega)
  rw [show opP 1 32767 1 = (0, 1) from by decide +kernel] at h
  exact h
theorem c2 (w : World) : Calls Tryd.prog 9 #[.int .u8 4, .int .u16 65529, .int .u16 2] w fun e w' => e = .returned (.tuple #[.int .u16 65533, .int .u8 0]) ∧ Below w.heap.size w w' := by
  have h := Does_any 4 65529 2 w (by omega) (by omega) (by omega)
  rw [show opP 4 65529 2 = (65533, 0) from by decide +kernel] at h
  exact h
theorem c3 (w : World) : Calls Tryd.prog 9 #[.int .u8 5, .int .u16 65529, .int .u16 2] w fun e w' => e = .returned (.tuple #[.int .u16 65535, .int .u8 0]) ∧ Below w.heap.size w w' := by
  have h := Does_any 5 65529 2 w (by omega) (by omega) (by omega)
  rw [show opP 5 65529 2 = (65535, 0) from by decide +kernel] at h
  exact h
theorem c4 (w : World) : Calls Tryd.prog 9 #[.int .u8 9, .int .u16 1, .int .u16 2] w fun e w' => e = .returned (.tuple #[.int .u16 0, .int .u8 1]) ∧ Below w.heap.size w w' := by
  have h := Does_any 9 1 2 w (by omega) (by omega) (by omega)
  rw [show opP 9 1 2 = (0, 1) from by decide +kernel] at h
  exact h
theorem c5 (w : World) : Calls Tryd.prog 9 #[.int .u8 31, .int .u16 2, .int .u16 4] w fun e w' => e = .returned (.tuple #[.int .u16 28, .int .u8 0]) ∧ Below w.heap.size w w' := by
  have h := Does_any 31 2 4 w (by omega) (by omega) (by omega)
  rw [show opP 31 2 4 = (28, 0) from by decide +kernel] at h
  exact h
theorem c6 (w : World) : Calls Tryd.prog 9 #[.int .u8 99, .int .u16 1, .int .u16 1] w fun e w' => e = .returned (.tuple #[.int .u16 0, .int .u8 12]) ∧ Below w.heap.size w w' := by
  have h := Does_any 99 1 1 w (by omega) (by omega) (by omega)
  rw [show opP 99 1 1 = (0, 12) from by decide +kernel] at h
  exact h
theorem c7 (w : World) : Calls Tryd.prog 17 #[.int .i64 (-1)] w fun e w' => e = .returned (.tuple #[.int .u16 65535, .bool true]) ∧ w = w' := by
  have h := of_any (-1) w
  rw [show ofP (-1) = (65535, true) from by decide +kernel] at h
  exact h
theorem c8 (w : World) : Calls Tryd.prog 15 #[.int .u16 65535] w fun e w' => e = .returned (.int .i64 (-1)) ∧ w = w' := by
  have h := int_any 65535 w (by omega)
  rw [show sg 65535 = -1 from by decide +kernel] at h
  exact h
theorem minus_one : textP true 65535 = [45, 49] := by
  show Lib.itoa (sg 65535) = _
  rw [show sg 65535 = -1 from by decide +kernel, Lib.itoa, if_pos (by omega)]
  rw [show (-1 : Int).natAbs = 1 from rfl, dec_small 1 (by omega)]
  rfl
theorem c9 (w : World) (ht : Tab w) : Calls Tryd.prog 16 #[.bool true, .int .u16 65535] w fun e w' => e = .returned (.string ⟨#[45, 49]⟩) ∧ Below w.heap.size w w' := by
  have h := text_any true 65535 w (by omega) ht
  rw [minus_one] at h
  exact h
theorem c10 (w : World) : Calls Tryd.prog 11 #[.int .u8 23] w fun e w' => e = .returned (.int .i64 1) ∧ w = w' := by
  have h := takes_any 23 w (by omega)
  rw [show takesP 23 = 1 from by decide +kernel] at h
  exact h

set_option maxHeartbeats 800000 in
theorem alive_any (w : World) (ht : Tab w) : Calls Tryd.prog 13 #[] w fun e w' => e = .returned (.bool true) ∧ Below w.heap.size w w' := by
  have HT := Lib.hid ht
  clear ht
  go_enter Tryd.func13, Tryd.ntmps13
  go_wp2_with fail
  ((with_reducible refine (c1 _).mono ?_); rintro e x1 ⟨rfl, h1⟩)
  go_wp2_with fail
  ((with_reducible refine (c2 _).mono ?_); rintro e x2 ⟨rfl, h2⟩)
  replace h2 := h1.trans (h2.mono h1.size)
  go_wp2_with fail
  ((with_reducible refine (c3 _).mono ?_); rintro e x3 ⟨rfl, h3⟩)
  replace h3 := h2.trans (h3.mono h2.size)
  go_wp2_with fail
  ((with_reducible refine (c4 _).mono ?_); rintro e x4 ⟨rfl, h4⟩)
  replace h4 := h3.trans (h4.mono h3.size)
  go_wp2_with fail
  ((with_reducible refine (c5 _).mono ?_); rintro e x5 ⟨rfl, h5⟩)
  replace h5 := h4.trans (h5.mono h4.size)
  go_wp2_with fail
  ((with_reducible refine (c6 _).mono ?_); rintro e x6 ⟨rfl, h6⟩)
  replace h6 := h5.trans (h6.mono h5.size)
  go_wp2_with fail
  ((with_reducible refine (c7 _).mono ?_); rintro e x7 ⟨rfl, rfl⟩)
  go_wp2_with fail
  ((with_reducible refine (c8 _).mono ?_); rintro e x7 ⟨rfl, rfl⟩)
  go_wp2_with fail
  ((with_reducible refine (c9 _ (tab_below HT.out h6)).mono ?_); rintro e x7 ⟨rfl, h7⟩)
  replace h7 := h6.trans (h7.mono h6.size)
  go_wp2_with fail
  ((with_reducible refine (c10 _).mono ?_); rintro e x8 ⟨rfl, rfl⟩)
  go_wp2
  go_ret
  exact ⟨rfl, h7⟩

set_option maxHeartbeats 800000 in
theorem ldoes_any (op a b : Nat) (w : World) (ho : op < 256) (ha : a < 65536) (hb : b < 65536) :
    Calls Tryd.prog 14 #[.int .u8 op, .int .u16 a, .int .u16 b] w fun e w' => e = .returned (.tuple #[.int .u16 ((opP op a b).1 : Nat), .bool (okP (opP op a b))]) ∧ Below w.heap.size w w' := by
  have hd := Does_any op a b w ho ha hb
  unfold tup at hd
  have HD := Lib.hid hd
  clear hd
  have hk : ((((opP op a b).2 : Nat) : Int) == 0) = okP (opP op a b) := by unfold okP; rw [Bool.eq_iff_iff]; simp
  generalize okP (opP op a b) = z at *
  generalize (opP op a b).1 = x at *
  generalize (opP op a b).2 = t at *
  go_enter Tryd.func14, Tryd.ntmps14
  go_wp2_with fail
  refine HD.out.mono ?_
  rintro e w' ⟨rfl, hb⟩
  go_wp2
  go_ret2
  exact ⟨rfl, hb⟩

/-- .. at an op whose answer is known. -/
theorem ldoes_to (op a b x : Nat) (z : Bool) (w : World) (ho : op < 256) (ha : a < 65536) (hb : b < 65536) (h1 : (opP op a b).1 = x) (h2 : okP (opP op a b) = z) :
    Calls Tryd.prog 14 #[.int .u8 op, .int .u16 a, .int .u16 b] w fun e w' => e = .returned (.tuple #[.int .u16 x, .bool z]) ∧ Below w.heap.size w w' := by
  have := ldoes_any op a b w ho ha hb
  rwa [h1, h2] at this
theorem ld1 (a b x : Nat) (z : Bool) (w : World) (ha : a < 65536) (hb : b < 65536) (h1 : (opP 1 a b).1 = x) (h2 : okP (opP 1 a b) = z) :
    Calls Tryd.prog 14 #[.int .u8 1, .int .u16 a, .int .u16 b] w fun e w' => e = .returned (.tuple #[.int .u16 x, .bool z]) ∧ Below w.heap.size w w' := ldoes_to 1 a b x z w (by omega) ha hb h1 h2
theorem ld2 (a b x : Nat) (z : Bool) (w : World) (ha : a < 65536) (hb : b < 65536) (h1 : (opP 2 a b).1 = x) (h2 : okP (opP 2 a b) = z) :
    Calls Tryd.prog 14 #[.int .u8 2, .int .u16 a, .int .u16 b] w fun e w' => e = .returned (.tuple #[.int .u16 x, .bool z]) ∧ Below w.heap.size w w' := ldoes_to 2 a b x z w (by omega) ha hb h1 h2
theorem ld3 (a b x : Nat) (z : Bool) (w : World) (ha : a < 65536) (hb : b < 65536) (h1 : (opP 3 a b).1 = x) (h2 : okP (opP 3 a b) = z) :
    Calls Tryd.prog 14 #[.int .u8 3, .int .u16 a, .int .u16 b] w fun e w' => e = .returned (.tuple #[.int .u16 x, .bool z]) ∧ Below w.heap.size w w' := ldoes_to 3 a b x z w (by omega) ha hb h1 h2
theorem ld4 (a b x : Nat) (z : Bool) (w : World) (ha : a < 65536) (hb : b < 65536) (h1 : (opP 4 a b).1 = x) (h2 : okP (opP 4 a b) = z) :
    Calls Tryd.prog 14 #[.int .u8 4, .int .u16 a, .int .u16 b] w fun e w' => e = .returned (.tuple #[.int .u16 x, .bool z]) ∧ Below w.heap.size w w' := ldoes_to 4 a b x z w (by omega) ha hb h1 h2
theorem ld5 (a b x : Nat) (z : Bool) (w : World) (ha : a < 65536) (hb : b < 65536) (h1 : (opP 5 a b).1 = x) (h2 : okP (opP 5 a b) = z) :
    Calls Tryd.prog 14 #[.int .u8 5, .int .u16 a, .int .u16 b] w fun e w' => e = .returned (.tuple #[.int .u16 x, .bool z]) ∧ Below w.heap.size w w' := ldoes_to 5 a b x z w (by omega) ha hb h1 h2
theorem ld6 (a b x : Nat) (z : Bool) (w : World) (ha : a < 65536) (hb : b < 65536) (h1 : (opP 6 a b).1 = x) (h2 : okP (opP 6 a b) = z) :
    Calls Tryd.prog 14 #[.int .u8 6, .int .u16 a, .int .u16 b] w fun e w' => e = .returned (.tuple #[.int .u16 x, .bool z]) ∧ Below w.heap.size w w' := ldoes_to 6 a b x z w (by omega) ha hb h1 h2
theorem ld7 (a b x : Nat) (z : Bool) (w : World) (ha : a < 65536) (hb : b < 65536) (h1 : (opP 7 a b).1 = x) (h2 : okP (opP 7 a b) = z) :
    Calls Tryd.prog 14 #[.int .u8 7, .int .u16 a, .int .u16 b] w fun e w' => e = .returned (.tuple #[.int .u16 x, .bool z]) ∧ Below w.heap.size w w' := ldoes_to 7 a b x z w (by omega) ha hb h1 h2
theorem ld8 (a b x : Nat) (z : Bool) (w : World) (ha : a < 65536) (hb : b < 65536) (h1 : (opP 8 a b).1 = x) (h2 : okP (opP 8 a b) = z) :
    Calls Tryd.prog 14 #[.int .u8 8, .int .u16 a, .int .u16 b] w fun e w' => e = .returned (.tuple #[.int .u16 x, .bool z]) ∧ Below w.heap.size w w' := ldoes_to 8 a b x z w (by omega) ha hb h1 h2
theorem ld9 (a b x : Nat) (z : Bool) (w : World) (ha : a < 65536) (hb : b < 65536) (h1 : (opP 9 a b).1 = x) (h2 : okP (opP 9 a b) = z) :
    Calls Tryd.prog 14 #[.int .u8 9, .int .u16 a, .int .u16 b] w fun e w' => e = .returned (.tuple #[.int .u16 x, .bool z]) ∧ Below w.heap.size w w' := ldoes_to 9 a b x z w (by omega) ha hb h1 h2
theorem ld10 (a b x : Nat) (z : Bool) (w : World) (ha : a < 65536) (hb : b < 65536) (h1 : (opP 10 a b).1 = x) (h2 : okP (opP 10 a b) = z) :
    Calls Tryd.prog 14 #[.int .u8 10, .int .u16 a, .int .u16 b] w fun e w' => e = .returned (.tuple #[.int .u16 x, .bool z]) ∧ Below w.heap.size w w' := ldoes_to 10 a b x z w (by omega) ha hb h1 h2
theorem ld11 (a b x : Nat) (z : Bool) (w : World) (ha : a < 65536) (hb : b < 65536) (h1 : (opP 11 a b).1 = x) (h2 : okP (opP 11 a b) = z) :
    Calls Tryd.prog 14 #[.int .u8 11, .int .u16 a, .int .u16 b] w fun e w' => e = .returned (.tuple #[.int .u16 x, .bool z]) ∧ Below w.heap.size w w' := ldoes_to 11 a b x z w (by omega) ha hb h1 h2
theorem ld12 (a b x : Nat) (z : Bool) (w : World) (ha : a < 65536) (hb : b < 65536) (h1 : (opP 12 a b).1 = x) (h2 : okP (opP 12 a b) = z) :
    Calls Tryd.prog 14 #[.int .u8 12, .int .u16 a, .int .u16 b] w fun e w' => e = .returned (.tuple #[.int .u16 x, .bool z]) ∧ Below w.heap.size w w' := ldoes_to 12 a b x z w (by omega) ha hb h1 h2
theorem ld13 (a b x : Nat) (z : Bool) (w : World) (ha : a < 65536) (hb : b < 65536) (h1 : (opP 13 a b).1 = x) (h2 : okP (opP 13 a b) = z) :
    Calls Tryd.prog 14 #[.int .u8 13, .int .u16 a, .int .u16 b] w fun e w' => e = .returned (.tuple #[.int .u16 x, .bool z]) ∧ Below w.heap.size w w' := ldoes_to 13 a b x z w (by omega) ha hb h1 h2
theorem ld14 (a b x : Nat) (z : Bool) (w : World) (ha : a < 65536) (hb : b < 65536) (h1 : (opP 14 a b).1 = x) (h2 : okP (opP 14 a b) = z) :
    Calls Tryd.prog 14 #[.int .u8 14, .int .u16 a, .int .u16 b] w fun e w' => e = .returned (.tuple #[.int .u16 x, .bool z]) ∧ Below w.heap.size w w' := ldoes_to 14 a b x z w (by omega) ha hb h1 h2
theorem ld15 (a b x : Nat) (z : Bool) (w : World) (ha : a < 65536) (hb : b < 65536) (h1 : (opP 15 a b).1 = x) (h2 : okP (opP 15 a b) = z) :
    Calls Tryd.prog 14 #[.int .u8 15, .int .u16 a, .int .u16 b] w fun e w' => e = .returned (.tuple #[.int .u16 x, .bool z]) ∧ Below w.heap.size w w' := ldoes_to 15 a b x z w (by omega) ha hb h1 h2
theorem ld16 (a b x : Nat) (z : Bool) (w : World) (ha : a < 65536) (hb : b < 65536) (h1 : (opP 16 a b).1 = x) (h2 : okP (opP 16 a b) = z) :
    Calls Tryd.prog 14 #[.int .u8 16, .int .u16 a, .int .u16 b] w fun e w' => e = .returned (.tuple #[.int .u16 x, .bool z]) ∧ Below w.heap.size w w' := ldoes_to 16 a b x z w (by omega) ha hb h1 h2
theorem ld17 (a b x : Nat) (z : Bool) (w : World) (ha : a < 65536) (hb : b < 65536) (h1 : (opP 17 a b).1 = x) (h2 : okP (opP 17 a b) = z) :
    Calls Tryd.prog 14 #[.int .u8 17, .int .u16 a, .int .u16 b] w fun e w' => e = .returned (.tuple #[.int .u16 x, .bool z]) ∧ Below w.heap.size w w' := ldoes_to 17 a b x z w (by omega) ha hb h1 h2
theorem ld18 (a b x : Nat) (z : Bool) (w : World) (ha : a < 65536) (hb : b < 65536) (h1 : (opP 18 a b).1 = x) (h2 : okP (opP 18 a b) = z) :
    Calls Tryd.prog 14 #[.int .u8 18, .int .u16 a, .int .u16 b] w fun e w' => e = .returned (.tuple #[.int .u16 x, .bool z]) ∧ Below w.heap.size w w' := ldoes_to 18 a b x z w (by omega) ha hb h1 h2
theorem ld19 (a b x : Nat) (z : Bool) (w : World) (ha : a < 65536) (hb : b < 65536) (h1 : (opP 19 a b).1 = x) (h2 : okP (opP 19 a b) = z) :
    Calls Tryd.prog 14 #[.int .u8 19, .int .u16 a, .int .u16 b] w fun e w' => e = .returned (.tuple #[.int .u16 x, .bool z]) ∧ Below w.heap.size w w' := ldoes_to 19 a b x z w (by omega) ha hb h1 h2
theorem ld20 (a b x : Nat) (z : Bool) (w : World) (ha : a < 65536) (hb : b < 65536) (h1 : (opP 20 a b).1 = x) (h2 : okP (opP 20 a b) = z) :
    Calls Tryd.prog 14 #[.int .u8 20, .int .u16 a, .int .u16 b] w fun e w' => e = .returned (.tuple #[.int .u16 x, .bool z]) ∧ Below w.heap.size w w' := ldoes_to 20 a b x z w (by omega) ha hb h1 h2
theorem ld21 (a b x : Nat) (z : Bool) (w : World) (ha : a < 65536) (hb : b < 65536) (h1 : (opP 21 a b).1 = x) (h2 : okP (opP 21 a b) = z) :
    Calls Tryd.prog 14 #[.int .u8 21, .int .u16 a, .int .u16 b] w fun e w' => e = .returned (.tuple #[.int .u16 x, .bool z]) ∧ Below w.heap.size w w' := ldoes_to 21 a b x z w (by omega) ha hb h1 h2
theorem ld22 (a b x : Nat) (z : Bool) (w : World) (ha : a < 65536) (hb : b < 65536) (h1 : (opP 22 a b).1 = x) (h2 : okP (opP 22 a b) = z) :
    Calls Tryd.prog 14 #[.int .u8 22, .int .u16 a, .int .u16 b] w fun e w' => e = .returned (.tuple #[.int .u16 x, .bool z]) ∧ Below w.heap.size w w' := ldoes_to 22 a b x z w (by omega) ha hb h1 h2
theorem ld23 (a b x : Nat) (z : Bool) (w : World) (ha : a < 65536) (hb : b < 65536) (h1 : (opP 23 a b).1 = x) (h2 : okP (opP 23 a b) = z) :
    Calls Tryd.prog 14 #[.int .u8 23, .int .u16 a, .int .u16 b] w fun e w' => e = .returned (.tuple #[.int .u16 x, .bool z]) ∧ Below w.heap.size w w' := ldoes_to 23 a b x z w (by omega) ha hb h1 h2
theorem ld24 (a b x : Nat) (z : Bool) (w : World) (ha : a < 65536) (hb : b < 65536) (h1 : (opP 24 a b).1 = x) (h2 : okP (opP 24 a b) = z) :
    Calls Tryd.prog 14 #[.int .u8 24, .int .u16 a, .int .u16 b] w fun e w' => e = .returned (.tuple #[.int .u16 x, .bool z]) ∧ Below w.heap.size w w' := ldoes_to 24 a b x z w (by omega) ha hb h1 h2
theorem ld25 (a b x : Nat) (z : Bool) (w : World) (ha : a < 65536) (hb : b < 65536) (h1 : (opP 25 a b).1 = x) (h2 : okP (opP 25 a b) = z) :
    Calls Tryd.prog 14 #[.int .u8 25, .int .u16 a, .int .u16 b] w fun e w' => e = .returned (.tuple #[.int .u16 x, .bool z]) ∧ Below w.heap.size w w' := ldoes_to 25 a b x z w (by omega) ha hb h1 h2
theorem ld26 (a b x : Nat) (z : Bool) (w : World) (ha : a < 65536) (hb : b < 65536) (h1 : (opP 26 a b).1 = x) (h2 : okP (opP 26 a b) = z) :
    Calls Tryd.prog 14 #[.int .u8 26, .int .u16 a, .int .u16 b] w fun e w' => e = .returned (.tuple #[.int .u16 x, .bool z]) ∧ Below w.heap.size w w' := ldoes_to 26 a b x z w (by omega) ha hb h1 h2
theorem ld27 (a b x : Nat) (z : Bool) (w : World) (ha : a < 65536) (hb : b < 65536) (h1 : (opP 27 a b).1 = x) (h2 : okP (opP 27 a b) = z) :
    Calls Tryd.prog 14 #[.int .u8 27, .int .u16 a, .int .u16 b] w fun e w' => e = .returned (.tuple #[.int .u16 x, .bool z]) ∧ Below w.heap.size w w' := ldoes_to 27 a b x z w (by omega) ha hb h1 h2
theorem ld28 (a b x : Nat) (z : Bool) (w : World) (ha : a < 65536) (hb : b < 65536) (h1 : (opP 28 a b).1 = x) (h2 : okP (opP 28 a b) = z) :
    Calls Tryd.prog 14 #[.int .u8 28, .int .u16 a, .int .u16 b] w fun e w' => e = .returned (.tuple #[.int .u16 x, .bool z]) ∧ Below w.heap.size w w' := ldoes_to 28 a b x z w (by omega) ha hb h1 h2
theorem ld29 (a b x : Nat) (z : Bool) (w : World) (ha : a < 65536) (hb : b < 65536) (h1 : (opP 29 a b).1 = x) (h2 : okP (opP 29 a b) = z) :
    Calls Tryd.prog 14 #[.int .u8 29, .int .u16 a, .int .u16 b] w fun e w' => e = .returned (.tuple #[.int .u16 x, .bool z]) ∧ Below w.heap.size w w' := ldoes_to 29 a b x z w (by omega) ha hb h1 h2
theorem ld30 (a b x : Nat) (z : Bool) (w : World) (ha : a < 65536) (hb : b < 65536) (h1 : (opP 30 a b).1 = x) (h2 : okP (opP 30 a b) = z) :
    Calls Tryd.prog 14 #[.int .u8 30, .int .u16 a, .int .u16 b] w fun e w' => e = .returned (.tuple #[.int .u16 x, .bool z]) ∧ Below w.heap.size w w' := ldoes_to 30 a b x z w (by omega) ha hb h1 h2
theorem ld31 (a b x : Nat) (z : Bool) (w : World) (ha : a < 65536) (hb : b < 65536) (h1 : (opP 31 a b).1 = x) (h2 : okP (opP 31 a b) = z) :
    Calls Tryd.prog 14 #[.int .u8 31, .int .u16 a, .int .u16 b] w fun e w' => e = .returned (.tuple #[.int .u16 x, .bool z]) ∧ Below w.heap.size w w' := ldoes_to 31 a b x z w (by omega) ha hb h1 h2

end Go.Proofs.YtdodbbedlgglcaaDoor.Wd
