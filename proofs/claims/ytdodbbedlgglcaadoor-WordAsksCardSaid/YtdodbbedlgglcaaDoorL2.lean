/- The walk of the law WordAsks, one theorem for each order of the two words. -/
import Derived.Test.YtdodbbedlgglcaaDoorL1
set_option linter.unusedSimpArgs false
set_option linter.unusedVariables false
namespace Go.Proofs.YtdodbbedlgglcaaDoor.Wd
open Go.RowKit
open WPlain

theorem is1 {c : Bool} (h : c = true) : (isP c).1 = 1 := by subst h; rfl
theorem is0 {c : Bool} (h : c = false) : (isP c).1 = 0 := by subst h; rfl
theorem is_ok (c : Bool) : okP (isP c) = true := rfl

set_option maxRecDepth 100000 in
set_option maxHeartbeats 3200000 in
theorem asks_ll_e (a b : Nat) (w : World) (ha : a < 65536) (hb : b < 65536) (ht : Tab w) (h1 : a = b) (h2 : a < 32768) :
    Calls Tryd.prog 5 #[.int .u16 a, .int .u16 b] w fun e w' => e = .returned (.bool true) ∧ Below w.heap.size w w' := by
  have hsa : sg a = (a : Int) := by unfold sg; rw [if_pos (by omega)]
  have hsb : sg b = (b : Int) := by unfold sg; rw [if_pos (by omega)]
  have C13 := Lib.hid fun w' => ld13 a b 1 true w' ha hb (is1 (by simp; omega)) (is_ok _)
  have C14 := Lib.hid fun w' => ld14 a b 0 true w' ha hb (is0 (by simp; omega)) (is_ok _)
  have C15 := Lib.hid fun w' => ld15 a b 0 true w' ha hb (is0 (by simp; omega)) (is_ok _)
  have C16 := Lib.hid fun w' => ld16 a b 1 true w' ha hb (is1 (by simp; omega)) (is_ok _)
  have C17 := Lib.hid fun w' => ld17 a b 0 true w' ha hb (is0 (by simp; omega)) (is_ok _)
  have C18 := Lib.hid fun w' => ld18 a b 1 true w' ha hb (is1 (by simp; omega)) (is_ok _)
  have C19 := Lib.hid fun w' => ld19 a b 0 true w' ha hb (is0 (by simp; omega)) (is_ok _)
  have C20 := Lib.hid fun w' => ld20 a b 1 true w' ha hb (is1 (by simp; omega)) (is_ok _)
  have C21 := Lib.hid fun w' => ld21 a b 0 true w' ha hb (is0 (by simp; omega)) (is_ok _)
  have C22 := Lib.hid fun w' => ld22 a b 1 true w' ha hb (is1 (by simp; omega)) (is_ok _)
  have hD : (sg a - sg b) % 65536 < 65536 := Int.emod_lt_of_pos _ (by omega)
  have hD0 : 0 ≤ (sg a - sg b) % 65536 := Int.emod_nonneg _ (by omega)
  have hsub := signed_in (sg a - sg b) (by omega) (by omega)
  have C2 := Lib.hid fun w' => ld2 a b ((sg a - sg b) % 65536).toNat true w' ha hb (by show (signedP (sg a - sg b)).1 = _; rw [hsub]) (by show okP (signedP (sg a - sg b)) = _; rw [hsub]; rfl)
  have ci := fun w' => int_any ((sg a - sg b) % 65536).toNat w' (by omega)
  rw [sg_of (sg a - sg b) (by omega) (by omega)] at ci
  have CI := Lib.hid ci
  have hx : decide (sg a - sg b < 0) = false := by simp; omega
  clear ci hsub hD hD0
  generalize ((sg a - sg b) % 65536).toNat = D at *
  generalize sg a - sg b = x at *
  have hc := bare_in ((a : Int) - b) (by omega) (by omega)
  have C9 := Lib.hid fun w' => ld9 a b ((a : Int) - b).toNat true w' ha hb (by show (bareP _).1 = _; rw [hc]) (by show okP (bareP _) = _; rw [hc]; rfl)
  clear hc
  generalize ((a : Int) - b).toNat = E at *
  have HT := Lib.hid ht
  subst h1
  have q2 : decide ((32768 : Int) ≤ (a : Int)) = false := by simp; omega
  clear hsa hsb ht h2
  go_enter Tryd.func5, Tryd.ntmps5
  go_wp2_with fail
  ((with_reducible refine (C13.out _).mono ?_); rintro e x1 ⟨rfl, g1⟩)
  go_wp2_with fail
  ((with_reducible refine (C14.out _).mono ?_); rintro e x2 ⟨rfl, g2⟩)
  replace g2 := g1.trans (g2.mono g1.size)
  go_wp2_with fail
  ((with_reducible refine (C15.out _).mono ?_); rintro e x3 ⟨rfl, g3⟩)
  replace g3 := g2.trans (g3.mono g2.size)
  go_wp2_with fail
  ((with_reducible refine (C16.out _).mono ?_); rintro e x4 ⟨rfl, g4⟩)
  replace g4 := g3.trans (g4.mono g3.size)
  go_wp2_with fail
  ((with_reducible refine (C17.out _).mono ?_); rintro e x5 ⟨rfl, g5⟩)
  replace g5 := g4.trans (g5.mono g4.size)
  go_wp2_with fail
  ((with_reducible refine (C18.out _).mono ?_); rintro e x6 ⟨rfl, g6⟩)
  replace g6 := g5.trans (g6.mono g5.size)
  go_wp2_with fail
  ((with_reducible refine (C19.out _).mono ?_); rintro e x7 ⟨rfl, g7⟩)
  replace g7 := g6.trans (g7.mono g6.size)
  go_wp2_with fail
  ((with_reducible refine (C20.out _).mono ?_); rintro e x8 ⟨rfl, g8⟩)
  replace g8 := g7.trans (g8.mono g7.size)
  go_wp2_with fail
  ((with_reducible refine (C21.out _).mono ?_); rintro e x9 ⟨rfl, g9⟩)
  replace g9 := g8.trans (g9.mono g8.size)
  go_wp2_with fail
  ((with_reducible refine (C22.out _).mono ?_); rintro e x10 ⟨rfl, g10⟩)
  replace g10 := g9.trans (g10.mono g9.size)
  go_wp2_with fail
  ((with_reducible refine (C2.out _).mono ?_); rintro e x11 ⟨rfl, g11⟩)
  replace g11 := g10.trans (g11.mono g10.size)
  go_wp2_with fail
  ((with_reducible refine (C9.out _).mono ?_); rintro e x12 ⟨rfl, g12⟩)
  replace g12 := g11.trans (g12.mono g11.size)
  go_wp2_with fail
  ((with_reducible refine (CI.out _).mono ?_); rintro e x0 ⟨rfl, rfl⟩)
  go_wp2_with fail
  ((with_reducible refine (alive_any _ (tab_below HT.out g12)).mono ?_); rintro e x ⟨rfl, g⟩)
  replace g := g12.trans (g.mono g12.size)
  go_wp2
  go_ret
  exact ⟨rfl, g⟩

set_option maxRecDepth 100000 in
set_option maxHeartbeats 3200000 in
theorem asks_hh_e (a b : Nat) (w : World) (ha : a < 65536) (hb : b < 65536) (ht : Tab w) (h1 : a = b) (h2 : 32768 ≤ a) :
    Calls Tryd.prog 5 #[.int .u16 a, .int .u16 b] w fun e w' => e = .returned (.bool true) ∧ Below w.heap.size w w' := by
  have hsa : sg a = (a : Int) - 65536 := by unfold sg; rw [if_neg (by omega)]
  have hsb : sg b = (b : Int) - 65536 := by unfold sg; rw [if_neg (by omega)]
  have C13 := Lib.hid fun w' => ld13 a b 1 true w' ha hb (is1 (by simp; omega)) (is_ok _)
  have C14 := Lib.hid fun w' => ld14 a b 0 true w' ha hb (is0 (by simp; omega)) (is_ok _)
  have C15 := Lib.hid fun w' => ld15 a b 0 true w' ha hb (is0 (by simp; omega)) (is_ok _)
  have C16 := Lib.hid fun w' => ld16 a b 1 true w' ha hb (is1 (by simp; omega)) (is_ok _)
  have C17 := Lib.hid fun w' => ld17 a b 0 true w' ha hb (is0 (by simp; omega)) (is_ok _)
  have C18 := Lib.hid fun w' => ld18 a b 1 true w' ha hb (is1 (by simp; omega)) (is_ok _)
  have C19 := Lib.hid fun w' => ld19 a b 0 true w' ha hb (is0 (by simp; omega)) (is_ok _)
  have C20 := Lib.hid fun w' => ld20 a b 1 true w' ha hb (is1 (by simp; omega)) (is_ok _)
  have C21 := Lib.hid fun w' => ld21 a b 0 true w' ha hb (is0 (by simp; omega)) (is_ok _)
  have C22 := Lib.hid fun w' => ld22 a b 1 true w' ha hb (is1 (by simp; omega)) (is_ok _)
  have hD : (sg a - sg b) % 65536 < 65536 := Int.emod_lt_of_pos _ (by omega)
  have hD0 : 0 ≤ (sg a - sg b) % 65536 := Int.emod_nonneg _ (by omega)
  have hsub := signed_in (sg a - sg b) (by omega) (by omega)
  have C2 := Lib.hid fun w' => ld2 a b ((sg a - sg b) % 65536).toNat true w' ha hb (by show (signedP (sg a - sg b)).1 = _; rw [hsub]) (by show okP (signedP (sg a - sg b)) = _; rw [hsub]; rfl)
  have ci := fun w' => int_any ((sg a - sg b) % 65536).toNat w' (by omega)
  rw [sg_of (sg a - sg b) (by omega) (by omega)] at ci
  have CI := Lib.hid ci
  have hx : decide (sg a - sg b < 0) = false := by simp; omega
  clear ci hsub hD hD0
  generalize ((sg a - sg b) % 65536).toNat = D at *
  generalize sg a - sg b = x at *
  have hc := bare_in ((a : Int) - b) (by omega) (by omega)
  have C9 := Lib.hid fun w' => ld9 a b ((a : Int) - b).toNat true w' ha hb (by show (bareP _).1 = _; rw [hc]) (by show okP (bareP _) = _; rw [hc]; rfl)
  clear hc
  generalize ((a : Int) - b).toNat = E at *
  have HT := Lib.hid ht
  subst h1
  have q2 : decide ((32768 : Int) ≤ (a : Int)) = true := by simp; omega
  clear hsa hsb ht h2
  go_enter Tryd.func5, Tryd.ntmps5
  go_wp2_with fail
  ((with_reducible refine (C13.out _).mono ?_); rintro e x1 ⟨rfl, g1⟩)
  go_wp2_with fail
  ((with_reducible refine (C14.out _).mono ?_); rintro e x2 ⟨rfl, g2⟩)
  replace g2 := g1.trans (g2.mono g1.size)
  go_wp2_with fail
  ((with_reducible refine (C15.out _).mono ?_); rintro e x3 ⟨rfl, g3⟩)
  replace g3 := g2.trans (g3.mono g2.size)
  go_wp2_with fail
  ((with_reducible refine (C16.out _).mono ?_); rintro e x4 ⟨rfl, g4⟩)
  replace g4 := g3.trans (g4.mono g3.size)
  go_wp2_with fail
  ((with_reducible refine (C17.out _).mono ?_); rintro e x5 ⟨rfl, g5⟩)
  replace g5 := g4.trans (g5.mono g4.size)
  go_wp2_with fail
  ((with_reducible refine (C18.out _).mono ?_); rintro e x6 ⟨rfl, g6⟩)
  replace g6 := g5.trans (g6.mono g5.size)
  go_wp2_with fail
  ((with_reducible refine (C19.out _).mono ?_); rintro e x7 ⟨rfl, g7⟩)
  replace g7 := g6.trans (g7.mono g6.size)
  go_wp2_with fail
  ((with_reducible refine (C20.out _).mono ?_); rintro e x8 ⟨rfl, g8⟩)
  replace g8 := g7.trans (g8.mono g7.size)
  go_wp2_with fail
  ((with_reducible refine (C21.out _).mono ?_); rintro e x9 ⟨rfl, g9⟩)
  replace g9 := g8.trans (g9.mono g8.size)
  go_wp2_with fail
  ((with_reducible refine (C22.out _).mono ?_); rintro e x10 ⟨rfl, g10⟩)
  replace g10 := g9.trans (g10.mono g9.size)
  go_wp2_with fail
  ((with_reducible refine (C2.out _).mono ?_); rintro e x11 ⟨rfl, g11⟩)
  replace g11 := g10.trans (g11.mono g10.size)
  go_wp2_with fail
  ((with_reducible refine (C9.out _).mono ?_); rintro e x12 ⟨rfl, g12⟩)
  replace g12 := g11.trans (g12.mono g11.size)
  go_wp2_with fail
  ((with_reducible refine (CI.out _).mono ?_); rintro e x0 ⟨rfl, rfl⟩)
  go_wp2_with fail
  ((with_reducible refine (alive_any _ (tab_below HT.out g12)).mono ?_); rintro e x ⟨rfl, g⟩)
  replace g := g12.trans (g.mono g12.size)
  go_wp2
  go_ret
  exact ⟨rfl, g⟩

set_option maxRecDepth 100000 in
set_option maxHeartbeats 3200000 in
theorem asks_ll_l (a b : Nat) (w : World) (ha : a < 65536) (hb : b < 65536) (ht : Tab w) (h1 : a < b) (h2 : b < 32768) :
    Calls Tryd.prog 5 #[.int .u16 a, .int .u16 b] w fun e w' => e = .returned (.bool true) ∧ Below w.heap.size w w' := by
  have hsa : sg a = (a : Int) := by unfold sg; rw [if_pos (by omega)]
  have hsb : sg b = (b : Int) := by unfold sg; rw [if_pos (by omega)]
  have C13 := Lib.hid fun w' => ld13 a b 0 true w' ha hb (is0 (by simp; omega)) (is_ok _)
  have C14 := Lib.hid fun w' => ld14 a b 1 true w' ha hb (is1 (by simp; omega)) (is_ok _)
  have C15 := Lib.hid fun w' => ld15 a b 1 true w' ha hb (is1 (by simp; omega)) (is_ok _)
  have C16 := Lib.hid fun w' => ld16 a b 1 true w' ha hb (is1 (by simp; omega)) (is_ok _)
  have C17 := Lib.hid fun w' => ld17 a b 0 true w' ha hb (is0 (by simp; omega)) (is_ok _)
  have C18 := Lib.hid fun w' => ld18 a b 0 true w' ha hb (is0 (by simp; omega)) (is_ok _)
  have C19 := Lib.hid fun w' => ld19 a b 1 true w' ha hb (is1 (by simp; omega)) (is_ok _)
  have C20 := Lib.hid fun w' => ld20 a b 1 true w' ha hb (is1 (by simp; omega)) (is_ok _)
  have C21 := Lib.hid fun w' => ld21 a b 0 true w' ha hb (is0 (by simp; omega)) (is_ok _)
  have C22 := Lib.hid fun w' => ld22 a b 0 true w' ha hb (is0 (by simp; omega)) (is_ok _)
  have hD : (sg a - sg b) % 65536 < 65536 := Int.emod_lt_of_pos _ (by omega)
  have hD0 : 0 ≤ (sg a - sg b) % 65536 := Int.emod_nonneg _ (by omega)
  have hsub := signed_in (sg a - sg b) (by omega) (by omega)
  have C2 := Lib.hid fun w' => ld2 a b ((sg a - sg b) % 65536).toNat true w' ha hb (by show (signedP (sg a - sg b)).1 = _; rw [hsub]) (by show okP (signedP (sg a - sg b)) = _; rw [hsub]; rfl)
  have ci := fun w' => int_any ((sg a - sg b) % 65536).toNat w' (by omega)
  rw [sg_of (sg a - sg b) (by omega) (by omega)] at ci
  have CI := Lib.hid ci
  have hx : decide (sg a - sg b < 0) = true := by simp; omega
  clear ci hsub hD hD0
  generalize ((sg a - sg b) % 65536).toNat = D at *
  generalize sg a - sg b = x at *
  have hc := bare_out ((a : Int) - b) (by omega)
  have C9 := Lib.hid fun w' => ld9 a b 0 false w' ha hb (by show (bareP _).1 = _; rw [hc]) (by show okP (bareP _) = _; rw [hc]; rfl)
  clear hc
  have HT := Lib.hid ht
  have q1 : ((a : Int) == (b : Int)) = false := by simp; omega
  have q2 : decide ((32768 : Int) ≤ (a : Int)) = false := by simp; omega
  have q3 : decide ((32768 : Int) ≤ (b : Int)) = false := by simp; omega
  clear hsa hsb ht h2 h1
  go_enter Tryd.func5, Tryd.ntmps5
  go_wp2_with fail
  ((with_reducible refine (C13.out _).mono ?_); rintro e x1 ⟨rfl, g1⟩)
  go_wp2_with fail
  ((with_reducible refine (C14.out _).mono ?_); rintro e x2 ⟨rfl, g2⟩)
  replace g2 := g1.trans (g2.mono g1.size)
  go_wp2_with fail
  ((with_reducible refine (C15.out _).mono ?_); rintro e x3 ⟨rfl, g3⟩)
  replace g3 := g2.trans (g3.mono g2.size)
  go_wp2_with fail
  ((with_reducible refine (C16.out _).mono ?_); rintro e x4 ⟨rfl, g4⟩)
  replace g4 := g3.trans (g4.mono g3.size)
  go_wp2_with fail
  ((with_reducible refine (C17.out _).mono ?_); rintro e x5 ⟨rfl, g5⟩)
  replace g5 := g4.trans (g5.mono g4.size)
  go_wp2_with fail
  ((with_reducible refine (C18.out _).mono ?_); rintro e x6 ⟨rfl, g6⟩)
  replace g6 := g5.trans (g6.mono g5.size)
  go_wp2_with fail
  ((with_reducible refine (C19.out _).mono ?_); rintro e x7 ⟨rfl, g7⟩)
  replace g7 := g6.trans (g7.mono g6.size)
  go_wp2_with fail
  ((with_reducible refine (C20.out _).mono ?_); rintro e x8 ⟨rfl, g8⟩)
  replace g8 := g7.trans (g8.mono g7.size)
  go_wp2_with fail
  ((with_reducible refine (C21.out _).mono ?_); rintro e x9 ⟨rfl, g9⟩)
  replace g9 := g8.trans (g9.mono g8.size)
  go_wp2_with fail
  ((with_reducible refine (C22.out _).mono ?_); rintro e x10 ⟨rfl, g10⟩)
  replace g10 := g9.trans (g10.mono g9.size)
  go_wp2_with fail
  ((with_reducible refine (C2.out _).mono ?_); rintro e x11 ⟨rfl, g11⟩)
  replace g11 := g10.trans (g11.mono g10.size)
  go_wp2_with fail
  ((with_reducible refine (C9.out _).mono ?_); rintro e x12 ⟨rfl, g12⟩)
  replace g12 := g11.trans (g12.mono g11.size)
  go_wp2_with fail
  ((with_reducible refine (CI.out _).mono ?_); rintro e x0 ⟨rfl, rfl⟩)
  go_wp2_with fail
  ((with_reducible refine (alive_any _ (tab_below HT.out g12)).mono ?_); rintro e x ⟨rfl, g⟩)
  replace g := g12.trans (g.mono g12.size)
  go_wp2
  go_ret
  exact ⟨rfl, g⟩

set_option maxRecDepth 100000 in
set_option maxHeartbeats 3200000 in
theorem asks_hh_l (a b : Nat) (w : World) (ha : a < 65536) (hb : b < 65536) (ht : Tab w) (h1 : a < b) (h2 : 32768 ≤ a) :
    Calls Tryd.prog 5 #[.int .u16 a, .int .u16 b] w fun e w' => e = .returned (.bool true) ∧ Below w.heap.size w w' := by
  have hsa : sg a = (a : Int) - 65536 := by unfold sg; rw [if_neg (by omega)]
  have hsb : sg b = (b : Int) - 65536 := by unfold sg; rw [if_neg (by omega)]
  have C13 := Lib.hid fun w' => ld13 a b 0 true w' ha hb (is0 (by simp; omega)) (is_ok _)
  have C14 := Lib.hid fun w' => ld14 a b 1 true w' ha hb (is1 (by simp; omega)) (is_ok _)
  have C15 := Lib.hid fun w' => ld15 a b 1 true w' ha hb (is1 (by simp; omega)) (is_ok _)
  have C16 := Lib.hid fun w' => ld16 a b 1 true w' ha hb (is1 (by simp; omega)) (is_ok _)
  have C17 := Lib.hid fun w' => ld17 a b 0 true w' ha hb (is0 (by simp; omega)) (is_ok _)
  have C18 := Lib.hid fun w' => ld18 a b 0 true w' ha hb (is0 (by simp; omega)) (is_ok _)
  have C19 := Lib.hid fun w' => ld19 a b 1 true w' ha hb (is1 (by simp; omega)) (is_ok _)
  have C20 := Lib.hid fun w' => ld20 a b 1 true w' ha hb (is1 (by simp; omega)) (is_ok _)
  have C21 := Lib.hid fun w' => ld21 a b 0 true w' ha hb (is0 (by simp; omega)) (is_ok _)
  have C22 := Lib.hid fun w' => ld22 a b 0 true w' ha hb (is0 (by simp; omega)) (is_ok _)
  have hD : (sg a - sg b) % 65536 < 65536 := Int.emod_lt_of_pos _ (by omega)
  have hD0 : 0 ≤ (sg a - sg b) % 65536 := Int.emod_nonneg _ (by omega)
  have hsub := signed_in (sg a - sg b) (by omega) (by omega)
  have C2 := Lib.hid fun w' => ld2 a b ((sg a - sg b) % 65536).toNat true w' ha hb (by show (signedP (sg a - sg b)).1 = _; rw [hsub]) (by show okP (signedP (sg a - sg b)) = _; rw [hsub]; rfl)
  have ci := fun w' => int_any ((sg a - sg b) % 65536).toNat w' (by omega)
  rw [sg_of (sg a - sg b) (by omega) (by omega)] at ci
  have CI := Lib.hid ci
  have hx : decide (sg a - sg b < 0) = true := by simp; omega
  clear ci hsub hD hD0
  generalize ((sg a - sg b) % 65536).toNat = D at *
  generalize sg a - sg b = x at *
  have hc := bare_out ((a : Int) - b) (by omega)
  have C9 := Lib.hid fun w' => ld9 a b 0 false w' ha hb (by show (bareP _).1 = _; rw [hc]) (by show okP (bareP _) = _; rw [hc]; rfl)
  clear hc
  have HT := Lib.hid ht
  have q1 : ((a : Int) == (b : Int)) = false := by simp; omega
  have q2 : decide ((32768 : Int) ≤ (a : Int)) = true := by simp; omega
  have q3 : decide ((32768 : Int) ≤ (b : Int)) = true := by simp; omega
  clear hsa hsb ht h2 h1
  go_enter Tryd.func5, Tryd.ntmps5
  go_wp2_with fail
  ((with_reducible refine (C13.out _).mono ?_); rintro e x1 ⟨rfl, g1⟩)
  go_wp2_with fail
  ((with_reducible refine (C14.out _).mono ?_); rintro e x2 ⟨rfl, g2⟩)
  replace g2 := g1.trans (g2.mono g1.size)
  go_wp2_with fail
  ((with_reducible refine (C15.out _).mono ?_); rintro e x3 ⟨rfl, g3⟩)
  replace g3 := g2.trans (g3.mono g2.size)
  go_wp2_with fail
  ((with_reducible refine (C16.out _).mono ?_); rintro e x4 ⟨rfl, g4⟩)
  replace g4 := g3.trans (g4.mono g3.size)
  go_wp2_with fail
  ((with_reducible refine (C17.out _).mono ?_); rintro e x5 ⟨rfl, g5⟩)
  replace g5 := g4.trans (g5.mono g4.size)
  go_wp2_with fail
  ((with_reducible refine (C18.out _).mono ?_); rintro e x6 ⟨rfl, g6⟩)
  replace g6 := g5.trans (g6.mono g5.size)
  go_wp2_with fail
  ((with_reducible refine (C19.out _).mono ?_); rintro e x7 ⟨rfl, g7⟩)
  replace g7 := g6.trans (g7.mono g6.size)
  go_wp2_with fail
  ((with_reducible refine (C20.out _).mono ?_); rintro e x8 ⟨rfl, g8⟩)
  replace g8 := g7.trans (g8.mono g7.size)
  go_wp2_with fail
  ((with_reducible refine (C21.out _).mono ?_); rintro e x9 ⟨rfl, g9⟩)
  replace g9 := g8.trans (g9.mono g8.size)
  go_wp2_with fail
  ((with_reducible refine (C22.out _).mono ?_); rintro e x10 ⟨rfl, g10⟩)
  replace g10 := g9.trans (g10.mono g9.size)
  go_wp2_with fail
  ((with_reducible refine (C2.out _).mono ?_); rintro e x11 ⟨rfl, g11⟩)
  replace g11 := g10.trans (g11.mono g10.size)
  go_wp2_with fail
  ((with_reducible refine (C9.out _).mono ?_); rintro e x12 ⟨rfl, g12⟩)
  replace g12 := g11.trans (g12.mono g11.size)
  go_wp2_with fail
  ((with_reducible refine (CI.out _).mono ?_); rintro e x0 ⟨rfl, rfl⟩)
  go_wp2_with fail
  ((with_reducible refine (alive_any _ (tab_below HT.out g12)).mono ?_); rintro e x ⟨rfl, g⟩)
  replace g := g12.trans (g.mono g12.size)
  go_wp2
  go_ret
  exact ⟨rfl, g⟩

set_option maxRecDepth 100000 in
set_option maxHeartbeats 3200000 in
theorem asks_lh_1 (a b : Nat) (w : World) (ha : a < 65536) (hb : b < 65536) (ht : Tab w) (h1 : a < 32768) (h2 : 32768 ≤ b) (h3 : sg a - sg b ≤ 32767) :
    Calls Tryd.prog 5 #[.int .u16 a, .int .u16 b] w fun e w' => e = .returned (.bool true) ∧ Below w.heap.size w w' := by
  have hsa : sg a = (a : Int) := by unfold sg; rw [if_pos (by omega)]
  have hsb : sg b = (b : Int) - 65536 := by unfold sg; rw [if_neg (by omega)]
  have C13 := Lib.hid fun w' => ld13 a b 0 true w' ha hb (is0 (by simp; omega)) (is_ok _)
  have C14 := Lib.hid fun w' => ld14 a b 1 true w' ha hb (is1 (by simp; omega)) (is_ok _)
  have C15 := Lib.hid fun w' => ld15 a b 0 true w' ha hb (is0 (by simp; omega)) (is_ok _)
  have C16 := Lib.hid fun w' => ld16 a b 0 true w' ha hb (is0 (by simp; omega)) (is_ok _)
  have C17 := Lib.hid fun w' => ld17 a b 1 true w' ha hb (is1 (by simp; omega)) (is_ok _)
  have C18 := Lib.hid fun w' => ld18 a b 1 true w' ha hb (is1 (by simp; omega)) (is_ok _)
  have C19 := Lib.hid fun w' => ld19 a b 1 true w' ha hb (is1 (by simp; omega)) (is_ok _)
  have C20 := Lib.hid fun w' => ld20 a b 1 true w' ha hb (is1 (by simp; omega)) (is_ok _)
  have C21 := Lib.hid fun w' => ld21 a b 0 true w' ha hb (is0 (by simp; omega)) (is_ok _)
  have C22 := Lib.hid fun w' => ld22 a b 0 true w' ha hb (is0 (by simp; omega)) (is_ok _)
  have hD : (sg a - sg b) % 65536 < 65536 := Int.emod_lt_of_pos _ (by omega)
  have hD0 : 0 ≤ (sg a - sg b) % 65536 := Int.emod_nonneg _ (by omega)
  have hsub := signed_in (sg a - sg b) (by omega) (by omega)
  have C2 := Lib.hid fun w' => ld2 a b ((sg a - sg b) % 65536).toNat true w' ha hb (by show (signedP (sg a - sg b)).1 = _; rw [hsub]) (by show okP (signedP (sg a - sg b)) = _; rw [hsub]; rfl)
  have ci := fun w' => int_any ((sg a - sg b) % 65536).toNat w' (by omega)
  rw [sg_of (sg a - sg b) (by omega) (by omega)] at ci
  have CI := Lib.hid ci
  have hx : decide (sg a - sg b < 0) = false := by simp; omega
  clear ci hsub hD hD0
  generalize ((sg a - sg b) % 65536).toNat = D at *
  generalize sg a - sg b = x at *
  have hc := bare_out ((a : Int) - b) (by omega)
  have C9 := Lib.hid fun w' => ld9 a b 0 false w' ha hb (by show (bareP _).1 = _; rw [hc]) (by show okP (bareP _) = _; rw [hc]; rfl)
  clear hc
  have HT := Lib.hid ht
  have q1 : ((a : Int) == (b : Int)) = false := by simp; omega
  have q2 : decide ((32768 : Int) ≤ (a : Int)) = false := by simp; omega
  have q3 : decide ((32768 : Int) ≤ (b : Int)) = true := by simp; omega
  clear hsa hsb ht h2 h3 h1
  go_enter Tryd.func5, Tryd.ntmps5
  go_wp2_with fail
  ((with_reducible refine (C13.out _).mono ?_); rintro e x1 ⟨rfl, g1⟩)
  go_wp2_with fail
  ((with_reducible refine (C14.out _).mono ?_); rintro e x2 ⟨rfl, g2⟩)
  replace g2 := g1.trans (g2.mono g1.size)
  go_wp2_with fail
  ((with_reducible refine (C15.out _).mono ?_); rintro e x3 ⟨rfl, g3⟩)
  replace g3 := g2.trans (g3.mono g2.size)
  go_wp2_with fail
  ((with_reducible refine (C16.out _).mono ?_); rintro e x4 ⟨rfl, g4⟩)
  replace g4 := g3.trans (g4.mono g3.size)
  go_wp2_with fail
  ((with_reducible refine (C17.out _).mono ?_); rintro e x5 ⟨rfl, g5⟩)
  replace g5 := g4.trans (g5.mono g4.size)
  go_wp2_with fail
  ((with_reducible refine (C18.out _).mono ?_); rintro e x6 ⟨rfl, g6⟩)
  replace g6 := g5.trans (g6.mono g5.size)
  go_wp2_with fail
  ((with_reducible refine (C19.out _).mono ?_); rintro e x7 ⟨rfl, g7⟩)
  replace g7 := g6.trans (g7.mono g6.size)
  go_wp2_with fail
  ((with_reducible refine (C20.out _).mono ?_); rintro e x8 ⟨rfl, g8⟩)
  replace g8 := g7.trans (g8.mono g7.size)
  go_wp2_with fail
  ((with_reducible refine (C21.out _).mono ?_); rintro e x9 ⟨rfl, g9⟩)
  replace g9 := g8.trans (g9.mono g8.size)
  go_wp2_with fail
  ((with_reducible refine (C22.out _).mono ?_); rintro e x10 ⟨rfl, g10⟩)
  replace g10 := g9.trans (g10.mono g9.size)
  go_wp2_with fail
  ((with_reducible refine (C2.out _).mono ?_); rintro e x11 ⟨rfl, g11⟩)
  replace g11 := g10.trans (g11.mono g10.size)
  go_wp2_with fail
  ((with_reducible refine (C9.out _).mono ?_); rintro e x12 ⟨rfl, g12⟩)
  replace g12 := g11.trans (g12.mono g11.size)
  go_wp2_with fail
  ((with_reducible refine (CI.out _).mono ?_); rintro e x0 ⟨rfl, rfl⟩)
  go_wp2_with fail
  ((with_reducible refine (alive_any _ (tab_below HT.out g12)).mono ?_); rintro e x ⟨rfl, g⟩)
  replace g := g12.trans (g.mono g12.size)
  go_wp2
  go_ret
  exact ⟨rfl, g⟩

set_option maxRecDepth 100000 in
set_option maxHeartbeats 3200000 in
theorem asks_lh_0 (a b : Nat) (w : World) (ha : a < 65536) (hb : b < 65536) (ht : Tab w) (h1 : a < 32768) (h2 : 32768 ≤ b) (h3 : 32767 < sg a - sg b) :
    Calls Tryd.prog 5 #[.int .u16 a, .int .u16 b] w fun e w' => e = .returned (.bool true) ∧ Below w.heap.size w w' := by
  have hsa : sg a = (a : Int) := by unfold sg; rw [if_pos (by omega)]
  have hsb : sg b = (b : Int) - 65536 := by unfold sg; rw [if_neg (by omega)]
  have C13 := Lib.hid fun w' => ld13 a b 0 true w' ha hb (is0 (by simp; omega)) (is_ok _)
  have C14 := Lib.hid fun w' => ld14 a b 1 true w' ha hb (is1 (by simp; omega)) (is_ok _)
  have C15 := Lib.hid fun w' => ld15 a b 0 true w' ha hb (is0 (by simp; omega)) (is_ok _)
  have C16 := Lib.hid fun w' => ld16 a b 0 true w' ha hb (is0 (by simp; omega)) (is_ok _)
  have C17 := Lib.hid fun w' => ld17 a b 1 true w' ha hb (is1 (by simp; omega)) (is_ok _)
  have C18 := Lib.hid fun w' => ld18 a b 1 true w' ha hb (is1 (by simp; omega)) (is_ok _)
  have C19 := Lib.hid fun w' => ld19 a b 1 true w' ha hb (is1 (by simp; omega)) (is_ok _)
  have C20 := Lib.hid fun w' => ld20 a b 1 true w' ha hb (is1 (by simp; omega)) (is_ok _)
  have C21 := Lib.hid fun w' => ld21 a b 0 true w' ha hb (is0 (by simp; omega)) (is_ok _)
  have C22 := Lib.hid fun w' => ld22 a b 0 true w' ha hb (is0 (by simp; omega)) (is_ok _)
  have hsub := signed_out (sg a - sg b) (by omega)
  have C2 := Lib.hid fun w' => ld2 a b 0 false w' ha hb (by show (signedP (sg a - sg b)).1 = _; rw [hsub]) (by show okP (signedP (sg a - sg b)) = _; rw [hsub]; rfl)
  clear hsub
  have hc := bare_out ((a : Int) - b) (by omega)
  have C9 := Lib.hid fun w' => ld9 a b 0 false w' ha hb (by show (bareP _).1 = _; rw [hc]) (by show okP (bareP _) = _; rw [hc]; rfl)
  clear hc
  have HT := Lib.hid ht
  have q1 : ((a : Int) == (b : Int)) = false := by simp; omega
  have q2 : decide ((32768 : Int) ≤ (a : Int)) = false := by simp; omega
  have q3 : decide ((32768 : Int) ≤ (b : Int)) = true := by simp; omega
  clear hsa hsb ht h2 h3 h1
  go_enter Tryd.func5, Tryd.ntmps5
  go_wp2_with fail
  ((with_reducible refine (C13.out _).mono ?_); rintro e x1 ⟨rfl, g1⟩)
  go_wp2_with fail
  ((with_reducible refine (C14.out _).mono ?_); rintro e x2 ⟨rfl, g2⟩)
  replace g2 := g1.trans (g2.mono g1.size)
  go_wp2_with fail
  ((with_reducible refine (C15.out _).mono ?_); rintro e x3 ⟨rfl, g3⟩)
  replace g3 := g2.trans (g3.mono g2.size)
  go_wp2_with fail
  ((with_reducible refine (C16.out _).mono ?_); rintro e x4 ⟨rfl, g4⟩)
  replace g4 := g3.trans (g4.mono g3.size)
  go_wp2_with fail
  ((with_reducible refine (C17.out _).mono ?_); rintro e x5 ⟨rfl, g5⟩)
  replace g5 := g4.trans (g5.mono g4.size)
  go_wp2_with fail
  ((with_reducible refine (C18.out _).mono ?_); rintro e x6 ⟨rfl, g6⟩)
  replace g6 := g5.trans (g6.mono g5.size)
  go_wp2_with fail
  ((with_reducible refine (C19.out _).mono ?_); rintro e x7 ⟨rfl, g7⟩)
  replace g7 := g6.trans (g7.mono g6.size)
  go_wp2_with fail
  ((with_reducible refine (C20.out _).mono ?_); rintro e x8 ⟨rfl, g8⟩)
  replace g8 := g7.trans (g8.mono g7.size)
  go_wp2_with fail
  ((with_reducible refine (C21.out _).mono ?_); rintro e x9 ⟨rfl, g9⟩)
  replace g9 := g8.trans (g9.mono g8.size)
  go_wp2_with fail
  ((with_reducible refine (C22.out _).mono ?_); rintro e x10 ⟨rfl, g10⟩)
  replace g10 := g9.trans (g10.mono g9.size)
  go_wp2_with fail
  ((with_reducible refine (C2.out _).mono ?_); rintro e x11 ⟨rfl, g11⟩)
  replace g11 := g10.trans (g11.mono g10.size)
  go_wp2_with fail
  ((with_reducible refine (C9.out _).mono ?_); rintro e x12 ⟨rfl, g12⟩)
  replace g12 := g11.trans (g12.mono g11.size)
  go_wp2_with fail
  ((with_reducible refine (alive_any _ (tab_below HT.out g12)).mono ?_); rintro e x ⟨rfl, g⟩)
  replace g := g12.trans (g.mono g12.size)
  go_wp2
  go_ret
  exact ⟨rfl, g⟩

set_option maxRecDepth 100000 in
set_option maxHeartbeats 3200000 in
theorem asks_ll_g (a b : Nat) (w : World) (ha : a < 65536) (hb : b < 65536) (ht : Tab w) (h1 : b < a) (h2 : a < 32768) :
    Calls Tryd.prog 5 #[.int .u16 a, .int .u16 b] w fun e w' => e = .returned (.bool true) ∧ Below w.heap.size w w' := by
  have hsa : sg a = (a : Int) := by unfold sg; rw [if_pos (by omega)]
  have hsb : sg b = (b : Int) := by unfold sg; rw [if_pos (by omega)]
  have C13 := Lib.hid fun w' => ld13 a b 0 true w' ha hb (is0 (by simp; omega)) (is_ok _)
  have C14 := Lib.hid fun w' => ld14 a b 1 true w' ha hb (is1 (by simp; omega)) (is_ok _)
  have C15 := Lib.hid fun w' => ld15 a b 0 true w' ha hb (is0 (by simp; omega)) (is_ok _)
  have C16 := Lib.hid fun w' => ld16 a b 0 true w' ha hb (is0 (by simp; omega)) (is_ok _)
  have C17 := Lib.hid fun w' => ld17 a b 1 true w' ha hb (is1 (by simp; omega)) (is_ok _)
  have C18 := Lib.hid fun w' => ld18 a b 1 true w' ha hb (is1 (by simp; omega)) (is_ok _)
  have C19 := Lib.hid fun w' => ld19 a b 0 true w' ha hb (is0 (by simp; omega)) (is_ok _)
  have C20 := Lib.hid fun w' => ld20 a b 0 true w' ha hb (is0 (by simp; omega)) (is_ok _)
  have C21 := Lib.hid fun w' => ld21 a b 1 true w' ha hb (is1 (by simp; omega)) (is_ok _)
  have C22 := Lib.hid fun w' => ld22 a b 1 true w' ha hb (is1 (by simp; omega)) (is_ok _)
  have hD : (sg a - sg b) % 65536 < 65536 := Int.emod_lt_of_pos _ (by omega)
  have hD0 : 0 ≤ (sg a - sg b) % 65536 := Int.emod_nonneg _ (by omega)
  have hsub := signed_in (sg a - sg b) (by omega) (by omega)
  have C2 := Lib.hid fun w' => ld2 a b ((sg a - sg b) % 65536).toNat true w' ha hb (by show (signedP (sg a - sg b)).1 = _; rw [hsub]) (by show okP (signedP (sg a - sg b)) = _; rw [hsub]; rfl)
  have ci := fun w' => int_any ((sg a - sg b) % 65536).toNat w' (by omega)
  rw [sg_of (sg a - sg b) (by omega) (by omega)] at ci
  have CI := Lib.hid ci
  have hx : decide (sg a - sg b < 0) = false := by simp; omega
  clear ci hsub hD hD0
  generalize ((sg a - sg b) % 65536).toNat = D at *
  generalize sg a - sg b = x at *
  have hc := bare_in ((a : Int) - b) (by omega) (by omega)
  have C9 := Lib.hid fun w' => ld9 a b ((a : Int) - b).toNat true w' ha hb (by show (bareP _).1 = _; rw [hc]) (by show okP (bareP _) = _; rw [hc]; rfl)
  clear hc
  generalize ((a : Int) - b).toNat = E at *
  have HT := Lib.hid ht
  have q1 : ((a : Int) == (b : Int)) = false := by simp; omega
  have q2 : decide ((32768 : Int) ≤ (a : Int)) = false := by simp; omega
  have q3 : decide ((32768 : Int) ≤ (b : Int)) = false := by simp; omega
  clear hsa hsb ht h2 h1
  go_enter Tryd.func5, Tryd.ntmps5
  go_wp2_with fail
  ((with_reducible refine (C13.out _).mono ?_); rintro e x1 ⟨rfl, g1⟩)
  go_wp2_with fail
  ((with_reducible refine (C14.out _).mono ?_); rintro e x2 ⟨rfl, g2⟩)
  replace g2 := g1.trans (g2.mono g1.size)
  go_wp2_with fail
  ((with_reducible refine (C15.out _).mono ?_); rintro e x3 ⟨rfl, g3⟩)
  replace g3 := g2.trans (g3.mono g2.size)
  go_wp2_with fail
  ((with_reducible refine (C16.out _).mono ?_); rintro e x4 ⟨rfl, g4⟩)
  replace g4 := g3.trans (g4.mono g3.size)
  go_wp2_with fail
  ((with_reducible refine (C17.out _).mono ?_); rintro e x5 ⟨rfl, g5⟩)
  replace g5 := g4.trans (g5.mono g4.size)
  go_wp2_with fail
  ((with_reducible refine (C18.out _).mono ?_); rintro e x6 ⟨rfl, g6⟩)
  replace g6 := g5.trans (g6.mono g5.size)
  go_wp2_with fail
  ((with_reducible refine (C19.out _).mono ?_); rintro e x7 ⟨rfl, g7⟩)
  replace g7 := g6.trans (g7.mono g6.size)
  go_wp2_with fail
  ((with_reducible refine (C20.out _).mono ?_); rintro e x8 ⟨rfl, g8⟩)
  replace g8 := g7.trans (g8.mono g7.size)
  go_wp2_with fail
  ((with_reducible refine (C21.out _).mono ?_); rintro e x9 ⟨rfl, g9⟩)
  replace g9 := g8.trans (g9.mono g8.size)
  go_wp2_with fail
  ((with_reducible refine (C22.out _).mono ?_); rintro e x10 ⟨rfl, g10⟩)
  replace g10 := g9.trans (g10.mono g9.size)
  go_wp2_with fail
  ((with_reducible refine (C2.out _).mono ?_); rintro e x11 ⟨rfl, g11⟩)
  replace g11 := g10.trans (g11.mono g10.size)
  go_wp2_with fail
  ((with_reducible refine (C9.out _).mono ?_); rintro e x12 ⟨rfl, g12⟩)
  replace g12 := g11.trans (g12.mono g11.size)
  go_wp2_with fail
  ((with_reducible refine (CI.out _).mono ?_); rintro e x0 ⟨rfl, rfl⟩)
  go_wp2_with fail
  ((with_reducible refine (alive_any _ (tab_below HT.out g12)).mono ?_); rintro e x ⟨rfl, g⟩)
  replace g := g12.trans (g.mono g12.size)
  go_wp2
  go_ret
  exact ⟨rfl, g⟩

set_option maxRecDepth 100000 in
set_option maxHeartbeats 3200000 in
theorem asks_hh_g (a b : Nat) (w : World) (ha : a < 65536) (hb : b < 65536) (ht : Tab w) (h1 : b < a) (h2 : 32768 ≤ b) :
    Calls Tryd.prog 5 #[.int .u16 a, .int .u16 b] w fun e w' => e = .returned (.bool true) ∧ Below w.heap.size w w' := by
  have hsa : sg a = (a : Int) - 65536 := by unfold sg; rw [if_neg (by omega)]
  have hsb : sg b = (b : Int) - 65536 := by unfold sg; rw [if_neg (by omega)]
  have C13 := Lib.hid fun w' => ld13 a b 0 true w' ha hb (is0 (by simp; omega)) (is_ok _)
  have C14 := Lib.hid fun w' => ld14 a b 1 true w' ha hb (is1 (by simp; omega)) (is_ok _)
  have C15 := Lib.hid fun w' => ld15 a b 0 true w' ha hb (is0 (by simp; omega)) (is_ok _)
  have C16 := Lib.hid fun w' => ld16 a b 0 true w' ha hb (is0 (by simp; omega)) (is_ok _)
  have C17 := Lib.hid fun w' => ld17 a b 1 true w' ha hb (is1 (by simp; omega)) (is_ok _)
  have C18 := Lib.hid fun w' => ld18 a b 1 true w' ha hb (is1 (by simp; omega)) (is_ok _)
  have C19 := Lib.hid fun w' => ld19 a b 0 true w' ha hb (is0 (by simp; omega)) (is_ok _)
  have C20 := Lib.hid fun w' => ld20 a b 0 true w' ha hb (is0 (by simp; omega)) (is_ok _)
  have C21 := Lib.hid fun w' => ld21 a b 1 true w' ha hb (is1 (by simp; omega)) (is_ok _)
  have C22 := Lib.hid fun w' => ld22 a b 1 true w' ha hb (is1 (by simp; omega)) (is_ok _)
  have hD : (sg a - sg b) % 65536 < 65536 := Int.emod_lt_of_pos _ (by omega)
  have hD0 : 0 ≤ (sg a - sg b) % 65536 := Int.emod_nonneg _ (by omega)
  have hsub := signed_in (sg a - sg b) (by omega) (by omega)
  have C2 := Lib.hid fun w' => ld2 a b ((sg a - sg b) % 65536).toNat true w' ha hb (by show (signedP (sg a - sg b)).1 = _; rw [hsub]) (by show okP (signedP (sg a - sg b)) = _; rw [hsub]; rfl)
  have ci := fun w' => int_any ((sg a - sg b) % 65536).toNat w' (by omega)
  rw [sg_of (sg a - sg b) (by omega) (by omega)] at ci
  have CI := Lib.hid ci
  have hx : decide (sg a - sg b < 0) = false := by simp; omega
  clear ci hsub hD hD0
  generalize ((sg a - sg b) % 65536).toNat = D at *
  generalize sg a - sg b = x at *
  have hc := bare_in ((a : Int) - b) (by omega) (by omega)
  have C9 := Lib.hid fun w' => ld9 a b ((a : Int) - b).toNat true w' ha hb (by show (bareP _).1 = _; rw [hc]) (by show okP (bareP _) = _; rw [hc]; rfl)
  clear hc
  generalize ((a : Int) - b).toNat = E at *
  have HT := Lib.hid ht
  have q1 : ((a : Int) == (b : Int)) = false := by simp; omega
  have q2 : decide ((32768 : Int) ≤ (a : Int)) = true := by simp; omega
  have q3 : decide ((32768 : Int) ≤ (b : Int)) = true := by simp; omega
  clear hsa hsb ht h2 h1
  go_enter Tryd.func5, Tryd.ntmps5
  go_wp2_with fail
  ((with_reducible refine (C13.out _).mono ?_); rintro e x1 ⟨rfl, g1⟩)
  go_wp2_with fail
  ((with_reducible refine (C14.out _).mono ?_); rintro e x2 ⟨rfl, g2⟩)
  replace g2 := g1.trans (g2.mono g1.size)
  go_wp2_with fail
  ((with_reducible refine (C15.out _).mono ?_); rintro e x3 ⟨rfl, g3⟩)
  replace g3 := g2.trans (g3.mono g2.size)
  go_wp2_with fail
  ((with_reducible refine (C16.out _).mono ?_); rintro e x4 ⟨rfl, g4⟩)
  replace g4 := g3.trans (g4.mono g3.size)
  go_wp2_with fail
  ((with_reducible refine (C17.out _).mono ?_); rintro e x5 ⟨rfl, g5⟩)
  replace g5 := g4.trans (g5.mono g4.size)
  go_wp2_with fail
  ((with_reducible refine (C18.out _).mono ?_); rintro e x6 ⟨rfl, g6⟩)
  replace g6 := g5.trans (g6.mono g5.size)
  go_wp2_with fail
  ((with_reducible refine (C19.out _).mono ?_); rintro e x7 ⟨rfl, g7⟩)
  replace g7 := g6.trans (g7.mono g6.size)
  go_wp2_with fail
  ((with_reducible refine (C20.out _).mono ?_); rintro e x8 ⟨rfl, g8⟩)
  replace g8 := g7.trans (g8.mono g7.size)
  go_wp2_with fail
  ((with_reducible refine (C21.out _).mono ?_); rintro e x9 ⟨rfl, g9⟩)
  replace g9 := g8.trans (g9.mono g8.size)
  go_wp2_with fail
  ((with_reducible refine (C22.out _).mono ?_); rintro e x10 ⟨rfl, g10⟩)
  replace g10 := g9.trans (g10.mono g9.size)
  go_wp2_with fail
  ((with_reducible refine (C2.out _).mono ?_); rintro e x11 ⟨rfl, g11⟩)
  replace g11 := g10.trans (g11.mono g10.size)
  go_wp2_with fail
  ((with_reducible refine (C9.out _).mono ?_); rintro e x12 ⟨rfl, g12⟩)
  replace g12 := g11.trans (g12.mono g11.size)
  go_wp2_with fail
  ((with_reducible refine (CI.out _).mono ?_); rintro e x0 ⟨rfl, rfl⟩)
  go_wp2_with fail
  ((with_reducible refine (alive_any _ (tab_below HT.out g12)).mono ?_); rintro e x ⟨rfl, g⟩)
  replace g := g12.trans (g.mono g12.size)
  go_wp2
  go_ret
  exact ⟨rfl, g⟩

set_option maxRecDepth 100000 in
set_option maxHeartbeats 3200000 in
theorem asks_hl_1 (a b : Nat) (w : World) (ha : a < 65536) (hb : b < 65536) (ht : Tab w) (h1 : 32768 ≤ a) (h2 : b < 32768) (h3 : -32768 ≤ sg a - sg b) :
    Calls Tryd.prog 5 #[.int .u16 a, .int .u16 b] w fun e w' => e = .returned (.bool true) ∧ Below w.heap.size w w' := by
  have hsa : sg a = (a : Int) - 65536 := by unfold sg; rw [if_neg (by omega)]
  have hsb : sg b = (b : Int) := by unfold sg; rw [if_pos (by omega)]
  have C13 := Lib.hid fun w' => ld13 a b 0 true w' ha hb (is0 (by simp; omega)) (is_ok _)
  have C14 := Lib.hid fun w' => ld14 a b 1 true w' ha hb (is1 (by simp; omega)) (is_ok _)
  have C15 := Lib.hid fun w' => ld15 a b 1 true w' ha hb (is1 (by simp; omega)) (is_ok _)
  have C16 := Lib.hid fun w' => ld16 a b 1 true w' ha hb (is1 (by simp; omega)) (is_ok _)
  have C17 := Lib.hid fun w' => ld17 a b 0 true w' ha hb (is0 (by simp; omega)) (is_ok _)
  have C18 := Lib.hid fun w' => ld18 a b 0 true w' ha hb (is0 (by simp; omega)) (is_ok _)
  have C19 := Lib.hid fun w' => ld19 a b 0 true w' ha hb (is0 (by simp; omega)) (is_ok _)
  have C20 := Lib.hid fun w' => ld20 a b 0 true w' ha hb (is0 (by simp; omega)) (is_ok _)
  have C21 := Lib.hid fun w' => ld21 a b 1 true w' ha hb (is1 (by simp; omega)) (is_ok _)
  have C22 := Lib.hid fun w' => ld22 a b 1 true w' ha hb (is1 (by simp; omega)) (is_ok _)
  have hD : (sg a - sg b) % 65536 < 65536 := Int.emod_lt_of_pos _ (by omega)
  have hD0 : 0 ≤ (sg a - sg b) % 65536 := Int.emod_nonneg _ (by omega)
  have hsub := signed_in (sg a - sg b) (by omega) (by omega)
  have C2 := Lib.hid fun w' => ld2 a b ((sg a - sg b) % 65536).toNat true w' ha hb (by show (signedP (sg a - sg b)).1 = _; rw [hsub]) (by show okP (signedP (sg a - sg b)) = _; rw [hsub]; rfl)
  have ci := fun w' => int_any ((sg a - sg b) % 65536).toNat w' (by omega)
  rw [sg_of (sg a - sg b) (by omega) (by omega)] at ci
  have CI := Lib.hid ci
  have hx : decide (sg a - sg b < 0) = true := by simp; omega
  clear ci hsub hD hD0
  generalize ((sg a - sg b) % 65536).toNat = D at *
  generalize sg a - sg b = x at *
  have hc := bare_in ((a : Int) - b) (by omega) (by omega)
  have C9 := Lib.hid fun w' => ld9 a b ((a : Int) - b).toNat true w' ha hb (by show (bareP _).1 = _; rw [hc]) (by show okP (bareP _) = _; rw [hc]; rfl)
  clear hc
  generalize ((a : Int) - b).toNat = E at *
  have HT := Lib.hid ht
  have q1 : ((a : Int) == (b : Int)) = false := by simp; omega
  have q2 : decide ((32768 : Int) ≤ (a : Int)) = true := by simp; omega
  have q3 : decide ((32768 : Int) ≤ (b : Int)) = false := by simp; omega
  clear hsa hsb ht h2 h3 h1
  go_enter Tryd.func5, Tryd.ntmps5
  go_wp2_with fail
  ((with_reducible refine (C13.out _).mono ?_); rintro e x1 ⟨rfl, g1⟩)
  go_wp2_with fail
  ((with_reducible refine (C14.out _).mono ?_); rintro e x2 ⟨rfl, g2⟩)
  replace g2 := g1.trans (g2.mono g1.size)
  go_wp2_with fail
  ((with_reducible refine (C15.out _).mono ?_); rintro e x3 ⟨rfl, g3⟩)
  replace g3 := g2.trans (g3.mono g2.size)
  go_wp2_with fail
  ((with_reducible refine (C16.out _).mono ?_); rintro e x4 ⟨rfl, g4⟩)
  replace g4 := g3.trans (g4.mono g3.size)
  go_wp2_with fail
  ((with_reducible refine (C17.out _).mono ?_); rintro e x5 ⟨rfl, g5⟩)
  replace g5 := g4.trans (g5.mono g4.size)
  go_wp2_with fail
  ((with_reducible refine (C18.out _).mono ?_); rintro e x6 ⟨rfl, g6⟩)
  replace g6 := g5.trans (g6.mono g5.size)
  go_wp2_with fail
  ((with_reducible refine (C19.out _).mono ?_); rintro e x7 ⟨rfl, g7⟩)
  replace g7 := g6.trans (g7.mono g6.size)
  go_wp2_with fail
  ((with_reducible refine (C20.out _).mono ?_); rintro e x8 ⟨rfl, g8⟩)
  replace g8 := g7.trans (g8.mono g7.size)
  go_wp2_with fail
  ((with_reducible refine (C21.out _).mono ?_); rintro e x9 ⟨rfl, g9⟩)
  replace g9 := g8.trans (g9.mono g8.size)
  go_wp2_with fail
  ((with_reducible refine (C22.out _).mono ?_); rintro e x10 ⟨rfl, g10⟩)
  replace g10 := g9.trans (g10.mono g9.size)
  go_wp2_with fail
  ((with_reducible refine (C2.out _).mono ?_); rintro e x11 ⟨rfl, g11⟩)
  replace g11 := g10.trans (g11.mono g10.size)
  go_wp2_with fail
  ((with_reducible refine (C9.out _).mono ?_); rintro e x12 ⟨rfl, g12⟩)
  replace g12 := g11.trans (g12.mono g11.size)
  go_wp2_with fail
  ((with_reducible refine (CI.out _).mono ?_); rintro e x0 ⟨rfl, rfl⟩)
  go_wp2_with fail
  ((with_reducible refine (alive_any _ (tab_below HT.out g12)).mono ?_); rintro e x ⟨rfl, g⟩)
  replace g := g12.trans (g.mono g12.size)
  go_wp2
  go_ret
  exact ⟨rfl, g⟩

set_option maxRecDepth 100000 in
set_option maxHeartbeats 3200000 in
theorem asks_hl_0 (a b : Nat) (w : World) (ha : a < 65536) (hb : b < 65536) (ht : Tab w) (h1 : 32768 ≤ a) (h2 : b < 32768) (h3 : sg a - sg b < -32768) :
    Calls Tryd.prog 5 #[.int .u16 a, .int .u16 b] w fun e w' => e = .returned (.bool true) ∧ Below w.heap.size w w' := by
  have hsa : sg a = (a : Int) - 65536 := by unfold sg; rw [if_neg (by omega)]
  have hsb : sg b = (b : Int) := by unfold sg; rw [if_pos (by omega)]
  have C13 := Lib.hid fun w' => ld13 a b 0 true w' ha hb (is0 (by simp; omega)) (is_ok _)
  have C14 := Lib.hid fun w' => ld14 a b 1 true w' ha hb (is1 (by simp; omega)) (is_ok _)
  have C15 := Lib.hid fun w' => ld15 a b 1 true w' ha hb (is1 (by simp; omega)) (is_ok _)
  have C16 := Lib.hid fun w' => ld16 a b 1 true w' ha hb (is1 (by simp; omega)) (is_ok _)
  have C17 := Lib.hid fun w' => ld17 a b 0 true w' ha hb (is0 (by simp; omega)) (is_ok _)
  have C18 := Lib.hid fun w' => ld18 a b 0 true w' ha hb (is0 (by simp; omega)) (is_ok _)
  have C19 := Lib.hid fun w' => ld19 a b 0 true w' ha hb (is0 (by simp; omega)) (is_ok _)
  have C20 := Lib.hid fun w' => ld20 a b 0 true w' ha hb (is0 (by simp; omega)) (is_ok _)
  have C21 := Lib.hid fun w' => ld21 a b 1 true w' ha hb (is1 (by simp; omega)) (is_ok _)
  have C22 := Lib.hid fun w' => ld22 a b 1 true w' ha hb (is1 (by simp; omega)) (is_ok _)
  have hsub := signed_out (sg a - sg b) (by omega)
  have C2 := Lib.hid fun w' => ld2 a b 0 false w' ha hb (by show (signedP (sg a - sg b)).1 = _; rw [hsub]) (by show okP (signedP (sg a - sg b)) = _; rw [hsub]; rfl)
  clear hsub
  have hc := bare_in ((a : Int) - b) (by omega) (by omega)
  have C9 := Lib.hid fun w' => ld9 a b ((a : Int) - b).toNat true w' ha hb (by show (bareP _).1 = _; rw [hc]) (by show okP (bareP _) = _; rw [hc]; rfl)
  clear hc
  generalize ((a : Int) - b).toNat = E at *
  have HT := Lib.hid ht
  have q1 : ((a : Int) == (b : Int)) = false := by simp; omega
  have q2 : decide ((32768 : Int) ≤ (a : Int)) = true := by simp; omega
  have q3 : decide ((32768 : Int) ≤ (b : Int)) = false := by simp; omega
  clear hsa hsb ht h2 h3 h1
  go_enter Tryd.func5, Tryd.ntmps5
  go_wp2_with fail
  ((with_reducible refine (C13.out _).mono ?_); rintro e x1 ⟨rfl, g1⟩)
  go_wp2_with fail
  ((with_reducible refine (C14.out _).mono ?_); rintro e x2 ⟨rfl, g2⟩)
  replace g2 := g1.trans (g2.mono g1.size)
  go_wp2_with fail
  ((with_reducible refine (C15.out _).mono ?_); rintro e x3 ⟨rfl, g3⟩)
  replace g3 := g2.trans (g3.mono g2.size)
  go_wp2_with fail
  ((with_reducible refine (C16.out _).mono ?_); rintro e x4 ⟨rfl, g4⟩)
  replace g4 := g3.trans (g4.mono g3.size)
  go_wp2_with fail
  ((with_reducible refine (C17.out _).mono ?_); rintro e x5 ⟨rfl, g5⟩)
  replace g5 := g4.trans (g5.mono g4.size)
  go_wp2_with fail
  ((with_reducible refine (C18.out _).mono ?_); rintro e x6 ⟨rfl, g6⟩)
  replace g6 := g5.trans (g6.mono g5.size)
  go_wp2_with fail
  ((with_reducible refine (C19.out _).mono ?_); rintro e x7 ⟨rfl, g7⟩)
  replace g7 := g6.trans (g7.mono g6.size)
  go_wp2_with fail
  ((with_reducible refine (C20.out _).mono ?_); rintro e x8 ⟨rfl, g8⟩)
  replace g8 := g7.trans (g8.mono g7.size)
  go_wp2_with fail
  ((with_reducible refine (C21.out _).mono ?_); rintro e x9 ⟨rfl, g9⟩)
  replace g9 := g8.trans (g9.mono g8.size)
  go_wp2_with fail
  ((with_reducible refine (C22.out _).mono ?_); rintro e x10 ⟨rfl, g10⟩)
  replace g10 := g9.trans (g10.mono g9.size)
  go_wp2_with fail
  ((with_reducible refine (C2.out _).mono ?_); rintro e x11 ⟨rfl, g11⟩)
  replace g11 := g10.trans (g11.mono g10.size)
  go_wp2_with fail
  ((with_reducible refine (C9.out _).mono ?_); rintro e x12 ⟨rfl, g12⟩)
  replace g12 := g11.trans (g12.mono g11.size)
  go_wp2_with fail
  ((with_reducible refine (alive_any _ (tab_below HT.out g12)).mono ?_); rintro e x ⟨rfl, g⟩)
  replace g := g12.trans (g.mono g12.size)
  go_wp2
  go_ret
  exact ⟨rfl, g⟩

theorem asks_law (a0 a1 : Int) (w : World) (ht : Tab w) (w0 : (Lit.int .u16 a0).wf = true) (w1 : (Lit.int .u16 a1).wf = true) :
    Calls Tryd.prog 5 #[.int .u16 a0, .int .u16 a1] w fun e w' => e = .returned (.bool true) ∧ Below w.heap.size w w' := by
  obtain ⟨a, ha, rfl⟩ := wf16 w0
  obtain ⟨b, hb, rfl⟩ := wf16 w1
  by_cases l1 : a < 32768 <;> by_cases l2 : b < 32768
  · rcases Nat.lt_trichotomy a b with h | h | h
    · exact asks_ll_l a b w ha hb ht h l2
    · exact asks_ll_e a b w ha hb ht h l1
    · exact asks_ll_g a b w ha hb ht h l1
  · by_cases h : sg a - sg b ≤ 32767
    · exact asks_lh_1 a b w ha hb ht l1 (by omega) h
    · exact asks_lh_0 a b w ha hb ht l1 (by omega) (by omega)
  · by_cases h : -32768 ≤ sg a - sg b
    · exact asks_hl_1 a b w ha hb ht (by omega) l2 h
    · exact asks_hl_0 a b w ha hb ht (by omega) l2 (by omega)
  · rcases Nat.lt_trichotomy a b with h | h | h
    · exact asks_hh_l a b w ha hb ht h (by omega)
    · exact asks_hh_e a b w ha hb ht h (by omega)
    · exact asks_hh_g a b w ha hb ht h (by omega)

end Go.Proofs.YtdodbbedlgglcaaDoor.Wd
