/- The walk of the law WordRules: two rounds, one with a sign and one without. -/
import Derived.Test.YtdodbbedlgglcaaDoorL1
set_option linter.unusedSimpArgs false
set_option linter.unusedVariables false
namespace Go.Proofs.YtdodbbedlgglcaaDoor.Wd
open Go.RowKit
open WPlain

theorem opP_lt (op a b : Nat) (h : op = 1 ∨ op = 3 ∨ op = 8 ∨ op = 10) : (opP op a b).1 < 65536 := by
  rcases h with rfl | rfl | rfl | rfl
  · exact signedP_lt _
  · exact signedP_lt _
  · exact bareP_lt _
  · exact bareP_lt _
set_option maxRecDepth 100000 in
set_option maxHeartbeats 12800000 in
theorem rules_walk (a b : Nat) (w : World) (ha : a < 65536) (hb : b < 65536) (ht : Tab w) :
    Calls Tryd.prog 4 #[.int .u16 a, .int .u16 b] w fun e w' => e = .returned (.bool true) ∧ Below w.heap.size w w' := by
  have HT := Lib.hid ht
  clear ht
  go_enter Tryd.func4, Tryd.ntmps4
  go_wp2
  go_loopw [5] (fun k wr => ∃ n : Nat, n ≤ 2 ∧ k = .int .u8 n ∧ Below w.heap.size w wr) (fun k _ => 2 - (intOf k).toNat)
  case atStart => exact ⟨0, by omega, rfl, Below.refl _ _⟩
  case round =>
    obtain ⟨n, hn, rfl, g0⟩ := hrel
    have hcase : n = 0 ∨ n = 1 ∨ n = 2 := by omega
    clear hn
    rcases hcase with rfl | rfl | rfl
    · cases hz : okP (opP 1 a b)
      · by_cases hb0 : b = 0
        · have C1 := Lib.hid fun w' => ld1 a b _ _ w' ha hb rfl hz
          have C2 := Lib.hid fun w' => ld1 b a _ _ w' hb ha (congrArg Prod.fst (s_add a b)) ((congrArg okP (s_add a b)).trans hz)
          have C3 := Lib.hid fun w' => ld3 a b _ _ w' ha hb rfl rfl
          have C4 := Lib.hid fun w' => ld3 b a _ _ w' hb ha (congrArg Prod.fst (s_mul a b)) (congrArg okP (s_mul a b))
          have C6 := Lib.hid fun w' => ld4 a b 0 false w' ha hb (by rw [hb0]; exact congrArg Prod.fst (s_div0 a)) (by rw [hb0]; exact congrArg okP (s_div0 a))
          have C7 := Lib.hid fun w' => ld5 a b 0 false w' ha hb (by rw [hb0]; exact congrArg Prod.fst (s_mod0 a)) (by rw [hb0]; exact congrArg okP (s_mod0 a))
          generalize (opP 1 a b).1 = S at *
          clear hz
          generalize okP (opP 3 a b) = zp at *
          generalize (opP 3 a b).1 = P at *
          have n3 : ((b : Int) == 0) = true := by simp [hb0]
          clear hb0
          go_wp2_with fail
          ((with_reducible refine (C1.out _).mono ?_); rintro e x1 ⟨rfl, g1⟩)
          replace g1 := g0.trans (g1.mono g0.size)
          go_wp2_with fail
          ((with_reducible refine (C2.out _).mono ?_); rintro e x2 ⟨rfl, g2⟩)
          replace g2 := g1.trans (g2.mono g1.size)
          go_wp2_with fail
          ((with_reducible refine (C3.out _).mono ?_); rintro e x3 ⟨rfl, g3⟩)
          replace g3 := g2.trans (g3.mono g2.size)
          go_wp2_with fail
          ((with_reducible refine (C4.out _).mono ?_); rintro e x4 ⟨rfl, g4⟩)
          replace g4 := g3.trans (g4.mono g3.size)
          go_wp2_with fail
          ((with_reducible refine (C6.out _).mono ?_); rintro e x5 ⟨rfl, g5⟩)
          replace g5 := g4.trans (g5.mono g4.size)
          go_wp2_with fail
          ((with_reducible refine (C7.out _).mono ?_); rintro e x6 ⟨rfl, g6⟩)
          replace g6 := g5.trans (g6.mono g5.size)
          go_wp2
          go_roundw
          case rel => exact ⟨1, by omega, by first | rfl | go_num, g6⟩
          case measure => simp [intOf]
        · obtain ⟨y, hy, hyl, hys, hyb⟩ := s_left a b ha hb hb0
          have C7 := Lib.hid fun w' => ld5 a b y true w' ha hb (congrArg Prod.fst hy) (congrArg okP hy)
          have I1 := Lib.hid fun w' => int_any y w' hyl
          have I2 := Lib.hid fun w' => int_any b w' hb
          cases hx : okP (opP 4 a b)
          · obtain ⟨ea, eb⟩ := s_over a b ha hb hb0 hx
            have C1 := Lib.hid fun w' => ld1 a b _ _ w' ha hb rfl hz
            have C2 := Lib.hid fun w' => ld1 b a _ _ w' hb ha (congrArg Prod.fst (s_add a b)) ((congrArg okP (s_add a b)).trans hz)
            have C3 := Lib.hid fun w' => ld3 a b _ _ w' ha hb rfl rfl
            have C4 := Lib.hid fun w' => ld3 b a _ _ w' hb ha (congrArg Prod.fst (s_mul a b)) (congrArg okP (s_mul a b))
            have C6 := Lib.hid fun w' => ld4 a b _ false w' ha hb rfl hx
            obtain ⟨Y0, Y1⟩ := sg_bd y hyl
            obtain ⟨B0, B1⟩ := sg_bd b hb
            have hmx : decide (max (sg b) (-(sg b)) ≤ max (sg y) (-(sg y))) = false := by rw [hys]; simp only [decide_eq_false_iff_not]; omega
            generalize (opP 1 a b).1 = S at *
            clear hz
            generalize okP (opP 3 a b) = zp at *
            generalize (opP 3 a b).1 = P at *
            clear hx
            generalize (opP 4 a b).1 = X at *
            clear hys hyb hy
            have n1 : ((a : Int) != 32768) = false := by subst ea; rfl
            have n2 : ((b : Int) != 65535) = false := by subst eb; rfl
            have n3 : ((b : Int) == 0) = false := by subst eb; rfl
            clear ea eb hb0
            generalize sg y = Y at *
            generalize sg b = B at *
            go_wp2_with fail
            ((with_reducible refine (C1.out _).mono ?_); rintro e x1 ⟨rfl, g1⟩)
            replace g1 := g0.trans (g1.mono g0.size)
            go_wp2_with fail
            ((with_reducible refine (C2.out _).mono ?_); rintro e x2 ⟨rfl, g2⟩)
            replace g2 := g1.trans (g2.mono g1.size)
            go_wp2_with fail
            ((with_reducible refine (C3.out _).mono ?_); rintro e x3 ⟨rfl, g3⟩)
            replace g3 := g2.trans (g3.mono g2.size)
            go_wp2_with fail
            ((with_reducible refine (C4.out _).mono ?_); rintro e x4 ⟨rfl, g4⟩)
            replace g4 := g3.trans (g4.mono g3.size)
            go_wp2_with fail
            ((with_reducible refine (C6.out _).mono ?_); rintro e x5 ⟨rfl, g5⟩)
            replace g5 := g4.trans (g5.mono g4.size)
            go_wp2_with fail
            ((with_reducible refine (C7.out _).mono ?_); rintro e x6 ⟨rfl, g6⟩)
            replace g6 := g5.trans (g6.mono g5.size)
            go_wp2_with fail
            ((with_reducible refine (I1.out _).mono ?_); rintro e y ⟨rfl, rfl⟩)
            go_wp2_with fail
            ((with_reducible refine (I2.out _).mono ?_); rintro e y ⟨rfl, rfl⟩)
            go_wp2
            go_roundw
            case rel => exact ⟨1, by omega, by first | rfl | go_num, g6⟩
            case measure => simp [intOf]
          · obtain ⟨x, m, h4, hxl, h3, hml, h1⟩ := s_back a b y ha hb hb0 hys hx
            have C1 := Lib.hid fun w' => ld1 a b _ _ w' ha hb rfl hz
            have C2 := Lib.hid fun w' => ld1 b a _ _ w' hb ha (congrArg Prod.fst (s_add a b)) ((congrArg okP (s_add a b)).trans hz)
            have C3 := Lib.hid fun w' => ld3 a b _ _ w' ha hb rfl rfl
            have C4 := Lib.hid fun w' => ld3 b a _ _ w' hb ha (congrArg Prod.fst (s_mul a b)) (congrArg okP (s_mul a b))
            have C6 := Lib.hid fun w' => ld4 a b x true w' ha hb (congrArg Prod.fst h4) hx
            have C8 := Lib.hid fun w' => ld3 x b m true w' hxl hb (congrArg Prod.fst h3) (congrArg okP h3)
            have C9 := Lib.hid fun w' => ld1 m y a true w' hml hyl (congrArg Prod.fst h1) (congrArg okP h1)
            obtain ⟨Y0, Y1⟩ := sg_bd y hyl
            obtain ⟨B0, B1⟩ := sg_bd b hb
            have hmx : decide (max (sg b) (-(sg b)) ≤ max (sg y) (-(sg y))) = false := by rw [hys]; simp only [decide_eq_false_iff_not]; omega
            have n3 : ((b : Int) == 0) = false := by simp; omega
            generalize (opP 1 a b).1 = S at *
            clear hz
            generalize okP (opP 3 a b) = zp at *
            generalize (opP 3 a b).1 = P at *
            clear hys hyb hy h4 h3 h1 hx hb0
            generalize sg y = Y at *
            generalize sg b = B at *
            go_wp2_with fail
            ((with_reducible refine (C1.out _).mono ?_); rintro e x1 ⟨rfl, g1⟩)
            replace g1 := g0.trans (g1.mono g0.size)
            go_wp2_with fail
            ((with_reducible refine (C2.out _).mono ?_); rintro e x2 ⟨rfl, g2⟩)
            replace g2 := g1.trans (g2.mono g1.size)
            go_wp2_with fail
            ((with_reducible refine (C3.out _).mono ?_); rintro e x3 ⟨rfl, g3⟩)
            replace g3 := g2.trans (g3.mono g2.size)
            go_wp2_with fail
            ((with_reducible refine (C4.out _).mono ?_); rintro e x4 ⟨rfl, g4⟩)
            replace g4 := g3.trans (g4.mono g3.size)
            go_wp2_with fail
            ((with_reducible refine (C6.out _).mono ?_); rintro e x5 ⟨rfl, g5⟩)
            replace g5 := g4.trans (g5.mono g4.size)
            go_wp2_with fail
            ((with_reducible refine (C7.out _).mono ?_); rintro e x6 ⟨rfl, g6⟩)
            replace g6 := g5.trans (g6.mono g5.size)
            go_wp2_with fail
            ((with_reducible refine (C8.out _).mono ?_); rintro e x7 ⟨rfl, g7⟩)
            replace g7 := g6.trans (g7.mono g6.size)
            go_wp2_with fail
            ((with_reducible refine (C9.out _).mono ?_); rintro e x8 ⟨rfl, g8⟩)
            replace g8 := g7.trans (g8.mono g7.size)
            go_wp2_with fail
            ((with_reducible refine (I1.out _).mono ?_); rintro e y ⟨rfl, rfl⟩)
            go_wp2_with fail
            ((with_reducible refine (I2.out _).mono ?_); rintro e y ⟨rfl, rfl⟩)
            go_wp2
            go_roundw
            case rel => exact ⟨1, by omega, by first | rfl | go_num, g8⟩
            case measure => simp [intOf]
      · by_cases hb0 : b = 0
        · have C1 := Lib.hid fun w' => ld1 a b _ _ w' ha hb rfl hz
          have C2 := Lib.hid fun w' => ld1 b a _ _ w' hb ha (congrArg Prod.fst (s_add a b)) ((congrArg okP (s_add a b)).trans hz)
          have C3 := Lib.hid fun w' => ld3 a b _ _ w' ha hb rfl rfl
          have C4 := Lib.hid fun w' => ld3 b a _ _ w' hb ha (congrArg Prod.fst (s_mul a b)) (congrArg okP (s_mul a b))
          have C5 := Lib.hid fun w' => ld2 (opP 1 a b).1 b a true w' (opP_lt _ _ _ (by omega)) hb (congrArg Prod.fst (s_sub a b ha hz)) (congrArg okP (s_sub a b ha hz))
          have C6 := Lib.hid fun w' => ld4 a b 0 false w' ha hb (by rw [hb0]; exact congrArg Prod.fst (s_div0 a)) (by rw [hb0]; exact congrArg okP (s_div0 a))
          have C7 := Lib.hid fun w' => ld5 a b 0 false w' ha hb (by rw [hb0]; exact congrArg Prod.fst (s_mod0 a)) (by rw [hb0]; exact congrArg okP (s_mod0 a))
          generalize (opP 1 a b).1 = S at *
          clear hz
          generalize okP (opP 3 a b) = zp at *
          generalize (opP 3 a b).1 = P at *
          have n3 : ((b : Int) == 0) = true := by simp [hb0]
          clear hb0
          go_wp2_with fail
          ((with_reducible refine (C1.out _).mono ?_); rintro e x1 ⟨rfl, g1⟩)
          replace g1 := g0.trans (g1.mono g0.size)
          go_wp2_with fail
          ((with_reducible refine (C2.out _).mono ?_); rintro e x2 ⟨rfl, g2⟩)
          replace g2 := g1.trans (g2.mono g1.size)
          go_wp2_with fail
          ((with_reducible refine (C3.out _).mono ?_); rintro e x3 ⟨rfl, g3⟩)
          replace g3 := g2.trans (g3.mono g2.size)
          go_wp2_with fail
          ((with_reducible refine (C4.out _).mono ?_); rintro e x4 ⟨rfl, g4⟩)
          replace g4 := g3.trans (g4.mono g3.size)
          go_wp2_with fail
          ((with_reducible refine (C5.out _).mono ?_); rintro e x5 ⟨rfl, g5⟩)
          replace g5 := g4.trans (g5.mono g4.size)
          go_wp2_with fail
          ((with_reducible refine (C6.out _).mono ?_); rintro e x6 ⟨rfl, g6⟩)
          replace g6 := g5.trans (g6.mono g5.size)
          go_wp2_with fail
          ((with_reducible refine (C7.out _).mono ?_); rintro e x7 ⟨rfl, g7⟩)
          replace g7 := g6.trans (g7.mono g6.size)
          go_wp2
          go_roundw
          case rel => exact ⟨1, by omega, by first | rfl | go_num, g7⟩
          case measure => simp [intOf]
        · obtain ⟨y, hy, hyl, hys, hyb⟩ := s_left a b ha hb hb0
          have C7 := Lib.hid fun w' => ld5 a b y true w' ha hb (congrArg Prod.fst hy) (congrArg okP hy)
          have I1 := Lib.hid fun w' => int_any y w' hyl
          have I2 := Lib.hid fun w' => int_any b w' hb
          cases hx : okP (opP 4 a b)
          · obtain ⟨ea, eb⟩ := s_over a b ha hb hb0 hx
            have C1 := Lib.hid fun w' => ld1 a b _ _ w' ha hb rfl hz
            have C2 := Lib.hid fun w' => ld1 b a _ _ w' hb ha (congrArg Prod.fst (s_add a b)) ((congrArg okP (s_add a b)).trans hz)
            have C3 := Lib.hid fun w' => ld3 a b _ _ w' ha hb rfl rfl
            have C4 := Lib.hid fun w' => ld3 b a _ _ w' hb ha (congrArg Prod.fst (s_mul a b)) (congrArg okP (s_mul a b))
            have C5 := Lib.hid fun w' => ld2 (opP 1 a b).1 b a true w' (opP_lt _ _ _ (by omega)) hb (congrArg Prod.fst (s_sub a b ha hz)) (congrArg okP (s_sub a b ha hz))
            have C6 := Lib.hid fun w' => ld4 a b _ false w' ha hb rfl hx
            obtain ⟨Y0, Y1⟩ := sg_bd y hyl
            obtain ⟨B0, B1⟩ := sg_bd b hb
            have hmx : decide (max (sg b) (-(sg b)) ≤ max (sg y) (-(sg y))) = false := by rw [hys]; simp only [decide_eq_false_iff_not]; omega
            generalize (opP 1 a b).1 = S at *
            clear hz
            generalize okP (opP 3 a b) = zp at *
            generalize (opP 3 a b).1 = P at *
            clear hx
            generalize (opP 4 a b).1 = X at *
            clear hys hyb hy
            have n1 : ((a : Int) != 32768) = false := by subst ea; rfl
            have n2 : ((b : Int) != 65535) = false := by subst eb; rfl
            have n3 : ((b : Int) == 0) = false := by subst eb; rfl
            clear ea eb hb0
            generalize sg y = Y at *
            generalize sg b = B at *
            go_wp2_with fail
            ((with_reducible refine (C1.out _).mono ?_); rintro e x1 ⟨rfl, g1⟩)
            replace g1 := g0.trans (g1.mono g0.size)
            go_wp2_with fail
            ((with_reducible refine (C2.out _).mono ?_); rintro e x2 ⟨rfl, g2⟩)
            replace g2 := g1.trans (g2.mono g1.size)
            go_wp2_with fail
            ((with_reducible refine (C3.out _).mono ?_); rintro e x3 ⟨rfl, g3⟩)
            replace g3 := g2.trans (g3.mono g2.size)
            go_wp2_with fail
            ((with_reducible refine (C4.out _).mono ?_); rintro e x4 ⟨rfl, g4⟩)
            replace g4 := g3.trans (g4.mono g3.size)
            go_wp2_with fail
            ((with_reducible refine (C5.out _).mono ?_); rintro e x5 ⟨rfl, g5⟩)
            replace g5 := g4.trans (g5.mono g4.size)
            go_wp2_with fail
            ((with_reducible refine (C6.out _).mono ?_); rintro e x6 ⟨rfl, g6⟩)
            replace g6 := g5.trans (g6.mono g5.size)
            go_wp2_with fail
            ((with_reducible refine (C7.out _).mono ?_); rintro e x7 ⟨rfl, g7⟩)
            replace g7 := g6.trans (g7.mono g6.size)
            go_wp2_with fail
            ((with_reducible refine (I1.out _).mono ?_); rintro e y ⟨rfl, rfl⟩)
            go_wp2_with fail
            ((with_reducible refine (I2.out _).mono ?_); rintro e y ⟨rfl, rfl⟩)
            go_wp2
            go_roundw
            case rel => exact ⟨1, by omega, by first | rfl | go_num, g7⟩
            case measure => simp [intOf]
          · obtain ⟨x, m, h4, hxl, h3, hml, h1⟩ := s_back a b y ha hb hb0 hys hx
            have C1 := Lib.hid fun w' => ld1 a b _ _ w' ha hb rfl hz
            have C2 := Lib.hid fun w' => ld1 b a _ _ w' hb ha (congrArg Prod.fst (s_add a b)) ((congrArg okP (s_add a b)).trans hz)
            have C3 := Lib.hid fun w' => ld3 a b _ _ w' ha hb rfl rfl
            have C4 := Lib.hid fun w' => ld3 b a _ _ w' hb ha (congrArg Prod.fst (s_mul a b)) (congrArg okP (s_mul a b))
            have C5 := Lib.hid fun w' => ld2 (opP 1 a b).1 b a true w' (opP_lt _ _ _ (by omega)) hb (congrArg Prod.fst (s_sub a b ha hz)) (congrArg okP (s_sub a b ha hz))
            have C6 := Lib.hid fun w' => ld4 a b x true w' ha hb (congrArg Prod.fst h4) hx
            have C8 := Lib.hid fun w' => ld3 x b m true w' hxl hb (congrArg Prod.fst h3) (congrArg okP h3)
            have C9 := Lib.hid fun w' => ld1 m y a true w' hml hyl (congrArg Prod.fst h1) (congrArg okP h1)
            obtain ⟨Y0, Y1⟩ := sg_bd y hyl
            obtain ⟨B0, B1⟩ := sg_bd b hb
            have hmx : decide (max (sg b) (-(sg b)) ≤ max (sg y) (-(sg y))) = false := by rw [hys]; simp only [decide_eq_false_iff_not]; omega
            have n3 : ((b : Int) == 0) = false := by simp; omega
            generalize (opP 1 a b).1 = S at *
            clear hz
            generalize okP (opP 3 a b) = zp at *
            generalize (opP 3 a b).1 = P at *
            clear hys hyb hy h4 h3 h1 hx hb0
            generalize sg y = Y at *
            generalize sg b = B at *
            go_wp2_with fail
            ((with_reducible refine (C1.out _).mono ?_); rintro e x1 ⟨rfl, g1⟩)
            replace g1 := g0.trans (g1.mono g0.size)
            go_wp2_with fail
            ((with_reducible refine (C2.out _).mono ?_); rintro e x2 ⟨rfl, g2⟩)
            replace g2 := g1.trans (g2.mono g1.size)
            go_wp2_with fail
            ((with_reducible refine (C3.out _).mono ?_); rintro e x3 ⟨rfl, g3⟩)
            replace g3 := g2.trans (g3.mono g2.size)
            go_wp2_with fail
            ((with_reducible refine (C4.out _).mono ?_); rintro e x4 ⟨rfl, g4⟩)
            replace g4 := g3.trans (g4.mono g3.size)
            go_wp2_with fail
            ((with_reducible refine (C5.out _).mono ?_); rintro e x5 ⟨rfl, g5⟩)
            replace g5 := g4.trans (g5.mono g4.size)
            go_wp2_with fail
            ((with_reducible refine (C6.out _).mono ?_); rintro e x6 ⟨rfl, g6⟩)
            replace g6 := g5.trans (g6.mono g5.size)
            go_wp2_with fail
            ((with_reducible refine (C7.out _).mono ?_); rintro e x7 ⟨rfl, g7⟩)
            replace g7 := g6.trans (g7.mono g6.size)
            go_wp2_with fail
            ((with_reducible refine (C8.out _).mono ?_); rintro e x8 ⟨rfl, g8⟩)
            replace g8 := g7.trans (g8.mono g7.size)
            go_wp2_with fail
            ((with_reducible refine (C9.out _).mono ?_); rintro e x9 ⟨rfl, g9⟩)
            replace g9 := g8.trans (g9.mono g8.size)
            go_wp2_with fail
            ((with_reducible refine (I1.out _).mono ?_); rintro e y ⟨rfl, rfl⟩)
            go_wp2_with fail
            ((with_reducible refine (I2.out _).mono ?_); rintro e y ⟨rfl, rfl⟩)
            go_wp2
            go_roundw
            case rel => exact ⟨1, by omega, by first | rfl | go_num, g9⟩
            case measure => simp [intOf]
    · cases hz : okP (opP 8 a b)
      · by_cases hb0 : b = 0
        · have C1 := Lib.hid fun w' => ld8 a b _ _ w' ha hb rfl hz
          have C2 := Lib.hid fun w' => ld8 b a _ _ w' hb ha (congrArg Prod.fst (u_add a b)) ((congrArg okP (u_add a b)).trans hz)
          have C3 := Lib.hid fun w' => ld10 a b _ _ w' ha hb rfl rfl
          have C4 := Lib.hid fun w' => ld10 b a _ _ w' hb ha (congrArg Prod.fst (u_mul a b)) (congrArg okP (u_mul a b))
          have C6 := Lib.hid fun w' => ld11 a b 0 false w' ha hb (by rw [hb0]; exact congrArg Prod.fst (u_div0 a)) (by rw [hb0]; exact congrArg okP (u_div0 a))
          have C7 := Lib.hid fun w' => ld12 a b 0 false w' ha hb (by rw [hb0]; exact congrArg Prod.fst (u_mod0 a)) (by rw [hb0]; exact congrArg okP (u_mod0 a))
          generalize (opP 8 a b).1 = S at *
          clear hz
          generalize okP (opP 10 a b) = zp at *
          generalize (opP 10 a b).1 = P at *
          have n3 : ((b : Int) == 0) = true := by simp [hb0]
          clear hb0
          go_wp2_with fail
          ((with_reducible refine (C1.out _).mono ?_); rintro e x1 ⟨rfl, g1⟩)
          replace g1 := g0.trans (g1.mono g0.size)
          go_wp2_with fail
          ((with_reducible refine (C2.out _).mono ?_); rintro e x2 ⟨rfl, g2⟩)
          replace g2 := g1.trans (g2.mono g1.size)
          go_wp2_with fail
          ((with_reducible refine (C3.out _).mono ?_); rintro e x3 ⟨rfl, g3⟩)
          replace g3 := g2.trans (g3.mono g2.size)
          go_wp2_with fail
          ((with_reducible refine (C4.out _).mono ?_); rintro e x4 ⟨rfl, g4⟩)
          replace g4 := g3.trans (g4.mono g3.size)
          go_wp2_with fail
          ((with_reducible refine (C6.out _).mono ?_); rintro e x5 ⟨rfl, g5⟩)
          replace g5 := g4.trans (g5.mono g4.size)
          go_wp2_with fail
          ((with_reducible refine (C7.out _).mono ?_); rintro e x6 ⟨rfl, g6⟩)
          replace g6 := g5.trans (g6.mono g5.size)
          go_wp2
          go_roundw
          case rel => exact ⟨2, by omega, by first | rfl | go_num, g6⟩
          case measure => simp [intOf]
        · obtain ⟨x, m, y, h4, hxl, h5, hyb, h3, hml, h1⟩ := u_back a b ha hb hb0
          have C1 := Lib.hid fun w' => ld8 a b _ _ w' ha hb rfl hz
          have C2 := Lib.hid fun w' => ld8 b a _ _ w' hb ha (congrArg Prod.fst (u_add a b)) ((congrArg okP (u_add a b)).trans hz)
          have C3 := Lib.hid fun w' => ld10 a b _ _ w' ha hb rfl rfl
          have C4 := Lib.hid fun w' => ld10 b a _ _ w' hb ha (congrArg Prod.fst (u_mul a b)) (congrArg okP (u_mul a b))
          have C6 := Lib.hid fun w' => ld11 a b x true w' ha hb (congrArg Prod.fst h4) (congrArg okP h4)
          have C7 := Lib.hid fun w' => ld12 a b y true w' ha hb (congrArg Prod.fst h5) (congrArg okP h5)
          have C8 := Lib.hid fun w' => ld10 x b m true w' hxl hb (congrArg Prod.fst h3) (congrArg okP h3)
          have C9 := Lib.hid fun w' => ld8 m y a true w' hml (by omega) (congrArg Prod.fst h1) (congrArg okP h1)
          have hmx : decide (max (b : Int) (-(b : Int)) ≤ max (y : Int) (-(y : Int))) = false := by simp only [decide_eq_false_iff_not]; omega
          have n3 : ((b : Int) == 0) = false := by simp; omega
          generalize (opP 8 a b).1 = S at *
          clear hz
          generalize okP (opP 10 a b) = zp at *
          generalize (opP 10 a b).1 = P at *
          have yl : y < 65536 := by omega
          clear h4 h5 h3 h1 hb0 hyb
          go_wp2_with fail
          ((with_reducible refine (C1.out _).mono ?_); rintro e x1 ⟨rfl, g1⟩)
          replace g1 := g0.trans (g1.mono g0.size)
          go_wp2_with fail
          ((with_reducible refine (C2.out _).mono ?_); rintro e x2 ⟨rfl, g2⟩)
          replace g2 := g1.trans (g2.mono g1.size)
          go_wp2_with fail
          ((with_reducible refine (C3.out _).mono ?_); rintro e x3 ⟨rfl, g3⟩)
          replace g3 := g2.trans (g3.mono g2.size)
          go_wp2_with fail
          ((with_reducible refine (C4.out _).mono ?_); rintro e x4 ⟨rfl, g4⟩)
          replace g4 := g3.trans (g4.mono g3.size)
          go_wp2_with fail
          ((with_reducible refine (C6.out _).mono ?_); rintro e x5 ⟨rfl, g5⟩)
          replace g5 := g4.trans (g5.mono g4.size)
          go_wp2_with fail
          ((with_reducible refine (C7.out _).mono ?_); rintro e x6 ⟨rfl, g6⟩)
          replace g6 := g5.trans (g6.mono g5.size)
          go_wp2_with fail
          ((with_reducible refine (C8.out _).mono ?_); rintro e x7 ⟨rfl, g7⟩)
          replace g7 := g6.trans (g7.mono g6.size)
          go_wp2_with fail
          ((with_reducible refine (C9.out _).mono ?_); rintro e x8 ⟨rfl, g8⟩)
          replace g8 := g7.trans (g8.mono g7.size)
          go_wp2
          go_roundw
          case rel => exact ⟨2, by omega, by first | rfl | go_num, g8⟩
          case measure => simp [intOf]
      · by_cases hb0 : b = 0
        · have C1 := Lib.hid fun w' => ld8 a b _ _ w' ha hb rfl hz
          have C2 := Lib.hid fun w' => ld8 b a _ _ w' hb ha (congrArg Prod.fst (u_add a b)) ((congrArg okP (u_add a b)).trans hz)
          have C3 := Lib.hid fun w' => ld10 a b _ _ w' ha hb rfl rfl
          have C4 := Lib.hid fun w' => ld10 b a _ _ w' hb ha (congrArg Prod.fst (u_mul a b)) (congrArg okP (u_mul a b))
          have C5 := Lib.hid fun w' => ld9 (opP 8 a b).1 b a true w' (opP_lt _ _ _ (by omega)) hb (congrArg Prod.fst (u_sub a b ha hz)) (congrArg okP (u_sub a b ha hz))
          have C6 := Lib.hid fun w' => ld11 a b 0 false w' ha hb (by rw [hb0]; exact congrArg Prod.fst (u_div0 a)) (by rw [hb0]; exact congrArg okP (u_div0 a))
          have C7 := Lib.hid fun w' => ld12 a b 0 false w' ha hb (by rw [hb0]; exact congrArg Prod.fst (u_mod0 a)) (by rw [hb0]; exact congrArg okP (u_mod0 a))
          generalize (opP 8 a b).1 = S at *
          clear hz
          generalize okP (opP 10 a b) = zp at *
          generalize (opP 10 a b).1 = P at *
          have n3 : ((b : Int) == 0) = true := by simp [hb0]
          clear hb0
          go_wp2_with fail
          ((with_reducible refine (C1.out _).mono ?_); rintro e x1 ⟨rfl, g1⟩)
          replace g1 := g0.trans (g1.mono g0.size)
          go_wp2_with fail
          ((with_reducible refine (C2.out _).mono ?_); rintro e x2 ⟨rfl, g2⟩)
          replace g2 := g1.trans (g2.mono g1.size)
          go_wp2_with fail
          ((with_reducible refine (C3.out _).mono ?_); rintro e x3 ⟨rfl, g3⟩)
          replace g3 := g2.trans (g3.mono g2.size)
          go_wp2_with fail
          ((with_reducible refine (C4.out _).mono ?_); rintro e x4 ⟨rfl, g4⟩)
          replace g4 := g3.trans (g4.mono g3.size)
          go_wp2_with fail
          ((with_reducible refine (C5.out _).mono ?_); rintro e x5 ⟨rfl, g5⟩)
          replace g5 := g4.trans (g5.mono g4.size)
          go_wp2_with fail
          ((with_reducible refine (C6.out _).mono ?_); rintro e x6 ⟨rfl, g6⟩)
          replace g6 := g5.trans (g6.mono g5.size)
          go_wp2_with fail
          ((with_reducible refine (C7.out _).mono ?_); rintro e x7 ⟨rfl, g7⟩)
          replace g7 := g6.trans (g7.mono g6.size)
          go_wp2
          go_roundw
          case rel => exact ⟨2, by omega, by first | rfl | go_num, g7⟩
          case measure => simp [intOf]
        · obtain ⟨x, m, y, h4, hxl, h5, hyb, h3, hml, h1⟩ := u_back a b ha hb hb0
          have C1 := Lib.hid fun w' => ld8 a b _ _ w' ha hb rfl hz
          have C2 := Lib.hid fun w' => ld8 b a _ _ w' hb ha (congrArg Prod.fst (u_add a b)) ((congrArg okP (u_add a b)).trans hz)
          have C3 := Lib.hid fun w' => ld10 a b _ _ w' ha hb rfl rfl
          have C4 := Lib.hid fun w' => ld10 b a _ _ w' hb ha (congrArg Prod.fst (u_mul a b)) (congrArg okP (u_mul a b))
          have C5 := Lib.hid fun w' => ld9 (opP 8 a b).1 b a true w' (opP_lt _ _ _ (by omega)) hb (congrArg Prod.fst (u_sub a b ha hz)) (congrArg okP (u_sub a b ha hz))
          have C6 := Lib.hid fun w' => ld11 a b x true w' ha hb (congrArg Prod.fst h4) (congrArg okP h4)
          have C7 := Lib.hid fun w' => ld12 a b y true w' ha hb (congrArg Prod.fst h5) (congrArg okP h5)
          have C8 := Lib.hid fun w' => ld10 x b m true w' hxl hb (congrArg Prod.fst h3) (congrArg okP h3)
          have C9 := Lib.hid fun w' => ld8 m y a true w' hml (by omega) (congrArg Prod.fst h1) (congrArg okP h1)
          have hmx : decide (max (b : Int) (-(b : Int)) ≤ max (y : Int) (-(y : Int))) = false := by simp only [decide_eq_false_iff_not]; omega
          have n3 : ((b : Int) == 0) = false := by simp; omega
          generalize (opP 8 a b).1 = S at *
          clear hz
          generalize okP (opP 10 a b) = zp at *
          generalize (opP 10 a b).1 = P at *
          have yl : y < 65536 := by omega
          clear h4 h5 h3 h1 hb0 hyb
          go_wp2_with fail
          ((with_reducible refine (C1.out _).mono ?_); rintro e x1 ⟨rfl, g1⟩)
          replace g1 := g0.trans (g1.mono g0.size)
          go_wp2_with fail
          ((with_reducible refine (C2.out _).mono ?_); rintro e x2 ⟨rfl, g2⟩)
          replace g2 := g1.trans (g2.mono g1.size)
          go_wp2_with fail
          ((with_reducible refine (C3.out _).mono ?_); rintro e x3 ⟨rfl, g3⟩)
          replace g3 := g2.trans (g3.mono g2.size)
          go_wp2_with fail
          ((with_reducible refine (C4.out _).mono ?_); rintro e x4 ⟨rfl, g4⟩)
          replace g4 := g3.trans (g4.mono g3.size)
          go_wp2_with fail
          ((with_reducible refine (C5.out _).mono ?_); rintro e x5 ⟨rfl, g5⟩)
          replace g5 := g4.trans (g5.mono g4.size)
          go_wp2_with fail
          ((with_reducible refine (C6.out _).mono ?_); rintro e x6 ⟨rfl, g6⟩)
          replace g6 := g5.trans (g6.mono g5.size)
          go_wp2_with fail
          ((with_reducible refine (C7.out _).mono ?_); rintro e x7 ⟨rfl, g7⟩)
          replace g7 := g6.trans (g7.mono g6.size)
          go_wp2_with fail
          ((with_reducible refine (C8.out _).mono ?_); rintro e x8 ⟨rfl, g8⟩)
          replace g8 := g7.trans (g8.mono g7.size)
          go_wp2_with fail
          ((with_reducible refine (C9.out _).mono ?_); rintro e x9 ⟨rfl, g9⟩)
          replace g9 := g8.trans (g9.mono g8.size)
          go_wp2
          go_roundw
          case rel => exact ⟨2, by omega, by first | rfl | go_num, g9⟩
          case measure => simp [intOf]
    · go_wp2_with fail
      ((with_reducible refine (alive_any _ (tab_below HT.out g0)).mono ?_); rintro e x ⟨rfl, g⟩)
      replace g := g0.trans (g.mono g0.size)
      go_wp2
      go_ret
      exact ⟨rfl, g⟩

theorem rules_law (a0 a1 : Int) (w : World) (ht : Tab w) (w0 : (Lit.int .u16 a0).wf = true) (w1 : (Lit.int .u16 a1).wf = true) :
    Calls Tryd.prog 4 #[.int .u16 a0, .int .u16 a1] w fun e w' => e = .returned (.bool true) ∧ Below w.heap.size w w' := by
  obtain ⟨a, ha, rfl⟩ := wf16 w0
  obtain ⟨b, hb, rfl⟩ := wf16 w1
  exact rules_walk a b w ha hb ht

end Go.Proofs.YtdodbbedlgglcaaDoor.Wd
