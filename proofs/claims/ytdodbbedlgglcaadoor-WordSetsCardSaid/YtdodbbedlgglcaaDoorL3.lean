/- The walks of the laws WordSets and WordRules. -/
import Derived.Test.YtdodbbedlgglcaaDoorL1
set_option linter.unusedSimpArgs false
set_option linter.unusedVariables false
namespace Go.Proofs.YtdodbbedlgglcaaDoor.Wd
open Go.RowKit
open WPlain

theorem less_lt {a b : Nat} (ha : a < 65536) : a &&& (65535 - b) < 65536 := Nat.lt_of_le_of_lt Nat.and_le_left ha
theorem and_lt {a b : Nat} (ha : a < 65536) : a &&& b < 65536 := Nat.lt_of_le_of_lt Nat.and_le_left ha
theorem xor_lt {a b : Nat} (ha : a < 65536) (hb : b < 65536) : a ^^^ b < 65536 := Nat.xor_lt_two_pow (n := 16) ha hb
theorem sets_e1 (a b : Nat) (ha : a < 65536) (hb : b < 65536) : (a ^^^ b) ||| (a &&& b) = a ||| b :=
  Nat.eq_of_testBit_eq fun k => by simp only [Nat.testBit_or, Nat.testBit_and, Nat.testBit_xor]; cases a.testBit k <;> cases b.testBit k <;> rfl
theorem sets_e2 (a b : Nat) (ha : a < 65536) (hb : b < 65536) : (a &&& (65535 - b)) ||| (a &&& b) = a :=
  eq_of_bits (or_lt (less_lt ha) (and_lt ha)) ha fun k hk => by simp only [Nat.testBit_or, Nat.testBit_and, not_bit b k hb hk]; cases a.testBit k <;> cases b.testBit k <;> rfl
theorem sets_e3 (a b : Nat) (ha : a < 65536) (hb : b < 65536) : (a &&& (65535 - b)) &&& b = 0 :=
  eq_of_bits (and_lt (less_lt ha)) (by omega) fun k hk => by simp only [Nat.testBit_and, not_bit b k hb hk, Nat.zero_testBit]; cases a.testBit k <;> cases b.testBit k <;> rfl
/-- Nothing of a is outside b just if what is in both is a. -/
theorem sets_part (a b : Nat) (ha : a < 65536) (hb : b < 65536) : ((a &&& (65535 - b)) == 0) = ((a &&& b) == a) := by
  have h := sets_e2 a b ha hb
  have h3 := sets_e3 a b ha hb
  rw [Bool.eq_iff_iff, beq_iff_eq, beq_iff_eq]
  constructor
  · intro e; rw [e] at h; simpa using h
  · intro e
    apply eq_of_bits (less_lt ha) (by omega)
    intro k hk
    have := congrArg (·.testBit k) e
    simp only [Nat.testBit_and] at this
    simp only [Nat.testBit_and, not_bit b k hb hk, Nat.zero_testBit]
    revert this
    cases a.testBit k <;> cases b.testBit k <;> simp
theorem one_bit (k j : Nat) (hk : k < 16) (hj : j < 16) : (rowSet k k).testBit j = decide (j = k) := by
  unfold rowSet
  rw [rowTo_bit, Bool.eq_iff_iff]
  simp; omega
theorem one_lt (k : Nat) : rowSet k k < 65536 := by unfold rowSet; rcases rowTo_lt k k 16 with h | h <;> omega
theorem row_lt (A B : Nat) : rowSet A B < 65536 := by unfold rowSet; rcases rowTo_lt A B 16 with h | h <;> omega
theorem one_part (k a : Nat) (hk : k < 16) (ha : a < 65536) : ((rowSet k k &&& (65535 - a)) == 0) = a.testBit k := by
  rw [Bool.eq_iff_iff, beq_iff_eq]
  constructor
  · intro e
    have := congrArg (·.testBit k) e
    simp only [Nat.testBit_and, not_bit a k ha hk, Nat.zero_testBit, one_bit k k hk hk] at this
    simpa using this
  · intro h
    apply eq_of_bits (less_lt (one_lt k)) (by omega)
    intro j hj
    simp only [Nat.testBit_and, not_bit a j ha hj, Nat.zero_testBit, one_bit k j hk hj]
    by_cases e : j = k
    · subst e; simp [h]
    · simp [e]
theorem row_bit (A B k : Nat) (hk : k < 16) : (rowSet A B).testBit k = (decide (A ≤ k) && decide (k ≤ B)) := by
  unfold rowSet
  rw [rowTo_bit]; simp [hk]
theorem isP_eq (c : Bool) : ((((isP c).1 : Nat) : Int) == 1) = c := by cases c <;> rfl

set_option maxRecDepth 100000 in
set_option maxHeartbeats 3200000 in
theorem sets_in (a b i k A B f : Nat) (w : World) (ha : a < 65536) (hb : b < 65536) (hi : i < 65536) (ht : Tab w) (hk : i % 16 = k) (hA : a % 16 = A) (hB : b % 16 = B) (hf : 16 + i % 100 = f) (q1 : A ≤ k) (q2 : k ≤ B) :
    Calls Tryd.prog 6 #[.int .u16 a, .int .u16 b, .int .u16 i] w fun e w' => e = .returned (.bool true) ∧ Below w.heap.size w w' := by
  have k16 : k < 16 := by omega
  have A16 : A < 16 := by omega
  have B16 : B < 16 := by omega
  have hP := sets_part a b ha hb
  have c1 := Lib.hid fun w' => ld24 a b (a ||| b) true w' ha hb rfl rfl
  have c2 := Lib.hid fun w' => ld26 a b (a &&& b) true w' ha hb rfl rfl
  have c3 := Lib.hid fun w' => ld27 a b (a ^^^ b) true w' ha hb rfl rfl
  have c4 := Lib.hid fun w' => ld25 a b (a &&& (65535 - b)) true w' ha hb rfl rfl
  have c5 := Lib.hid fun w' => ld29 a b (isP ((a &&& (65535 - b)) == 0)).1 true w' ha hb rfl rfl
  have c6 := Lib.hid fun w' => ld24 (a ^^^ b) (a &&& b) (a ||| b) true w' (xor_lt ha hb) (and_lt ha) (sets_e1 a b ha hb) rfl
  have c7 := Lib.hid fun w' => ld24 (a &&& (65535 - b)) (a &&& b) a true w' (less_lt ha) (and_lt ha) (sets_e2 a b ha hb) rfl
  have c8 := Lib.hid fun w' => ld26 (a &&& (65535 - b)) b 0 true w' (less_lt ha) hb (sets_e3 a b ha hb) rfl
  have c9 := Lib.hid fun w' => ld28 k a (isP (a.testBit k)).1 true w' (by omega) ha (by show (isP _).1 = _; congr 2; simp [k16]) rfl
  have c10 : Hid (∀ w' : World, Calls Tryd.prog 14 #[.int .u8 30, .int .u16 k, .int .u16 0] w' fun e w'' => e = .returned (.tuple #[.int .u16 (rowSet k k : Nat), .bool true]) ∧ Below w'.heap.size w' w'') := Lib.hid fun w' => ld30 k 0 (rowSet k k) true w' (by omega) (by omega) (by show (rowP k k).1 = _; unfold rowP; rw [if_neg (by omega)]) (by show okP (rowP k k) = _; unfold rowP; rw [if_neg (by omega)]; rfl)
  have c11 := Lib.hid fun w' => ld29 (rowSet k k) a (isP (a.testBit k)).1 true w' (one_lt k) ha (by show (isP _).1 = _; rw [one_part k a k16 ha]) rfl
  have c12 := Lib.hid fun w' => ld31 A B (rowSet A B) true w' (by omega) (by omega) (by show (rowP A B).1 = _; unfold rowP; rw [if_neg (by omega)]) (by show okP (rowP A B) = _; unfold rowP; rw [if_neg (by omega)]; rfl)
  have c13 := Lib.hid fun w' => ld28 k (rowSet A B) 1 true w' (by omega) (row_lt A B) (by show (isP _).1 = _; rw [row_bit A B k k16]; simp [k16, q1, q2]; rfl) rfl
  have c14 : Hid (∀ w' : World, Calls Tryd.prog 14 #[.int .u8 30, .int .u16 f, .int .u16 0] w' fun e w'' => e = .returned (.tuple #[.int .u16 0, .bool false]) ∧ Below w'.heap.size w' w'') := Lib.hid fun w' => ld30 f 0 0 false w' (by omega) (by omega) (by show (rowP f f).1 = _; unfold rowP; rw [if_pos (by omega)]) (by show okP (rowP f f) = _; unfold rowP; rw [if_pos (by omega)]; rfl)
  have c15 := Lib.hid fun w' => ld28 f a 0 true w' (by omega) ha (by show (isP _).1 = _; rw [show decide (f < 16) = false by simp; omega]; rfl) rfl
  have HT := Lib.hid ht
  have e1 := isP_eq ((a &&& (65535 - b)) == 0)
  have e2 : ((((a &&& b : Nat) : Int)) == (a : Int)) = ((a &&& b) == a) := by rw [Bool.eq_iff_iff, beq_iff_eq, beq_iff_eq]; exact Int.ofNat_inj
  have e3 : ((((a &&& (65535 - b) : Nat) : Int)) == 0) = ((a &&& (65535 - b)) == 0) := by rw [Bool.eq_iff_iff, beq_iff_eq, beq_iff_eq]; exact Int.ofNat_inj (n := 0)
  rw [← hP] at e2
  clear hP ht
  generalize isP (a.testBit k) = q at *
  generalize ((a &&& (65535 - b)) == 0) = p at *
  generalize rowSet k k = U at *
  generalize rowSet A B = Rw at *
  generalize a ||| b = O at *
  generalize a &&& b = N at *
  generalize a ^^^ b = X at *
  generalize a &&& (65535 - b) = L at *
  generalize (isP p).1 = P at *
  have k1 : (i : Int) % 16 = (k : Int) := by omega
  have k2 : (a : Int) % 16 = (A : Int) := by omega
  have k3 : (b : Int) % 16 = (B : Int) := by omega
  have k4 : 16 + (i : Int) % 100 = (f : Int) := by omega
  have z1 : (A : Int) ≤ (k : Int) := by omega
  have z2 : (k : Int) ≤ (B : Int) := by omega
  clear hk hA hB hf
  go_enter Tryd.func6, Tryd.ntmps6
  go_wp2_with fail
  ((with_reducible refine (c1.out _).mono ?_); rintro e x1 ⟨rfl, g1⟩)
  go_wp2_with fail
  ((with_reducible refine (c2.out _).mono ?_); rintro e x2 ⟨rfl, g2⟩)
  replace g2 := g1.trans (g2.mono g1.size)
  go_wp2_with fail
  ((with_reducible refine (c3.out _).mono ?_); rintro e x3 ⟨rfl, g3⟩)
  replace g3 := g2.trans (g3.mono g2.size)
  go_wp2_with fail
  ((with_reducible refine (c4.out _).mono ?_); rintro e x4 ⟨rfl, g4⟩)
  replace g4 := g3.trans (g4.mono g3.size)
  go_wp2_with fail
  ((with_reducible refine (c5.out _).mono ?_); rintro e x5 ⟨rfl, g5⟩)
  replace g5 := g4.trans (g5.mono g4.size)
  go_wp2_with fail
  ((with_reducible refine (c6.out _).mono ?_); rintro e x6 ⟨rfl, g6⟩)
  replace g6 := g5.trans (g6.mono g5.size)
  go_wp2_with fail
  ((with_reducible refine (c7.out _).mono ?_); rintro e x7 ⟨rfl, g7⟩)
  replace g7 := g6.trans (g7.mono g6.size)
  go_wp2_with fail
  ((with_reducible refine (c8.out _).mono ?_); rintro e x8 ⟨rfl, g8⟩)
  replace g8 := g7.trans (g8.mono g7.size)
  go_wp2_with fail
  ((with_reducible refine (c9.out _).mono ?_); rintro e x9 ⟨rfl, g9⟩)
  replace g9 := g8.trans (g9.mono g8.size)
  go_wp2_with fail
  ((with_reducible refine (c10.out _).mono ?_); rintro e x10 ⟨rfl, g10⟩)
  replace g10 := g9.trans (g10.mono g9.size)
  go_wp2_with fail
  ((with_reducible refine (c11.out _).mono ?_); rintro e x11 ⟨rfl, g11⟩)
  replace g11 := g10.trans (g11.mono g10.size)
  go_wp2_with fail
  ((with_reducible refine (c12.out _).mono ?_); rintro e x12 ⟨rfl, g12⟩)
  replace g12 := g11.trans (g12.mono g11.size)
  go_wp2_with fail
  ((with_reducible refine (c13.out _).mono ?_); rintro e x13 ⟨rfl, g13⟩)
  replace g13 := g12.trans (g13.mono g12.size)
  go_wp2_with fail
  ((with_reducible refine (c14.out _).mono ?_); rintro e x14 ⟨rfl, g14⟩)
  replace g14 := g13.trans (g14.mono g13.size)
  go_wp2_with fail
  ((with_reducible refine (c15.out _).mono ?_); rintro e x15 ⟨rfl, g15⟩)
  replace g15 := g14.trans (g15.mono g14.size)
  go_wp2_with fail
  ((with_reducible refine (alive_any _ (tab_below HT.out g15)).mono ?_); rintro e x ⟨rfl, g⟩)
  replace g := g15.trans (g.mono g15.size)
  go_wp2
  go_ret
  exact ⟨rfl, g⟩

set_option maxRecDepth 100000 in
set_option maxHeartbeats 3200000 in
theorem sets_hi (a b i k A B f : Nat) (w : World) (ha : a < 65536) (hb : b < 65536) (hi : i < 65536) (ht : Tab w) (hk : i % 16 = k) (hA : a % 16 = A) (hB : b % 16 = B) (hf : 16 + i % 100 = f) (q1 : A ≤ k) (q2 : ¬ k ≤ B) :
    Calls Tryd.prog 6 #[.int .u16 a, .int .u16 b, .int .u16 i] w fun e w' => e = .returned (.bool true) ∧ Below w.heap.size w w' := by
  have k16 : k < 16 := by omega
  have A16 : A < 16 := by omega
  have B16 : B < 16 := by omega
  have hP := sets_part a b ha hb
  have c1 := Lib.hid fun w' => ld24 a b (a ||| b) true w' ha hb rfl rfl
  have c2 := Lib.hid fun w' => ld26 a b (a &&& b) true w' ha hb rfl rfl
  have c3 := Lib.hid fun w' => ld27 a b (a ^^^ b) true w' ha hb rfl rfl
  have c4 := Lib.hid fun w' => ld25 a b (a &&& (65535 - b)) true w' ha hb rfl rfl
  have c5 := Lib.hid fun w' => ld29 a b (isP ((a &&& (65535 - b)) == 0)).1 true w' ha hb rfl rfl
  have c6 := Lib.hid fun w' => ld24 (a ^^^ b) (a &&& b) (a ||| b) true w' (xor_lt ha hb) (and_lt ha) (sets_e1 a b ha hb) rfl
  have c7 := Lib.hid fun w' => ld24 (a &&& (65535 - b)) (a &&& b) a true w' (less_lt ha) (and_lt ha) (sets_e2 a b ha hb) rfl
  have c8 := Lib.hid fun w' => ld26 (a &&& (65535 - b)) b 0 true w' (less_lt ha) hb (sets_e3 a b ha hb) rfl
  have c9 := Lib.hid fun w' => ld28 k a (isP (a.testBit k)).1 true w' (by omega) ha (by show (isP _).1 = _; congr 2; simp [k16]) rfl
  have c10 : Hid (∀ w' : World, Calls Tryd.prog 14 #[.int .u8 30, .int .u16 k, .int .u16 0] w' fun e w'' => e = .returned (.tuple #[.int .u16 (rowSet k k : Nat), .bool true]) ∧ Below w'.heap.size w' w'') := Lib.hid fun w' => ld30 k 0 (rowSet k k) true w' (by omega) (by omega) (by show (rowP k k).1 = _; unfold rowP; rw [if_neg (by omega)]) (by show okP (rowP k k) = _; unfold rowP; rw [if_neg (by omega)]; rfl)
  have c11 := Lib.hid fun w' => ld29 (rowSet k k) a (isP (a.testBit k)).1 true w' (one_lt k) ha (by show (isP _).1 = _; rw [one_part k a k16 ha]) rfl
  have c12 := Lib.hid fun w' => ld31 A B (rowSet A B) true w' (by omega) (by omega) (by show (rowP A B).1 = _; unfold rowP; rw [if_neg (by omega)]) (by show okP (rowP A B) = _; unfold rowP; rw [if_neg (by omega)]; rfl)
  have c13 := Lib.hid fun w' => ld28 k (rowSet A B) 0 true w' (by omega) (row_lt A B) (by show (isP _).1 = _; rw [row_bit A B k k16]; simp [k16, q1, q2]; rfl) rfl
  have c14 : Hid (∀ w' : World, Calls Tryd.prog 14 #[.int .u8 30, .int .u16 f, .int .u16 0] w' fun e w'' => e = .returned (.tuple #[.int .u16 0, .bool false]) ∧ Below w'.heap.size w' w'') := Lib.hid fun w' => ld30 f 0 0 false w' (by omega) (by omega) (by show (rowP f f).1 = _; unfold rowP; rw [if_pos (by omega)]) (by show okP (rowP f f) = _; unfold rowP; rw [if_pos (by omega)]; rfl)
  have c15 := Lib.hid fun w' => ld28 f a 0 true w' (by omega) ha (by show (isP _).1 = _; rw [show decide (f < 16) = false by simp; omega]; rfl) rfl
  have HT := Lib.hid ht
  have e1 := isP_eq ((a &&& (65535 - b)) == 0)
  have e2 : ((((a &&& b : Nat) : Int)) == (a : Int)) = ((a &&& b) == a) := by rw [Bool.eq_iff_iff, beq_iff_eq, beq_iff_eq]; exact Int.ofNat_inj
  have e3 : ((((a &&& (65535 - b) : Nat) : Int)) == 0) = ((a &&& (65535 - b)) == 0) := by rw [Bool.eq_iff_iff, beq_iff_eq, beq_iff_eq]; exact Int.ofNat_inj (n := 0)
  rw [← hP] at e2
  clear hP ht
  generalize isP (a.testBit k) = q at *
  generalize ((a &&& (65535 - b)) == 0) = p at *
  generalize rowSet k k = U at *
  generalize rowSet A B = Rw at *
  generalize a ||| b = O at *
  generalize a &&& b = N at *
  generalize a ^^^ b = X at *
  generalize a &&& (65535 - b) = L at *
  generalize (isP p).1 = P at *
  have k1 : (i : Int) % 16 = (k : Int) := by omega
  have k2 : (a : Int) % 16 = (A : Int) := by omega
  have k3 : (b : Int) % 16 = (B : Int) := by omega
  have k4 : 16 + (i : Int) % 100 = (f : Int) := by omega
  have z1 : (A : Int) ≤ (k : Int) := by omega
  have z2 : ¬ (k : Int) ≤ (B : Int) := by omega
  clear hk hA hB hf
  go_enter Tryd.func6, Tryd.ntmps6
  go_wp2_with fail
  ((with_reducible refine (c1.out _).mono ?_); rintro e x1 ⟨rfl, g1⟩)
  go_wp2_with fail
  ((with_reducible refine (c2.out _).mono ?_); rintro e x2 ⟨rfl, g2⟩)
  replace g2 := g1.trans (g2.mono g1.size)
  go_wp2_with fail
  ((with_reducible refine (c3.out _).mono ?_); rintro e x3 ⟨rfl, g3⟩)
  replace g3 := g2.trans (g3.mono g2.size)
  go_wp2_with fail
  ((with_reducible refine (c4.out _).mono ?_); rintro e x4 ⟨rfl, g4⟩)
  replace g4 := g3.trans (g4.mono g3.size)
  go_wp2_with fail
  ((with_reducible refine (c5.out _).mono ?_); rintro e x5 ⟨rfl, g5⟩)
  replace g5 := g4.trans (g5.mono g4.size)
  go_wp2_with fail
  ((with_reducible refine (c6.out _).mono ?_); rintro e x6 ⟨rfl, g6⟩)
  replace g6 := g5.trans (g6.mono g5.size)
  go_wp2_with fail
  ((with_reducible refine (c7.out _).mono ?_); rintro e x7 ⟨rfl, g7⟩)
  replace g7 := g6.trans (g7.mono g6.size)
  go_wp2_with fail
  ((with_reducible refine (c8.out _).mono ?_); rintro e x8 ⟨rfl, g8⟩)
  replace g8 := g7.trans (g8.mono g7.size)
  go_wp2_with fail
  ((with_reducible refine (c9.out _).mono ?_); rintro e x9 ⟨rfl, g9⟩)
  replace g9 := g8.trans (g9.mono g8.size)
  go_wp2_with fail
  ((with_reducible refine (c10.out _).mono ?_); rintro e x10 ⟨rfl, g10⟩)
  replace g10 := g9.trans (g10.mono g9.size)
  go_wp2_with fail
  ((with_reducible refine (c11.out _).mono ?_); rintro e x11 ⟨rfl, g11⟩)
  replace g11 := g10.trans (g11.mono g10.size)
  go_wp2_with fail
  ((with_reducible refine (c12.out _).mono ?_); rintro e x12 ⟨rfl, g12⟩)
  replace g12 := g11.trans (g12.mono g11.size)
  go_wp2_with fail
  ((with_reducible refine (c13.out _).mono ?_); rintro e x13 ⟨rfl, g13⟩)
  replace g13 := g12.trans (g13.mono g12.size)
  go_wp2_with fail
  ((with_reducible refine (c14.out _).mono ?_); rintro e x14 ⟨rfl, g14⟩)
  replace g14 := g13.trans (g14.mono g13.size)
  go_wp2_with fail
  ((with_reducible refine (c15.out _).mono ?_); rintro e x15 ⟨rfl, g15⟩)
  replace g15 := g14.trans (g15.mono g14.size)
  go_wp2_with fail
  ((with_reducible refine (alive_any _ (tab_below HT.out g15)).mono ?_); rintro e x ⟨rfl, g⟩)
  replace g := g15.trans (g.mono g15.size)
  go_wp2
  go_ret
  exact ⟨rfl, g⟩

set_option maxRecDepth 100000 in
set_option maxHeartbeats 3200000 in
theorem sets_lo (a b i k A B f : Nat) (w : World) (ha : a < 65536) (hb : b < 65536) (hi : i < 65536) (ht : Tab w) (hk : i % 16 = k) (hA : a % 16 = A) (hB : b % 16 = B) (hf : 16 + i % 100 = f) (q1 : ¬ A ≤ k) :
    Calls Tryd.prog 6 #[.int .u16 a, .int .u16 b, .int .u16 i] w fun e w' => e = .returned (.bool true) ∧ Below w.heap.size w w' := by
  have k16 : k < 16 := by omega
  have A16 : A < 16 := by omega
  have B16 : B < 16 := by omega
  have hP := sets_part a b ha hb
  have c1 := Lib.hid fun w' => ld24 a b (a ||| b) true w' ha hb rfl rfl
  have c2 := Lib.hid fun w' => ld26 a b (a &&& b) true w' ha hb rfl rfl
  have c3 := Lib.hid fun w' => ld27 a b (a ^^^ b) true w' ha hb rfl rfl
  have c4 := Lib.hid fun w' => ld25 a b (a &&& (65535 - b)) true w' ha hb rfl rfl
  have c5 := Lib.hid fun w' => ld29 a b (isP ((a &&& (65535 - b)) == 0)).1 true w' ha hb rfl rfl
  have c6 := Lib.hid fun w' => ld24 (a ^^^ b) (a &&& b) (a ||| b) true w' (xor_lt ha hb) (and_lt ha) (sets_e1 a b ha hb) rfl
  have c7 := Lib.hid fun w' => ld24 (a &&& (65535 - b)) (a &&& b) a true w' (less_lt ha) (and_lt ha) (sets_e2 a b ha hb) rfl
  have c8 := Lib.hid fun w' => ld26 (a &&& (65535 - b)) b 0 true w' (less_lt ha) hb (sets_e3 a b ha hb) rfl
  have c9 := Lib.hid fun w' => ld28 k a (isP (a.testBit k)).1 true w' (by omega) ha (by show (isP _).1 = _; congr 2; simp [k16]) rfl
  have c10 : Hid (∀ w' : World, Calls Tryd.prog 14 #[.int .u8 30, .int .u16 k, .int .u16 0] w' fun e w'' => e = .returned (.tuple #[.int .u16 (rowSet k k : Nat), .bool true]) ∧ Below w'.heap.size w' w'') := Lib.hid fun w' => ld30 k 0 (rowSet k k) true w' (by omega) (by omega) (by show (rowP k k).1 = _; unfold rowP; rw [if_neg (by omega)]) (by show okP (rowP k k) = _; unfold rowP; rw [if_neg (by omega)]; rfl)
  have c11 := Lib.hid fun w' => ld29 (rowSet k k) a (isP (a.testBit k)).1 true w' (one_lt k) ha (by show (isP _).1 = _; rw [one_part k a k16 ha]) rfl
  have c12 := Lib.hid fun w' => ld31 A B (rowSet A B) true w' (by omega) (by omega) (by show (rowP A B).1 = _; unfold rowP; rw [if_neg (by omega)]) (by show okP (rowP A B) = _; unfold rowP; rw [if_neg (by omega)]; rfl)
  have c13 := Lib.hid fun w' => ld28 k (rowSet A B) 0 true w' (by omega) (row_lt A B) (by show (isP _).1 = _; rw [row_bit A B k k16]; simp [k16, q1]; rfl) rfl
  have c14 : Hid (∀ w' : World, Calls Tryd.prog 14 #[.int .u8 30, .int .u16 f, .int .u16 0] w' fun e w'' => e = .returned (.tuple #[.int .u16 0, .bool false]) ∧ Below w'.heap.size w' w'') := Lib.hid fun w' => ld30 f 0 0 false w' (by omega) (by omega) (by show (rowP f f).1 = _; unfold rowP; rw [if_pos (by omega)]) (by show okP (rowP f f) = _; unfold rowP; rw [if_pos (by omega)]; rfl)
  have c15 := Lib.hid fun w' => ld28 f a 0 true w' (by omega) ha (by show (isP _).1 = _; rw [show decide (f < 16) = false by simp; omega]; rfl) rfl
  have HT := Lib.hid ht
  have e1 := isP_eq ((a &&& (65535 - b)) == 0)
  have e2 : ((((a &&& b : Nat) : Int)) == (a : Int)) = ((a &&& b) == a) := by rw [Bool.eq_iff_iff, beq_iff_eq, beq_iff_eq]; exact Int.ofNat_inj
  have e3 : ((((a &&& (65535 - b) : Nat) : Int)) == 0) = ((a &&& (65535 - b)) == 0) := by rw [Bool.eq_iff_iff, beq_iff_eq, beq_iff_eq]; exact Int.ofNat_inj (n := 0)
  rw [← hP] at e2
  clear hP ht
  generalize isP (a.testBit k) = q at *
  generalize ((a &&& (65535 - b)) == 0) = p at *
  generalize rowSet k k = U at *
  generalize rowSet A B = Rw at *
  generalize a ||| b = O at *
  generalize a &&& b = N at *
  generalize a ^^^ b = X at *
  generalize a &&& (65535 - b) = L at *
  generalize (isP p).1 = P at *
  have k1 : (i : Int) % 16 = (k : Int) := by omega
  have k2 : (a : Int) % 16 = (A : Int) := by omega
  have k3 : (b : Int) % 16 = (B : Int) := by omega
  have k4 : 16 + (i : Int) % 100 = (f : Int) := by omega
  have z1 : ¬ (A : Int) ≤ (k : Int) := by omega
  clear hk hA hB hf
  go_enter Tryd.func6, Tryd.ntmps6
  go_wp2_with fail
  ((with_reducible refine (c1.out _).mono ?_); rintro e x1 ⟨rfl, g1⟩)
  go_wp2_with fail
  ((with_reducible refine (c2.out _).mono ?_); rintro e x2 ⟨rfl, g2⟩)
  replace g2 := g1.trans (g2.mono g1.size)
  go_wp2_with fail
  ((with_reducible refine (c3.out _).mono ?_); rintro e x3 ⟨rfl, g3⟩)
  replace g3 := g2.trans (g3.mono g2.size)
  go_wp2_with fail
  ((with_reducible refine (c4.out _).mono ?_); rintro e x4 ⟨rfl, g4⟩)
  replace g4 := g3.trans (g4.mono g3.size)
  go_wp2_with fail
  ((with_reducible refine (c5.out _).mono ?_); rintro e x5 ⟨rfl, g5⟩)
  replace g5 := g4.trans (g5.mono g4.size)
  go_wp2_with fail
  ((with_reducible refine (c6.out _).mono ?_); rintro e x6 ⟨rfl, g6⟩)
  replace g6 := g5.trans (g6.mono g5.size)
  go_wp2_with fail
  ((with_reducible refine (c7.out _).mono ?_); rintro e x7 ⟨rfl, g7⟩)
  replace g7 := g6.trans (g7.mono g6.size)
  go_wp2_with fail
  ((with_reducible refine (c8.out _).mono ?_); rintro e x8 ⟨rfl, g8⟩)
  replace g8 := g7.trans (g8.mono g7.size)
  go_wp2_with fail
  ((with_reducible refine (c9.out _).mono ?_); rintro e x9 ⟨rfl, g9⟩)
  replace g9 := g8.trans (g9.mono g8.size)
  go_wp2_with fail
  ((with_reducible refine (c10.out _).mono ?_); rintro e x10 ⟨rfl, g10⟩)
  replace g10 := g9.trans (g10.mono g9.size)
  go_wp2_with fail
  ((with_reducible refine (c11.out _).mono ?_); rintro e x11 ⟨rfl, g11⟩)
  replace g11 := g10.trans (g11.mono g10.size)
  go_wp2_with fail
  ((with_reducible refine (c12.out _).mono ?_); rintro e x12 ⟨rfl, g12⟩)
  replace g12 := g11.trans (g12.mono g11.size)
  go_wp2_with fail
  ((with_reducible refine (c13.out _).mono ?_); rintro e x13 ⟨rfl, g13⟩)
  replace g13 := g12.trans (g13.mono g12.size)
  go_wp2_with fail
  ((with_reducible refine (c14.out _).mono ?_); rintro e x14 ⟨rfl, g14⟩)
  replace g14 := g13.trans (g14.mono g13.size)
  go_wp2_with fail
  ((with_reducible refine (c15.out _).mono ?_); rintro e x15 ⟨rfl, g15⟩)
  replace g15 := g14.trans (g15.mono g14.size)
  go_wp2_with fail
  ((with_reducible refine (alive_any _ (tab_below HT.out g15)).mono ?_); rintro e x ⟨rfl, g⟩)
  replace g := g15.trans (g.mono g15.size)
  go_wp2
  go_ret
  exact ⟨rfl, g⟩

theorem sets_law (a0 a1 a2 : Int) (w : World) (ht : Tab w) (w0 : (Lit.int .u16 a0).wf = true) (w1 : (Lit.int .u16 a1).wf = true) (w2 : (Lit.int .u16 a2).wf = true) :
    Calls Tryd.prog 6 #[.int .u16 a0, .int .u16 a1, .int .u16 a2] w fun e w' => e = .returned (.bool true) ∧ Below w.heap.size w w' := by
  obtain ⟨a, ha, rfl⟩ := wf16 w0
  obtain ⟨b, hb, rfl⟩ := wf16 w1
  obtain ⟨i, hi, rfl⟩ := wf16 w2
  by_cases q1 : a % 16 ≤ i % 16
  · by_cases q2 : i % 16 ≤ b % 16
    · exact sets_in a b i _ _ _ _ w ha hb hi ht rfl rfl rfl rfl q1 q2
    · exact sets_hi a b i _ _ _ _ w ha hb hi ht rfl rfl rfl rfl q1 q2
  · exact sets_lo a b i _ _ _ _ w ha hb hi ht rfl rfl rfl rfl q1

end Go.Proofs.YtdodbbedlgglcaaDoor.Wd
