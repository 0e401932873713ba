/- What becomes of two words, as plain functions on natural numbers, with no program in sight. -/
import Derived.Laws.BitsAllLaws
import Derived.IntWalk
set_option linter.unusedSimpArgs false
set_option linter.unusedVariables false
namespace Go.Proofs.YtdodbbedlgglcaaDoor.WPlain
open Go

/-- A word with its sign. -/
def sg (n : Nat) : Int := if n < 32768 then (n : Int) else (n : Int) - 65536
theorem sg_bd (n : Nat) (h : n < 65536) : -32768 ≤ sg n ∧ sg n ≤ 32767 := by unfold sg; split <;> omega
theorem wrap_i16 (n : Int) : IntKind.i16.wrap n = (n + 32768) % 65536 - 32768 := by
  simp [IntKind.wrap, IntKind.bits, IntKind.signed]
  split <;> omega
theorem sg_wrap (n : Nat) (h : n < 65536) : IntKind.i16.wrap (n : Int) = sg n := by
  rw [wrap_i16]; unfold sg; split <;> omega

def fitsP (n low high : Int) : Nat × Nat := if n < low ∨ high < n then (0, 1) else ((n % 65536).toNat, 0)
def signedP (n : Int) : Nat × Nat := fitsP n (-32768) 32767
def bareP (n : Int) : Nat × Nat := fitsP n 0 65535
def isP (b : Bool) : Nat × Nat := (if b then 1 else 0, 0)
def overP (b : Int) (r : Nat × Nat) : Nat × Nat := if b = 0 then (0, 4) else r

theorem two_pow_lt {k : Nat} (h : k < 16) : 2 ^ k < 65536 := Nat.pow_lt_pow_of_lt (n := k) (m := 16) (by omega) h
theorem or_lt {a b : Nat} (ha : a < 65536) (hb : b < 65536) : a ||| b < 65536 := Nat.or_lt_two_pow (n := 16) ha hb
theorem shl_one (k : Nat) (h : k < 16) : IntKind.u16.wrap (2 ^ k) = ((2 ^ k : Nat) : Int) := by
  have hl := two_pow_lt h
  rw [IntKind.wrap_u16, show (2 : Int) ^ k = ((2 ^ k : Nat) : Int) by simp]
  generalize 2 ^ k = d at *
  omega

/-- The numbers from a to b that are below k, as a set. -/
def rowTo (a b : Nat) : Nat → Nat
  | 0 => 0
  | k + 1 => if a ≤ k ∧ k ≤ b then rowTo a b k ||| 2 ^ k else rowTo a b k
def rowSet (a b : Nat) : Nat := rowTo a b 16
def rowP (a b : Nat) : Nat × Nat := if 15 < a ∨ 15 < b then (0, 2) else (rowSet a b, 0)
theorem rowTo_low (a b : Nat) : ∀ k, k ≤ a → rowTo a b k = 0
  | 0, _ => rfl
  | k + 1, h => by rw [rowTo, if_neg (by omega), rowTo_low a b k (by omega)]
theorem rowTo_start (a b : Nat) : rowTo a b a = 0 := rowTo_low a b a (Nat.le_refl _)
theorem rowTo_succ (a b k : Nat) (h1 : a ≤ k) (h2 : k ≤ b) : rowTo a b (k + 1) = rowTo a b k ||| 2 ^ k := by rw [rowTo, if_pos ⟨h1, h2⟩]
theorem rowTo_high (a b k : Nat) (hk : a ≤ k) (h : b < k) : ∀ n, rowTo a b (k + n) = rowTo a b k
  | 0 => rfl
  | n + 1 => by rw [← Nat.add_assoc, rowTo, if_neg (by omega), rowTo_high a b k hk h n]
theorem rowTo_end (a b k : Nat) (hk : k ≤ 16) (h0 : a ≤ k) (h : b < k) : rowTo a b k = rowSet a b := by
  have := rowTo_high a b k h0 h (16 - k)
  rw [show k + (16 - k) = 16 by omega] at this
  exact this.symm
theorem rowTo_bit (a b j : Nat) : ∀ k, (rowTo a b k).testBit j = (decide (j < k) && decide (a ≤ j) && decide (j ≤ b))
  | 0 => by simp [rowTo]
  | k + 1 => by
    have ih := rowTo_bit a b j k
    rw [rowTo]
    split
    · next h =>
      rw [Nat.testBit_or, ih, Nat.testBit_two_pow]
      by_cases e : j = k
      · subst e; simp [h.1, h.2]
      · have h1 : decide (j < k + 1) = decide (j < k) := by rw [Bool.eq_iff_iff]; simp; omega
        have h2 : decide (k = j) = false := by simp; omega
        rw [h1, h2]; simp
    · next h =>
      rw [ih]
      by_cases e : j = k
      · subst e; simp; omega
      · have h1 : decide (j < k + 1) = decide (j < k) := by rw [Bool.eq_iff_iff]; simp; omega
        rw [h1]
theorem rowTo_lt (a b k : Nat) : rowTo a b k < 65536 ∨ 16 < k := by
  by_cases h : 16 < k
  · exact .inr h
  · left
    induction k with
    | zero => simp [rowTo]
    | succ k ih =>
      rw [rowTo]
      split
      · exact or_lt (ih (by omega)) (two_pow_lt (by omega))
      · exact ih (by omega)


theorem mul_abs (x y : Int) (n m : Nat) (hx : x.natAbs ≤ n) (hy : y.natAbs ≤ m) : (x * y).natAbs ≤ n * m := by
  rw [Int.natAbs_mul]; exact Nat.mul_le_mul hx hy
theorem wrap_of_abs (n : Int) (h : n.natAbs ≤ 4294967296) : IntKind.i64.wrap n = n := IntWalk.i64_in n (by omega)
theorem wrap_mul (x y : Int) (hx : x.natAbs ≤ 65536) (hy : y.natAbs ≤ 65536) : IntKind.i64.wrap (x * y) = x * y :=
  wrap_of_abs _ (mul_abs x y 65536 65536 hx hy)
theorem wrap_tdiv (x y : Int) (hx : x.natAbs ≤ 65536) : IntKind.i64.wrap (x.tdiv y) = x.tdiv y :=
  wrap_of_abs _ (Nat.le_trans (Int.natAbs_tdiv_le_natAbs x y) (by omega))

/-- What becomes of two words by each op: the word, the trap. -/
def opP (op a b : Nat) : Nat × Nat :=
  match op with
  | 1 => signedP (sg a + sg b)
  | 2 => signedP (sg a - sg b)
  | 3 => signedP (sg a * sg b)
  | 4 => overP (sg b) (signedP ((sg a).tdiv (sg b)))
  | 5 => overP (sg b) (signedP ((sg a).tmod (sg b)))
  | 6 => signedP (-(sg a))
  | 7 => signedP (max (sg a) (-(sg a)))
  | 8 => bareP ((a : Int) + b)
  | 9 => bareP ((a : Int) - b)
  | 10 => bareP ((a : Int) * b)
  | 11 => overP (b : Int) (bareP ((a : Int).tdiv b))
  | 12 => overP (b : Int) (bareP ((a : Int).tmod b))
  | 13 => isP (a == b)
  | 14 => isP (a != b)
  | 15 => isP (decide (sg a < sg b))
  | 16 => isP (decide (sg a ≤ sg b))
  | 17 => isP (decide (sg b < sg a))
  | 18 => isP (decide (sg b ≤ sg a))
  | 19 => isP (decide (a < b))
  | 20 => isP (decide (a ≤ b))
  | 21 => isP (decide (b < a))
  | 22 => isP (decide (b ≤ a))
  | 23 => isP (a == 0)
  | 24 => (a ||| b, 0)
  | 25 => (a &&& (65535 - b), 0)
  | 26 => (a &&& b, 0)
  | 27 => (a ^^^ b, 0)
  | 28 => isP (decide (a < 16) && b.testBit a)
  | 29 => isP ((a &&& (65535 - b)) == 0)
  | 30 => rowP a a
  | 31 => rowP a b
  | _ => (0, 12)

theorem test_eq (s k : Nat) : (s / 2 ^ k % 2 == 1) = s.testBit k := by
  rw [Nat.testBit_eq_decide_div_mod_eq]
  rw [Bool.eq_iff_iff]; simp
theorem in_eq (s k : Nat) (hs : s < 65536) (hk : k < 16) : (bits .and .u16 ((s : Int) / 2 ^ k) 1 == 1) = s.testBit k := by
  have hd : ((s : Int) / 2 ^ k) = ((s / 2 ^ k : Nat) : Int) := by simp
  have hl : s / 2 ^ k < 65536 := Nat.lt_of_le_of_lt (Nat.div_le_self _ _) hs
  rw [hd, show (1 : Int) = ((1 : Nat) : Int) from rfl, u16_and_nat _ 1 hl (by omega), nat_mask1, ← test_eq]
  rw [Bool.eq_iff_iff]; simp; omega

end Go.Proofs.YtdodbbedlgglcaaDoor.WPlain
