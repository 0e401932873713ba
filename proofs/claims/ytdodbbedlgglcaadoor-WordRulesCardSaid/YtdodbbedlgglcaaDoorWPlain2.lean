/- More plain functions on words: which number is a word, how many an op takes, bounds, quotients. -/
import Derived.Test.YtdodbbedlgglcaaDoorWPlain
set_option linter.unusedSimpArgs false
set_option linter.unusedVariables false
namespace Go.Proofs.YtdodbbedlgglcaaDoor.WPlain
open Go

def ofP (n : Int) : Nat × Bool := if n < -32768 ∨ 65535 < n then (0, false) else ((n % 65536).toNat, true)
def takesP (op : Nat) : Int := if op < 1 ∨ 31 < op then 0 else if op = 6 ∨ op = 7 ∨ op = 23 ∨ op = 30 then 1 else 2
/-- The tests of Takes, in Go's order, and what comes of them. -/
theorem takes_cases (op : Nat) :
    (((op : Int) == 6) = true ∧ (1 ≤ op → op ≤ 31 → takesP op = 1)) ∨
    (((op : Int) == 6) = false ∧ ((op : Int) == 7) = true ∧ (1 ≤ op → op ≤ 31 → takesP op = 1)) ∨
    (((op : Int) == 6) = false ∧ ((op : Int) == 7) = false ∧ ((op : Int) == 23) = true ∧ (1 ≤ op → op ≤ 31 → takesP op = 1)) ∨
    (((op : Int) == 6) = false ∧ ((op : Int) == 7) = false ∧ ((op : Int) == 23) = false ∧ ((op : Int) == 30) = true ∧ (1 ≤ op → op ≤ 31 → takesP op = 1)) ∨
    (((op : Int) == 6) = false ∧ ((op : Int) == 7) = false ∧ ((op : Int) == 23) = false ∧ ((op : Int) == 30) = false ∧ (1 ≤ op → op ≤ 31 → takesP op = 2)) := by
  simp only [beq_iff_eq, beq_eq_false_iff_ne]
  unfold takesP
  by_cases h6 : op = 6
  · left; exact ⟨by omega, fun _ _ => by rw [if_neg (by omega), if_pos (by omega)]⟩
  · right
    by_cases h7 : op = 7
    · left; exact ⟨by omega, by omega, fun _ _ => by rw [if_neg (by omega), if_pos (by omega)]⟩
    · right
      by_cases h23 : op = 23
      · left; exact ⟨by omega, by omega, by omega, fun _ _ => by rw [if_neg (by omega), if_pos (by omega)]⟩
      · right
        by_cases h30 : op = 30
        · left; exact ⟨by omega, by omega, by omega, by omega, fun _ _ => by rw [if_neg (by omega), if_pos (by omega)]⟩
        · right; exact ⟨by omega, by omega, by omega, by omega, fun _ _ => by rw [if_neg (by omega), if_neg (by omega)]⟩
def withinP (s : Bool) (a lo hi : Nat) : Bool := if s then decide (sg lo ≤ sg a) && decide (sg a ≤ sg hi) else decide (lo ≤ a) && decide (a ≤ hi)

/-! ### Sets, bit by bit -/
theorem in_mod (s k : Nat) : (((s : Int) / 2 ^ k).tmod 2 == 1) = s.testBit k := by
  have hd : ((s : Int) / 2 ^ k) = ((s / 2 ^ k : Nat) : Int) := by simp
  rw [hd, Int.tmod_eq_emod_of_nonneg (Int.natCast_nonneg _), ← test_eq]
  rw [Bool.eq_iff_iff]; simp; omega

def sumSet (p : Nat → Bool) : Nat → Nat
  | 0 => 0
  | k + 1 => sumSet p k + if p k then 2 ^ k else 0
theorem sumSet_lt (p : Nat → Bool) : ∀ k, sumSet p k < 2 ^ k
  | 0 => by simp [sumSet]
  | k + 1 => by
    have := sumSet_lt p k
    rw [sumSet, Nat.pow_succ]
    split <;> omega
theorem sumSet_bit (p : Nat → Bool) (j : Nat) : ∀ k, (sumSet p k).testBit j = (decide (j < k) && p j)
  | 0 => by simp [sumSet]
  | k + 1 => by
    have hlt := sumSet_lt p k
    have ih := sumSet_bit p j k
    rw [sumSet]
    cases hp : p k
    · simp only [Bool.false_eq_true, if_false, Nat.add_zero, ih]
      by_cases h : j = k
      · subst h; simp [hp]
      · have : decide (j < k + 1) = decide (j < k) := by rw [Bool.eq_iff_iff]; simp; omega
        rw [this]
    · simp only [if_true]
      rw [Nat.add_comm, ← Nat.mul_one (2 ^ k), Nat.testBit_two_pow_mul_add _ hlt]
      by_cases h : j < k
      · simp [h, ih]; omega
      · by_cases h' : j = k
        · subst h'; simp [hp]
        · have h2 : ¬ j < k + 1 := by omega
          have h3 : j - k ≠ 0 := by omega
          simp [h, h2]
          rw [show (1 : Nat) = 2 ^ 0 from rfl, Nat.testBit_two_pow]
          simp; omega
theorem sum_bd (p : Nat → Bool) (k : Nat) (hk : k < 16) : sumSet p k + 2 ^ k ≤ 65535 := by
  have h1 := sumSet_lt p k
  have h2 := Nat.pow_le_pow_right (n := 2) (i := k) (j := 15) (by omega) (by omega)
  omega
theorem eq_of_bits {a b : Nat} (ha : a < 65536) (hb : b < 65536) (h : ∀ k, k < 16 → a.testBit k = b.testBit k) : a = b := by
  apply Nat.eq_of_testBit_eq
  intro k
  by_cases hk : k < 16
  · exact h k hk
  · have hp : 2 ^ 16 ≤ 2 ^ k := Nat.pow_le_pow_right (by omega) (by omega)
    rw [Nat.testBit_lt_two_pow (Nat.lt_of_lt_of_le ha hp), Nat.testBit_lt_two_pow (Nat.lt_of_lt_of_le hb hp)]
theorem sum_eq (p : Nat → Bool) {n : Nat} (hn : n < 65536) (h : ∀ k, k < 16 → p k = n.testBit k) : sumSet p 16 = n :=
  eq_of_bits (sumSet_lt p 16) hn fun k hk => by rw [sumSet_bit, h k hk]; simp [hk]
theorem not_bit (m k : Nat) (hm : m < 65536) (hk : k < 16) : (65535 - m).testBit k = !m.testBit k := by
  have := Nat.testBit_two_pow_sub_succ (n := 16) (x := m) hm k
  have e : 2 ^ 16 - (m + 1) = 65535 - m := by omega
  rw [e] at this
  rw [this]; simp [hk]
theorem set24_eq (a b : Nat) (ha : a < 65536) (hb : b < 65536) : opP 24 a b = (sumSet (fun j => a.testBit j || b.testBit j) 16, 0) := by
  rw [sum_eq _ (or_lt ha hb) (fun k _ => by rw [Nat.testBit_or])]; try rfl
theorem set25_eq (a b : Nat) (ha : a < 65536) (hb : b < 65536) : opP 25 a b = (sumSet (fun j => a.testBit j && !b.testBit j) 16, 0) := by
  rw [sum_eq _ (Nat.lt_of_le_of_lt (Nat.and_le_left (n := a) (m := 65535 - b)) ha) (fun k hk => by rw [Nat.testBit_and, not_bit b k hb hk])]; try rfl
theorem set26_eq (a b : Nat) (ha : a < 65536) (hb : b < 65536) : opP 26 a b = (sumSet (fun j => a.testBit j && b.testBit j) 16, 0) := by
  rw [sum_eq _ (Nat.lt_of_le_of_lt (Nat.and_le_left (n := a) (m := b)) ha) (fun k _ => by rw [Nat.testBit_and])]; try rfl
theorem set27_eq (a b : Nat) (ha : a < 65536) (hb : b < 65536) : opP 27 a b = (sumSet (fun j => a.testBit j != b.testBit j) 16, 0) := by
  rw [sum_eq _ (Nat.xor_lt_two_pow (n := 16) ha hb) (fun k _ => by rw [Nat.testBit_xor])]; try rfl
theorem setrow_eq (a b : Nat) (ha : a < 16) (hb : b < 16) : rowP a b = (sumSet (fun j => decide (a ≤ j) && decide (j ≤ b)) 16, 0) := by
  unfold rowP
  rw [if_neg (by omega)]
  congr 1
  symm
  apply sum_eq
  · unfold rowSet
    rcases rowTo_lt a b 16 with h | h <;> omega
  · intro k hk
    unfold rowSet
    rw [rowTo_bit]; simp [hk]
/-- Is each of a, below k, in b? -/
def partTo (a b : Nat) : Nat → Bool
  | 0 => true
  | k + 1 => partTo a b k && (!a.testBit k || b.testBit k)
theorem partTo_iff (a b : Nat) : ∀ k, partTo a b k = true ↔ ∀ j, j < k → a.testBit j = true → b.testBit j = true
  | 0 => by simp [partTo]
  | k + 1 => by
    rw [partTo, Bool.and_eq_true, partTo_iff a b k]
    constructor
    · rintro ⟨h1, h2⟩ j hj ha
      by_cases e : j = k
      · subst e; simpa [ha] using h2
      · exact h1 j (by omega) ha
    · intro h
      refine ⟨fun j hj => h j (by omega), ?_⟩
      cases ha : a.testBit k
      · simp
      · simp [h k (by omega) ha]
theorem set29_eq (a b : Nat) (ha : a < 65536) (hb : b < 65536) : opP 29 a b = isP (partTo a b 16) := by
  show isP _ = _
  congr 1
  rw [Bool.eq_iff_iff, partTo_iff, beq_iff_eq]
  constructor
  · intro h j hj hja
    have := congrArg (·.testBit j) h
    simp only [Nat.testBit_and, not_bit b j hb hj, hja, Nat.zero_testBit] at this
    simpa using this
  · intro h
    apply eq_of_bits (Nat.lt_of_le_of_lt Nat.and_le_left ha) (by omega)
    intro k hk
    rw [Nat.testBit_and, not_bit b k hb hk, Nat.zero_testBit]
    cases hka : a.testBit k
    · simp
    · simp [h k hk hka]

/-! ### Quotients, as the reference makes them -/
/-- The size of a quotient: a by b, both without their signs. -/
theorem quo_facts (a b : Int) (ha : a.natAbs ≤ 65536) (hb : b.natAbs ≤ 65536) (q : Int) (hq : q = a.tdiv b) :
    q.natAbs ≤ 65536 ∧ (b * q).natAbs ≤ 4294967296 ∧ a - b * q = a.tmod b := by
  subst hq
  have h1 : (a.tdiv b).natAbs ≤ 65536 := Nat.le_trans (Int.natAbs_tdiv_le_natAbs a b) ha
  exact ⟨h1, mul_abs b _ 65536 65536 hb h1, (Int.tmod_def a b).symm⟩
theorem quo_pp (a b : Int) (ha : 0 ≤ a) (hb : 0 < b) : a / b = a.tdiv b := (Int.tdiv_eq_ediv_of_nonneg ha).symm
theorem quo_np (a b : Int) (ha : a < 0) (hb : 0 < b) : -(-a / b) = a.tdiv b := by
  have : a = -(-a) := by omega
  rw [this, Int.neg_tdiv, Int.tdiv_eq_ediv_of_nonneg (by omega)]; simp
theorem quo_pn (a b : Int) (ha : 0 ≤ a) (hb : b < 0) : -(a / -b) = a.tdiv b := by
  have : b = -(-b) := by omega
  rw [this, Int.tdiv_neg, Int.tdiv_eq_ediv_of_nonneg ha]; simp
theorem quo_nn (a b : Int) (ha : a < 0) (hb : b < 0) : -a / -b = a.tdiv b := by
  have h1 : a = -(-a) := by omega
  have h2 : b = -(-b) := by omega
  rw [h1, h2, Int.neg_tdiv, Int.tdiv_neg, Int.tdiv_eq_ediv_of_nonneg (by omega)]; simp

end Go.Proofs.YtdodbbedlgglcaaDoor.WPlain
