/- Plain facts about sets of the numbers from 0 to 15, with no program in sight: what each Go function of the packages bits and separatumref02 computes, as functions on natural numbers. -/
import Derived.Laws.BitsAllLaws
import Derived.Laws.ShiftsVarLaws
namespace Go.Proofs.Ythnboggjlppopaa.Plain

def may (i : Int) : Bool := decide (0 ≤ i ∧ i < 16)
def has (s : Nat) (i : Int) : Bool := may i && s.testBit i.toNat
def mask : List Int → Nat → Nat
  | [], s => s
  | i :: l, s => mask l (if may i then s ||| 2 ^ i.toNat else s)

def isIn (l : List Int) (i : Int) : Bool := l.contains i
theorem isIn_snoc (l : List Int) (z i : Int) : isIn (l ++ [z]) i = (isIn l i || i == z) := by
  unfold isIn
  simp only [List.contains_eq_mem, List.mem_append, List.mem_singleton]
  rw [Bool.eq_iff_iff]; simp
theorem isIn_get (l : List Int) (k : Nat) (h : k < l.length) : isIn l (l.getD k 0) = true := by
  simp [isIn, List.getD, h]

theorem may_yes {i : Int} (h : may i = true) : 0 ≤ i ∧ i < 16 := of_decide_eq_true h
theorem may_no {i : Int} (h : may i = false) : ¬ (0 ≤ i ∧ i < 16) := of_decide_eq_false h
theorem may_mk {i : Int} (h : 0 ≤ i ∧ i < 16) : may i = true := decide_eq_true h

theorem two_pow_lt {k : Nat} (h : k < 16) : 2 ^ k < 65536 := Nat.pow_lt_pow_of_lt (n := k) (m := 16) (by omega) h
theorem two_pow_le {k : Nat} (h : k < 16) : 2 ^ k ≤ 32768 := by
  have := Nat.pow_le_pow_right (n := 2) (i := k) (j := 15) (by omega) (by omega)
  omega

theorem or_lt {a b : Nat} (ha : a < 65536) (hb : b < 65536) : a ||| b < 65536 := Nat.or_lt_two_pow (n := 16) ha hb

theorem mask_lt : ∀ (l : List Int) (s : Nat), s < 65536 → mask l s < 65536
  | [], _, h => h
  | i :: l, s, h => by
    unfold mask
    apply mask_lt
    split
    · next hm => exact or_lt h (two_pow_lt (by have := may_yes hm; omega))
    · exact h

theorem mask_snoc (l : List Int) (i : Int) : ∀ s, mask (l ++ [i]) s = if may i then mask l s ||| 2 ^ i.toNat else mask l s := by
  induction l with
  | nil => intro s; rfl
  | cons j l ih => intro s; exact ih _

theorem mask_bit (l : List Int) (k : Nat) (hk : k < 16) : ∀ s, (mask l s).testBit k = (s.testBit k || isIn l (k : Int)) := by
  induction l with
  | nil => intro s; simp [mask, isIn]
  | cons j l ih =>
    intro s
    rw [mask, ih]
    cases hm : may j
    · have : ((k : Int) == j) = false := by
        have := may_no hm
        simp; omega
      simp only [Bool.false_eq_true, if_false, isIn, List.contains_cons, this, Bool.false_or]
    · have h := may_yes hm
      simp only [if_true, Nat.testBit_or, isIn, List.contains_cons, Nat.testBit_two_pow]
      have : decide (j.toNat = k) = ((k : Int) == j) := by rw [Bool.eq_iff_iff]; simp; omega
      rw [this, Bool.or_assoc]

/-- The sum of the powers of those below k that are so. -/
def sumSet (p : Nat → Bool) : Nat → Nat
  | 0 => 0
  | k + 1 => sumSet p k + if p k then 2 ^ k else 0

theorem sumSet_lt (p : Nat → Bool) : ∀ k, sumSet p k < 2 ^ k
  | 0 => by simp [sumSet]
  | k + 1 => by
    have := sumSet_lt p k
    rw [sumSet, Nat.pow_succ]
    split <;> omega

theorem sumSet_bit (p : Nat → Bool) (j : Nat) : ∀ k, (sumSet p k).testBit j = (decide (j < k) && p j)
  | 0 => by simp [sumSet]
  | k + 1 => by
    have hlt := sumSet_lt p k
    have ih := sumSet_bit p j k
    rw [sumSet]
    cases hp : p k
    · simp only [Bool.false_eq_true, if_false, Nat.add_zero, ih]
      by_cases h : j = k
      · subst h; simp [hp]
      · have : decide (j < k + 1) = decide (j < k) := by rw [Bool.eq_iff_iff]; simp; omega
        rw [this]
    · simp only [if_true]
      rw [Nat.add_comm, ← Nat.mul_one (2 ^ k), Nat.testBit_two_pow_mul_add _ hlt]
      by_cases h : j < k
      · simp [h, ih]; omega
      · by_cases h' : j = k
        · subst h'; simp [hp]
        · have h2 : ¬ j < k + 1 := by omega
          have h3 : j - k ≠ 0 := by omega
          simp [h, h2]
          rw [show (1 : Nat) = 2 ^ 0 from rfl, Nat.testBit_two_pow]
          simp; omega

theorem eq_of_bits {a b : Nat} (ha : a < 65536) (hb : b < 65536) (h : ∀ k, k < 16 → a.testBit k = b.testBit k) : a = b := by
  apply Nat.eq_of_testBit_eq
  intro k
  by_cases hk : k < 16
  · exact h k hk
  · have hp : 2 ^ 16 ≤ 2 ^ k := Nat.pow_le_pow_right (by omega) (by omega)
    rw [Nat.testBit_lt_two_pow (Nat.lt_of_lt_of_le ha hp), Nat.testBit_lt_two_pow (Nat.lt_of_lt_of_le hb hp)]

theorem sumSet_lt16 (p : Nat → Bool) : sumSet p 16 < 65536 := sumSet_lt p 16

def with_ (s : Nat) (l : List Int) : Nat := s ||| mask l 0
def without (s : Nat) (l : List Int) : Nat := s &&& (65535 - mask l 0)
theorem with_lt {s : Nat} (hs : s < 65536) (l : List Int) : with_ s l < 65536 := or_lt hs (mask_lt l 0 (by omega))
theorem without_lt {s : Nat} (hs : s < 65536) (l : List Int) : without s l < 65536 := Nat.lt_of_le_of_lt Nat.and_le_left hs

theorem has_nat (s k : Nat) (hk : k < 16) : has s (k : Int) = s.testBit k := by
  have : may (k : Int) = true := may_mk (by omega)
  simp [has, this]

theorem with_bit (s : Nat) (l : List Int) (k : Nat) (hk : k < 16) : (with_ s l).testBit k = (s.testBit k || isIn l (k : Int)) := by
  rw [with_, Nat.testBit_or, mask_bit l k hk]; simp

theorem not_bit (m k : Nat) (hm : m < 65536) (hk : k < 16) : (65535 - m).testBit k = !m.testBit k := by
  have := Nat.testBit_two_pow_sub_succ (n := 16) (x := m) hm k
  have e : 2 ^ 16 - (m + 1) = 65535 - m := by omega
  rw [e] at this
  rw [this]; simp [hk]

theorem without_bit (s : Nat) (l : List Int) (k : Nat) (hk : k < 16) : (without s l).testBit k = (s.testBit k && !isIn l (k : Int)) := by
  rw [without, Nat.testBit_and, not_bit _ _ (mask_lt l 0 (by omega)) hk, mask_bit l k hk]; simp

def pWith (s : Nat) (l : List Int) (k : Nat) : Bool := has s (k : Int) || isIn l (k : Int)
def pWithout (s : Nat) (l : List Int) (k : Nat) : Bool := has s (k : Int) && !isIn l (k : Int)
def pRow (low high : Int) (k : Nat) : Bool := decide (low ≤ (k : Int)) && decide ((k : Int) ≤ high)

theorem ref_with {s : Nat} (hs : s < 65536) (l : List Int) : sumSet (pWith s l) 16 = with_ s l :=
  eq_of_bits (sumSet_lt16 _) (with_lt hs l) fun k hk => by
    rw [sumSet_bit, with_bit s l k hk, pWith, has_nat s k hk]; simp [hk]
theorem ref_without {s : Nat} (hs : s < 65536) (l : List Int) : sumSet (pWithout s l) 16 = without s l :=
  eq_of_bits (sumSet_lt16 _) (without_lt hs l) fun k hk => by
    rw [sumSet_bit, without_bit s l k hk, pWithout, has_nat s k hk]; simp [hk]

/-- The row as bits.Row makes it: with each number from 0 to 15 that lies between. -/
def rowTo (low high : Int) : Nat → Nat
  | 0 => 0
  | k + 1 => if pRow low high k then with_ (rowTo low high k) [(k : Int)] else rowTo low high k
theorem rowTo_lt (low high : Int) : ∀ k, rowTo low high k < 65536
  | 0 => by simp [rowTo]
  | k + 1 => by
    rw [rowTo]
    split
    · exact with_lt (rowTo_lt low high k) _
    · exact rowTo_lt low high k
theorem rowTo_bit (low high : Int) (j : Nat) (hj : j < 16) : ∀ k, (rowTo low high k).testBit j = (decide (j < k) && pRow low high j)
  | 0 => by simp [rowTo]
  | k + 1 => by
    have ih := rowTo_bit low high j hj k
    rw [rowTo]
    cases hp : pRow low high k
    · simp only [Bool.false_eq_true, if_false, ih]
      by_cases h : j = k
      · subst h; simp [hp]
      · have : decide (j < k + 1) = decide (j < k) := by rw [Bool.eq_iff_iff]; simp; omega
        rw [this]
    · simp only [if_true]
      rw [with_bit _ _ _ hj, ih]
      by_cases h : j = k
      · subst h; simp [isIn, hp]
      · have h1 : decide (j < k + 1) = decide (j < k) := by rw [Bool.eq_iff_iff]; simp; omega
        have h2 : ((j : Int) == (k : Int)) = false := by simp; omega
        rw [h1]; simp [isIn]
        intro e; omega
def row (low high : Int) : Nat := sumSet (pRow low high) 16
theorem row_lt (low high : Int) : row low high < 65536 := sumSet_lt16 _
theorem row_eq (low high : Int) : rowTo low high 16 = row low high :=
  eq_of_bits (rowTo_lt _ _ _) (row_lt _ _) fun k hk => by rw [rowTo_bit _ _ _ hk, row, sumSet_bit]

/-- The elements below k, in order. -/
def elems (s : Nat) : Nat → List Int
  | 0 => []
  | k + 1 => if has s (k : Int) then elems s k ++ [(k : Int)] else elems s k
theorem elems_length_le (s : Nat) : ∀ k, (elems s k).length ≤ k
  | 0 => by simp [elems]
  | k + 1 => by
    have := elems_length_le s k
    rw [elems]
    split <;> simp <;> omega

def part (s t : Nat) : Bool := (s &&& (65535 - t)) == 0
def partTo (s t : Nat) : Nat → Bool
  | 0 => true
  | k + 1 => partTo s t k && !(has s (k : Int) && !has t (k : Int))
theorem partTo_iff (s t : Nat) : ∀ k, k ≤ 16 → (partTo s t k = true ↔ ∀ j, j < k → s.testBit j = true → t.testBit j = true)
  | 0, _ => by simp [partTo]
  | k + 1, h => by
    rw [partTo, Bool.and_eq_true, partTo_iff s t k (by omega), has_nat s k (by omega), has_nat t k (by omega)]
    constructor
    · rintro ⟨h1, h2⟩ j hj hs
      by_cases e : j = k
      · subst e; simp [hs] at h2; exact h2
      · exact h1 j (by omega) hs
    · intro h1
      refine ⟨fun j hj => h1 j (by omega), ?_⟩
      cases hs : s.testBit k
      · simp
      · simp [h1 k (by omega) hs]
theorem part_iff {s t : Nat} (hs : s < 65536) (ht : t < 65536) : part s t = true ↔ ∀ j, j < 16 → s.testBit j = true → t.testBit j = true := by
  rw [part, beq_iff_eq]
  constructor
  · intro h j hj hb
    have := congrArg (·.testBit j) h
    simp only [Nat.testBit_and, not_bit t j ht hj, hb, Nat.zero_testBit] at this
    simpa using this
  · intro h
    apply eq_of_bits (Nat.lt_of_le_of_lt Nat.and_le_left hs) (by omega)
    intro k hk
    rw [Nat.testBit_and, not_bit t k ht hk, Nat.zero_testBit]
    cases hb : s.testBit k
    · simp
    · simp [h k hk hb]
theorem part_ref {s t : Nat} (hs : s < 65536) (ht : t < 65536) : partTo s t 16 = part s t := by
  rw [Bool.eq_iff_iff, partTo_iff s t 16 (by omega), part_iff hs ht]

/-- How many of the k lowest bits are set. -/
def ones (s : Nat) : Nat → Nat
  | 0 => 0
  | k + 1 => ones s k + if s.testBit k then 1 else 0
theorem ones_len (s : Nat) : ∀ k, k ≤ 16 → (elems s k).length = ones s k
  | 0, _ => rfl
  | k + 1, h => by
    rw [elems, ones, ← ones_len s k (by omega), has_nat s k (by omega)]
    split <;> simp
theorem ones_mod (s : Nat) : ∀ k, k ≤ 8 → ones (s % 256) k = ones s k
  | 0, _ => rfl
  | k + 1, h => by
    rw [ones, ones, ones_mod s k (by omega)]
    have : (s % 256).testBit k = s.testBit k := by
      rw [show (256 : Nat) = 2 ^ 8 from rfl, Nat.testBit_mod_two_pow]; simp; omega
    rw [this]
theorem ones_succ (s k : Nat) : ones s (k + 1) = ones s k + if s.testBit k then 1 else 0 := rfl
theorem ones_div (s : Nat) : ∀ k, ones s (8 + k) = ones s 8 + ones (s / 256) k
  | 0 => rfl
  | k + 1 => by
    have h : (s / 256).testBit k = s.testBit (8 + k) := by
      rw [show (256 : Nat) = 2 ^ 8 from rfl, ← Nat.shiftRight_eq_div_pow, Nat.testBit_shiftRight]
    have e := ones_div s k
    have e1 := ones_succ s (8 + k)
    have e2 := ones_succ (s / 256) k
    rw [← Nat.add_assoc, e1, e, e2, h, Nat.add_assoc]
theorem ones_le (s : Nat) : ∀ k, ones s k ≤ k
  | 0 => Nat.le_refl _
  | k + 1 => by
    have := ones_le s k
    rw [ones_succ]
    split <;> omega
theorem ones_split (s : Nat) : ones s 16 = ones (s / 256) 8 + ones (s % 256) 8 := by
  have h : ones s 16 = ones s 8 + ones (s / 256) 8 := ones_div s 8
  rw [h, ones_mod s 8 (by omega), Nat.add_comm]

theorem test_eq (s k : Nat) : (s / 2 ^ k % 2 == 1) = s.testBit k := by
  rw [Nat.testBit_eq_decide_div_mod_eq]
  rw [Bool.eq_iff_iff]; simp

end Go.Proofs.Ythnboggjlppopaa.Plain
