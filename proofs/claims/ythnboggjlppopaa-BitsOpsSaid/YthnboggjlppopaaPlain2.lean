/- Plain facts on sets that the law BitsAll asks: a set is all its elements; what is put in, taken out; parts. -/
import Derived.Test.YthnboggjlppopaaPlain
namespace Go.Proofs.Ythnboggjlppopaa.Plain

theorem elems_in (s j : Nat) (hj : j < 16) : ∀ k, k ≤ 16 → isIn (elems s k) (j : Int) = (decide (j < k) && s.testBit j)
  | 0, _ => by simp [elems, isIn]
  | k + 1, h => by
    have ih := elems_in s j hj k (by omega)
    rw [elems, has_nat s k (by omega)]
    cases hb : s.testBit k
    · simp only [Bool.false_eq_true, if_false, ih]
      by_cases e : j = k
      · subst e; simp [hb]
      · have : decide (j < k + 1) = decide (j < k) := by rw [Bool.eq_iff_iff]; simp; omega
        rw [this]
    · simp only [if_true, isIn_snoc, ih]
      by_cases e : j = k
      · subst e; simp [hb]
      · have h1 : decide (j < k + 1) = decide (j < k) := by rw [Bool.eq_iff_iff]; simp; omega
        have h2 : ((j : Int) == (k : Int)) = false := by simp; omega
        rw [h1, h2]; simp

theorem with_all {s : Nat} (hs : s < 65536) : with_ 0 (elems s 16) = s :=
  eq_of_bits (with_lt (by omega) _) hs fun k hk => by
    rw [with_bit _ _ _ hk, elems_in s k hk 16 (by omega)]; simp [hk]

theorem elems_bound (s : Nat) : ∀ k, ∀ z ∈ elems s k, 0 ≤ z ∧ z < (k : Int) ∧ has s z = true
  | 0, z, h => by simp [elems] at h
  | k + 1, z, h => by
    rw [elems] at h
    split at h
    · next hh =>
      simp only [List.mem_append, List.mem_singleton] at h
      rcases h with h | rfl
      · have := elems_bound s k z h; exact ⟨by omega, by omega, this.2.2⟩
      · exact ⟨by omega, by omega, hh⟩
    · have := elems_bound s k z h; exact ⟨by omega, by omega, this.2.2⟩

theorem elems_sorted (s : Nat) : ∀ k, (elems s k).Pairwise (· < ·)
  | 0 => by simp [elems]
  | k + 1 => by
    rw [elems]
    split
    · rw [List.pairwise_append]
      exact ⟨elems_sorted s k, by simp, fun a ha b hb => by
        have := elems_bound s k a ha
        simp at hb
        omega⟩
    · exact elems_sorted s k

theorem elems_get (s : Nat) (j : Nat) (h : j < (elems s 16).length) : has s ((elems s 16).getD j 0) = true := by
  have : (elems s 16).getD j 0 ∈ elems s 16 := by simp [List.getD, h]
  exact (elems_bound s 16 _ this).2.2
theorem elems_rise (s : Nat) (j : Nat) (h : j + 1 < (elems s 16).length) : (elems s 16).getD j 0 < (elems s 16).getD (j + 1) 0 := by
  have := List.pairwise_iff_getElem.1 (elems_sorted s 16) j (j + 1) (by omega) h (by omega)
  simpa [List.getD, h, show j < (elems s 16).length by omega] using this

theorem one_in (i : Int) (k : Nat) : isIn [i] (k : Int) = ((k : Int) == i) := by rw [Bool.eq_iff_iff]; simp [isIn]

theorem has_with_self (s : Nat) (i : Int) : has (with_ s [i]) i = may i := by
  cases hm : may i
  · simp [has, hm]
  · have h := may_yes hm
    obtain ⟨k, rfl⟩ := Int.eq_ofNat_of_zero_le h.1
    rw [has_nat _ _ (by omega), with_bit _ _ _ (by omega), one_in]; simp
theorem has_without_self (s : Nat) (i : Int) : has (without s [i]) i = false := by
  cases hm : may i
  · simp [has, hm]
  · have h := may_yes hm
    obtain ⟨k, rfl⟩ := Int.eq_ofNat_of_zero_le h.1
    rw [has_nat _ _ (by omega), without_bit _ _ _ (by omega), one_in]; simp
theorem has_with_other (s : Nat) (i k : Int) (h : i ≠ k) : has (with_ s [i]) k = has s k := by
  cases hm : may k
  · simp [has, hm]
  · have hk := may_yes hm
    obtain ⟨j, rfl⟩ := Int.eq_ofNat_of_zero_le hk.1
    rw [has_nat _ _ (by omega), has_nat _ _ (by omega), with_bit _ _ _ (by omega), one_in]
    have : ((j : Int) == i) = false := by simp; omega
    simp [this]
theorem has_without_other (s : Nat) (i k : Int) (h : i ≠ k) : has (without s [i]) k = has s k := by
  cases hm : may k
  · simp [has, hm]
  · have hk := may_yes hm
    obtain ⟨j, rfl⟩ := Int.eq_ofNat_of_zero_le hk.1
    rw [has_nat _ _ (by omega), has_nat _ _ (by omega), without_bit _ _ _ (by omega), one_in]
    have : ((j : Int) == i) = false := by simp; omega
    simp [this]

theorem part_without {s : Nat} (hs : s < 65536) (i : Int) : part (without s [i]) s = true := by
  rw [part_iff (without_lt hs _) hs]
  intro j hj h
  rw [without_bit _ _ _ hj] at h
  simp at h; exact h.1
theorem part_with {s : Nat} (hs : s < 65536) (i : Int) : part s (with_ s [i]) = true := by
  rw [part_iff hs (with_lt hs _)]
  intro j hj h
  rw [with_bit _ _ _ hj]
  simp [h]
theorem part_both {s t : Nat} (hs : s < 65536) (ht : t < 65536) : (part s t && part t s) = (s == t) := by
  rw [Bool.eq_iff_iff, Bool.and_eq_true, part_iff hs ht, part_iff ht hs, beq_iff_eq]
  constructor
  · rintro ⟨h1, h2⟩
    apply eq_of_bits hs ht
    intro k hk
    rw [Bool.eq_iff_iff]
    exact ⟨h1 k hk, h2 k hk⟩
  · rintro rfl
    exact ⟨fun _ _ h => h, fun _ _ h => h⟩

end Go.Proofs.Ythnboggjlppopaa.Plain
