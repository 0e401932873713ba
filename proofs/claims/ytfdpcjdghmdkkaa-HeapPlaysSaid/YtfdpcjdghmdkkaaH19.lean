/- HeapApart: the sum of what lives; Make in two ways; what is covered. -/
import Derived.Test.YtfdpcjdghmdkkaaH18
set_option linter.unusedSimpArgs false
set_option linter.unusedVariables false
namespace Go.Proofs.Ytfdpcjdghmdkkaa.Hp
open Go.RowKit Go.Sort
theorem chain_sum {e : Nat} : ∀ (l : List Bk) (a : Nat), Chain a l → (∀ x ∈ l, x.1.val + x.2 ≤ e) → a ≤ e → a + (l.map fun x => x.2).sum ≤ e
  | [], a, _, _, ha => by simpa using ha
  | x :: l, a, hc, hb, ha => by
    have hx := hb x (List.mem_cons_self ..)
    have := chain_sum l (x.1.val + x.2) hc.2 (fun y hy => hb y (List.mem_cons_of_mem _ hy)) hx
    have h1 := hc.1
    rw [List.map_cons, List.sum_cons]
    omega
theorem OKSt.sum_le {fr n last : Nat} {ks : List Nat} {g : Nat → Bk} (h : OKSt fr n last ks g) : sumB g ks ≤ n := by
  have hp : ((ks.map g).mergeSort (fun x y => decide (x.1.val ≤ y.1.val))).Perm (ks.map g) := List.mergeSort_perm _ _
  have hs : ((ks.map g).mergeSort (fun x y => decide (x.1.val ≤ y.1.val))).Pairwise fun x y => x.1.val ≤ y.1.val := by
    refine (List.pairwise_mergeSort (le := fun x y : Bk => decide (x.1.val ≤ y.1.val)) ?_ ?_ (ks.map g)).imp ?_
    · intro a b c h1 h2
      have := of_decide_eq_true h1
      have := of_decide_eq_true h2
      exact decide_eq_true (by omega)
    · intro a b
      rcases Nat.le_total a.1.val b.1.val with q | q
      · simp [q]
      · simp [q]
    · intro a b q
      exact of_decide_eq_true q
  generalize (ks.map g).mergeSort (fun x y => decide (x.1.val ≤ y.1.val)) = l at hp hs
  have mem : ∀ x ∈ l, ∃ k ∈ ks, g k = x := fun x hx => List.mem_map.1 (hp.mem_iff.1 hx)
  have hd : l.Pairwise fun x y => x.1.val + x.2 ≤ y.1.val ∨ y.1.val + y.2 ≤ x.1.val := by
    have : (ks.map g).Pairwise fun x y => x.1.val + x.2 ≤ y.1.val ∨ y.1.val + y.2 ≤ x.1.val := by
      rw [List.pairwise_map]
      refine (List.Pairwise.and_mem.1 h.nd).imp ?_
      rintro k k' ⟨h1, h2, h3⟩
      exact h.dis k h1 k' h2 h3
    exact (hp.pairwise_iff (fun {x y} q => q.symm)).2 this
  have hc : Chain fr l := chain_of l fr hs hd (fun x hx => by obtain ⟨k, hk, rfl⟩ := mem x hx; exact h.pos k hk) (fun x hx => by obtain ⟨k, hk, rfl⟩ := mem x hx; exact h.lo k hk)
  have := chain_sum l fr hc (fun x hx => by obtain ⟨k, hk, rfl⟩ := mem x hx; exact h.hi k hk) (Nat.le_add_right fr n)
  have e : (l.map fun x => x.2).sum = sumB g ks := by
    rw [List.Perm.sum_nat (hp.map (fun x => x.2)), List.map_map]
    rfl
  omega
/-- Make: a block more, or not. -/
theorem make_some {w w' : World} {fr n last : Nat} {ks : List Nat} {g : Nat → Bk} (S : StB w w' (w.heap.size + 1) w.heap.size fr n last ks g) (N : Int) (hN : N ≤ 9223372036854775807) :
    Calls Try.prog 19 #[.pointer (some ⟨w.heap.size + 1, 0, none⟩), .int .i64 N] w' fun e w'' =>
      (∃ a : Nat, e = .returned (.tuple #[.int .u16 ((last + 1 : Nat) : Int), .int .i64 (a : Nat), .int .i64 0]) ∧ StB w w'' (w.heap.size + 1) w.heap.size fr n (last + 1) (ks ++ [last + 1]) (updB g (last + 1) (mkB a N.toNat))) ∨
        (∃ er : Int, ¬ er = 0 ∧ e = .returned (.tuple #[.int .u16 0, .int .i64 0, .int .i64 er]) ∧ StB w w'' (w.heap.size + 1) w.heap.size fr n last ks g) := by
  by_cases h1 : N < 1
  · refine (make_small S.1.at_ h1).mono ?_
    rintro e w'' ⟨rfl, rfl⟩
    exact .inr ⟨2, by decide, rfl, S⟩
  · obtain ⟨m, rfl⟩ : ∃ m : Nat, N = m := ⟨N.toNat, by omega⟩
    refine (make_plain S.1.at_ S.1.ok (by omega) hN).mono ?_
    rintro e w'' ⟨hk, ⟨a, h2, h3, h4, h5, h6, h7⟩ | ⟨h2, h3, h4⟩⟩
    · exact .inl ⟨a, h5, ⟨h6, h7⟩, S.2.trans (hk.below S.2.size (Nat.le_succ _) (Nat.le_refl _))⟩
    · exact .inr ⟨4, by decide, h3, ⟨h4, S.1.ok⟩, S.2.trans (hk.below S.2.size (Nat.le_succ _) (Nat.le_refl _))⟩
theorem nd_same {l : List Nat} (h : l.Nodup) {i j : Nat} {hi : i < l.length} {hj : j < l.length} (e : l[i] = l[j]) : i = j := by
  have h2 := List.pairwise_iff_getElem.1 h
  rcases Nat.lt_trichotomy i j with q | q | q
  · exact absurd e (h2 i j hi hj q)
  · exact q
  · exact absurd e.symm (h2 j i hj hi q)
section
variable {fr n last : Nat} {ks L : List Nat} {g : Nat → Bk}
/-- A word of a block is in no block before it. -/
theorem cov_free (h : OKSt fr n last ks g) (hp : L.Perm ks) {j : Nat} (hj : j < L.length) {x : Nat} (h1 : (g L[j]).1.val ≤ fr + x) (h2 : fr + x < (g L[j]).1.val + (g L[j]).2) : cov g fr (L.take j) x = false := by
  unfold cov
  rw [List.any_eq_false]
  intro k hk
  have hkL : k ∈ L := List.mem_of_mem_take hk
  have hne : k ≠ L[j] := by
    obtain ⟨i, hi, e⟩ := List.mem_take_iff_getElem.1 hk
    have hnd : L.Nodup := (hp.nodup_iff).2 h.nd
    intro e2
    have := nd_same hnd (e.trans e2)
    omega
  have := h.dis k (hp.mem_iff.1 hkL) L[j] (hp.mem_iff.1 (List.getElem_mem hj)) hne
  simp only [decide_eq_true_eq]
  omega
/-- The numbers in order: none comes twice. -/
theorem live_lt (h : OKSt fr n last ks g) (hp : L.Perm ks) (hs : L.Pairwise (· ≤ ·)) {i j : Nat} (hj : j < L.length) (hij : i < j) : L[i]'(by omega) < L[j] := by
  have hnd : L.Nodup := (hp.nodup_iff).2 h.nd
  have h1 := List.pairwise_iff_getElem.1 hs i j (by omega) hj hij
  rcases Nat.lt_or_eq_of_le h1 with q | q
  · exact q
  · have := nd_same hnd q
    omega
theorem sum_take {j : Nat} (hj : j < L.length) : sumB g (L.take (j + 1)) = sumB g (L.take j) + (g L[j]).2 := by
  rw [List.take_succ_eq_append_getElem hj, sumB_add]
  simp [sumB]
theorem sum_take_le (h : OKSt fr n last ks g) (hp : L.Perm ks) (j : Nat) : sumB g (L.take j) ≤ n := by
  have h1 := h.sum_le
  rw [← sumB_perm hp, ← List.take_append_drop j L, sumB_add] at h1
  omega
end
/-- The words that were taken, and those of a block up to p. -/
def covP (tk : Nat → Bool) (a fr p : Nat) : Nat → Bool := fun y => tk y || decide (a ≤ fr + y ∧ fr + y < p)
theorem covP_start (tk : Nat → Bool) (a fr : Nat) : covP tk a fr a = tk := by
  funext y
  unfold covP
  rw [decide_eq_false (by omega), Bool.or_false]
theorem covP_step (tk : Nat → Bool) {a fr p x : Nat} (h1 : a ≤ p) (h2 : fr + x = p) : updT (covP tk a fr p) x = covP tk a fr (p + 1) := by
  funext y
  unfold updT covP
  rw [Bool.or_assoc]
  congr 1
  by_cases e : y = x
  · subst e
    rw [decide_eq_true (rfl : y = y), Bool.or_true, decide_eq_true (by omega)]
  · rw [decide_eq_false e, Bool.or_false]
    congr 1
    apply propext
    constructor <;> intro q <;> omega
end Go.Proofs.Ytfdpcjdghmdkkaa.Hp
