/- HeapPlays: the reference's row of words, in plain words. -/
import Derived.Test.YtfdpcjdghmdkkaaH19
set_option linter.unusedSimpArgs false
set_option linter.unusedVariables false
namespace Go.Proofs.Ytfdpcjdghmdkkaa.Hp
open Go.RowKit Go.Sort
/-- f i is the number of the block over word i. -/
structure Rl (fr n : Nat) (ks : List Nat) (g : Nat → Bk) (f : Nat → Nat) : Prop where
  cov : ∀ k ∈ ks, ∀ i, (g k).1.val ≤ fr + i → fr + i < (g k).1.val + (g k).2 → f i = k
  own : ∀ i, i < n → f i ≠ 0 → f i ∈ ks ∧ (g (f i)).1.val ≤ fr + i ∧ fr + i < (g (f i)).1.val + (g (f i)).2
def zeros (f : Nat → Nat) : Nat → Nat
  | 0 => 0
  | i + 1 => zeros f i + if f i = 0 then 1 else 0
theorem zeros_le (f : Nat → Nat) : ∀ i, zeros f i ≤ i
  | 0 => Nat.le_refl _
  | i + 1 => by
    have := zeros_le f i
    unfold zeros
    split <;> omega
def cntB (p : Nat → Bool) : Nat → Nat
  | 0 => 0
  | i + 1 => cntB p i + if p i then 1 else 0
theorem cntB_or {p q : Nat → Bool} : ∀ {i : Nat}, (∀ x, x < i → p x = true → q x = true → False) → cntB (fun x => p x || q x) i = cntB p i + cntB q i
  | 0, _ => rfl
  | i + 1, h => by
    have ih := cntB_or (i := i) (fun x hx => h x (by omega))
    have h1 := h i (by omega)
    simp only [cntB, ih]
    rcases Bool.eq_false_or_eq_true (p i) with e1 | e1 <;> rcases Bool.eq_false_or_eq_true (q i) with e2 | e2 <;> simp only [e1, e2, Bool.or_self, Bool.or_true, Bool.true_or, Bool.or_false, Bool.false_or, if_true, if_false, Bool.false_eq_true] <;> first | omega | exact absurd e2 (fun h2 => h1 e1 h2)
theorem cntB_iv {a fr m : Nat} (h : fr ≤ a) : ∀ i, cntB (fun x => decide (a ≤ fr + x ∧ fr + x < a + m)) i = min (a + m) (fr + i) - min a (fr + i)
  | 0 => by simp only [cntB]; omega
  | i + 1 => by
    have ih := cntB_iv (a := a) (m := m) h i
    simp only [cntB, ih]
    by_cases e : a ≤ fr + i ∧ fr + i < a + m
    · rw [if_pos (decide_eq_true e)]; omega
    · rw [if_neg (by rw [decide_eq_false e]; exact Bool.false_ne_true)]; omega
theorem cntB_cov {fr n last : Nat} {ks : List Nat} {g : Nat → Bk} (h : OKSt fr n last ks g) : ∀ (L : List Nat), L.Nodup → (∀ k ∈ L, k ∈ ks) → cntB (cov g fr L) n = sumB g L
  | [], _, _ => by
    have : ∀ i, cntB (cov g fr []) i = 0 := by
      intro i
      induction i with
      | zero => rfl
      | succ i ih => simp only [cntB, ih]; rfl
    rw [this]; rfl
  | k :: L, hn, hs => by
    rw [List.nodup_cons] at hn
    have hk := hs k (List.mem_cons_self ..)
    have ih := cntB_cov h L hn.2 (fun x hx => hs x (List.mem_cons_of_mem _ hx))
    have e : cov g fr (k :: L) = fun x => decide ((g k).1.val ≤ fr + x ∧ fr + x < (g k).1.val + (g k).2) || cov g fr L x := by
      funext x; rfl
    rw [e, cntB_or, cntB_iv (h.lo k hk), ih]
    · have h1 := h.hi k hk
      have h2 := h.lo k hk
      have : sumB g (k :: L) = (g k).2 + sumB g L := by simp [sumB]
      rw [this]
      omega
    · intro x hx h1 h2
      have h1 := of_decide_eq_true h1
      unfold cov at h2
      rw [List.any_eq_true] at h2
      obtain ⟨k', hk', h3⟩ := h2
      have h3 := of_decide_eq_true h3
      have := h.dis k hk k' (hs k' (List.mem_cons_of_mem _ hk')) (fun e => hn.1 (e ▸ hk'))
      omega
theorem rl_cov {fr n last : Nat} {ks : List Nat} {g : Nat → Bk} {f : Nat → Nat} (h : OKSt fr n last ks g) (r : Rl fr n ks g f) {i : Nat} (hi : i < n) : cov g fr ks i = !decide (f i = 0) := by
  by_cases e : f i = 0
  · rw [decide_eq_true e]
    unfold cov
    rw [Bool.not_true, List.any_eq_false]
    intro k hk q
    have q := of_decide_eq_true q
    have := r.cov k hk i q.1 q.2
    have := h.key k hk
    omega
  · rw [decide_eq_false e]
    unfold cov
    rw [Bool.not_false, List.any_eq_true]
    obtain ⟨h1, h2, h3⟩ := r.own i hi e
    exact ⟨f i, h1, decide_eq_true ⟨h2, h3⟩⟩
theorem zeros_sum {fr n last : Nat} {ks : List Nat} {g : Nat → Bk} {f : Nat → Nat} (h : OKSt fr n last ks g) (r : Rl fr n ks g f) : zeros f n = n - sumB g ks := by
  have e : ∀ i, i ≤ n → zeros f i + cntB (cov g fr ks) i = i := by
    intro i
    induction i with
    | zero => intro _; rfl
    | succ i ih =>
      intro hi
      have := ih (by omega)
      simp only [zeros, cntB]
      rw [rl_cov h r (by omega)]
      by_cases q : f i = 0
      · rw [if_pos q, decide_eq_true q]; simp; omega
      · rw [if_neg q, decide_eq_false q]; simp; omega
  have h1 := e n (Nat.le_refl _)
  rw [cntB_cov h ks h.nd (fun k hk => hk)] at h1
  omega
section
variable {fr n last : Nat} {ks : List Nat} {g : Nat → Bk} {f : Nat → Nat}
theorem Rl.small (r : Rl fr n ks g f) (h : OKSt fr n last ks g) {i : Nat} (hi : i < n) : f i < 65536 := by
  by_cases e : f i = 0
  · omega
  · have := h.key _ (r.own i hi e).1
    have := h.lst
    omega
theorem Rl.start (g : Nat → Bk) : Rl fr n [] g (fun _ => 0) := ⟨nomem, fun i _ h => absurd rfl h⟩
/-- Which words are block k's. -/
theorem Rl.iff (r : Rl fr n ks g f) (h : OKSt fr n last ks g) {k : Nat} (hk : k ∈ ks) {i : Nat} (hi : i < n) : f i = k ↔ (g k).1.val ≤ fr + i ∧ fr + i < (g k).1.val + (g k).2 := by
  constructor
  · intro e
    have h0 := h.key k hk
    have := r.own i hi (by omega)
    rw [e] at this
    exact this.2
  · rintro ⟨h1, h2⟩
    exact r.cov k hk i h1 h2
theorem Rl.out (r : Rl fr n ks g f) {k : Nat} (hk : k ∉ ks) (h0 : k ≠ 0) {i : Nat} (hi : i < n) : f i ≠ k := by
  intro e
  subst e
  exact hk (r.own i hi h0).1
def freeF (f : Nat → Nat) (k i : Nat) : Nat → Nat := fun x => if x < i ∧ f x = k then 0 else f x
theorem Rl.freed (r : Rl fr n ks g f) (h : OKSt fr n last ks g) {k : Nat} (hk : k ∈ ks) : Rl fr n (ks.filter fun x => !decide (x = k)) g (freeF f k n) := by
  refine ⟨fun k' hk' i h1 h2 => ?_, fun i hi h0 => ?_⟩
  · rw [List.mem_filter] at hk'
    have hne : k' ≠ k := by simpa using hk'.2
    have e := r.cov k' hk'.1 i h1 h2
    unfold freeF
    rw [e, if_neg (fun q => hne q.2)]
  · unfold freeF at h0 ⊢
    by_cases q : i < n ∧ f i = k
    · rw [if_pos q] at h0; exact absurd rfl h0
    · rw [if_neg q] at h0 ⊢
      obtain ⟨h1, h2⟩ := r.own i hi h0
      refine ⟨?_, h2⟩
      rw [List.mem_filter]
      have : f i ≠ k := fun e => q ⟨hi, e⟩
      exact ⟨h1, by simpa using this⟩
/-- Words s .. j-1 are block k's. -/
def fillF (f : Nat → Nat) (s j k : Nat) : Nat → Nat := fun x => if s ≤ x ∧ x < j then k else f x
theorem Rl.made (r : Rl fr n ks g f) (h : OKSt fr n last ks g) {s m : Nat} (hf : Fits fr n ks g (fr + s) m) (hm : 1 ≤ m) : Rl fr n (ks ++ [last + 1]) (updB g (last + 1) (mkB (fr + s) m)) (fillF f s (s + m) (last + 1)) := by
  have ht := h.top
  obtain ⟨f1, f2, f3⟩ := hf
  have hat : (mkB (fr + s) m).1.val = fr + s := mkB_at (by omega)
  have old : ∀ k ∈ ks, updB g (last + 1) (mkB (fr + s) m) k = g k := fun k hk => by
    have hne : k ≠ last + 1 := fun q => h.new (q ▸ hk)
    unfold updB; rw [if_neg hne]
  have new : updB g (last + 1) (mkB (fr + s) m) (last + 1) = mkB (fr + s) m := by unfold updB; rw [if_pos rfl]
  refine ⟨fun k hk i h1 h2 => ?_, fun i hi h0 => ?_⟩
  · rcases List.mem_append.1 hk with hk | hk
    · rw [old k hk] at h1 h2
      have := f3 k hk
      unfold fillF
      rw [if_neg (by omega)]
      exact r.cov k hk i h1 h2
    · rw [List.mem_singleton] at hk
      subst hk
      rw [new, hat] at h1 h2
      unfold fillF
      have : (mkB (fr + s) m).2 = m := rfl
      rw [if_pos (by omega)]
  · unfold fillF at h0 ⊢
    by_cases q : s ≤ i ∧ i < s + m
    · rw [if_pos q] at h0 ⊢
      rw [new, hat]
      have : (mkB (fr + s) m).2 = m := rfl
      exact ⟨List.mem_append_right _ (List.mem_singleton.2 rfl), by omega, by omega⟩
    · rw [if_neg q] at h0 ⊢
      obtain ⟨h1, h2⟩ := r.own i hi h0
      rw [old _ h1]
      exact ⟨List.mem_append_left _ h1, h2⟩
/-- The words of a window are all free. -/
theorem Rl.fits_iff (r : Rl fr n ks g f) (h : OKSt fr n last ks g) {s m : Nat} (hm : 1 ≤ m) (hs : s + m ≤ n) : Fits fr n ks g (fr + s) m ↔ ∀ x, s ≤ x → x < s + m → f x = 0 := by
  constructor
  · rintro ⟨f1, f2, f3⟩ x h1 h2
    by_cases e : f x = 0
    · exact e
    · obtain ⟨h3, h4, h5⟩ := r.own x (by omega) e
      have := f3 _ h3
      omega
  · intro q
    refine ⟨by omega, by omega, fun k hk => ?_⟩
    have h1 := h.lo k hk
    have h2 := h.hi k hk
    have h3 := h.pos k hk
    have h4 := h.key k hk
    by_cases c1 : fr + s + m ≤ (g k).1.val
    · exact .inl c1
    · by_cases c2 : (g k).1.val + (g k).2 ≤ fr + s
      · exact .inr c2
      · -- they meet
        by_cases c3 : fr + s ≤ (g k).1.val
        · have e1 := r.cov k hk ((g k).1.val - fr) (by omega) (by omega)
          have e2 := q ((g k).1.val - fr) (by omega) (by omega)
          omega
        · have e1 := r.cov k hk s (by omega) (by omega)
          have e2 := q s (by omega) (by omega)
          omega
/-- The search of a window: free words stand ahead of word i, and no window ends before it. -/
structure Srch (f : Nat → Nat) (m i free : Nat) : Prop where
  le : free ≤ i
  lt : free < m
  run : ∀ x, i - free ≤ x → x < i → f x = 0
  stop : free = i ∨ f (i - free - 1) ≠ 0
  none_ : ∀ s, s + m ≤ i → ¬ ∀ x, s ≤ x → x < s + m → f x = 0
theorem Srch.start {m : Nat} (f : Nat → Nat) (hm : 1 ≤ m) : Srch f m 0 0 := ⟨Nat.le_refl _, hm, fun x _ h => by omega, .inl rfl, fun s h => by omega⟩
theorem Srch.taken {m i free : Nat} (s : Srch f m i free) (hi : f i ≠ 0) (hm : 1 ≤ m) : Srch f m (i + 1) 0 := by
  refine ⟨by omega, hm, fun x h1 h2 => by omega, .inr (by simpa using hi), fun s' hs q => ?_⟩
  rcases Nat.lt_or_ge (s' + m) (i + 1) with h | h
  · exact s.none_ s' (by omega) q
  · exact hi (q i (by omega) (by omega))
theorem Srch.more {m i free : Nat} (s : Srch f m i free) (hi : f i = 0) (hm : free + 1 ≠ m) : Srch f m (i + 1) (free + 1) := by
  have h1 := s.le
  have h2 := s.lt
  refine ⟨by omega, by omega, fun x q1 q2 => ?_, ?_, fun s' hs q => ?_⟩
  · by_cases e : x = i
    · rw [e]; exact hi
    · exact s.run x (by omega) (by omega)
  · rcases s.stop with e | e
    · exact .inl (by omega)
    · refine .inr ?_
      rw [show i + 1 - (free + 1) - 1 = i - free - 1 from by omega]
      exact e
  · rcases Nat.lt_or_ge (s' + m) (i + 1) with h | h
    · exact s.none_ s' (by omega) q
    · rcases s.stop with e | e
      · omega
      · by_cases e2 : free = i
        · omega
        · exact e (q (i - free - 1) (by omega) (by omega))
theorem Srch.found {m i free : Nat} (s : Srch f m i free) (hi : f i = 0) (hm : free + 1 = m) : (∀ x, i + 1 - m ≤ x → x < i + 1 - m + m → f x = 0) ∧ m ≤ i + 1 ∧ ∀ s', (∀ x, s' ≤ x → x < s' + m → f x = 0) → i + 1 - m ≤ s' := by
  have h1 := s.le
  refine ⟨fun x q1 q2 => ?_, by omega, fun s' q => ?_⟩
  · by_cases e : x = i
    · rw [e]; exact hi
    · exact s.run x (by omega) (by omega)
  · rcases Nat.lt_or_ge s' (i + 1 - m) with h | h
    · exact absurd q (s.none_ s' (by omega))
    · exact h
end
end Go.Proofs.Ytfdpcjdghmdkkaa.Hp
