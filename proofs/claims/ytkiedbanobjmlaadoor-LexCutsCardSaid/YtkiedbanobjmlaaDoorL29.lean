/- LexCuts, plain: where tokens and errors stand; what is put behind an error. -/
import Derived.Test.YtkiedbanobjmlaaDoorL22
set_option linter.unusedSimpArgs false
set_option linter.unusedVariables false
namespace Go.Proofs.YtkiedbanobjmlaaDoor.Lx
open Go.RowKit
open Pl Fl

theorem take2_nl {s r : List UInt8} (hs : s ≠ []) (x : List UInt8) (hx : x.length = 2) (hb : x[1]? ≠ some 10) : ((s ++ 10 :: r).take 2 = x) = (s.take 2 = x) := by
  rcases s with _ | ⟨a, _ | ⟨b, t⟩⟩
  · exact absurd rfl hs
  · apply propext
    constructor
    · intro h
      subst h
      simp at hb
    · intro h
      subst h
      simp at hx
  · rfl
theorem runN_nl (p : UInt8 → Bool) (hp : p 10 = false) (r : List UInt8) : ∀ s : List UInt8, runN p (s ++ 10 :: r) = runN p s
  | [] => by rw [List.nil_append, runN_no hp, runN_nil]
  | c :: s => by
    rw [List.cons_append]
    cases h : p c
    · rw [runN_no h, runN_no h]
    · rw [runN_yes h, runN_yes h, runN_nl p hp r s]
theorem oneN_nl {s : List UInt8} (hs : s ≠ []) (r : List UInt8) : oneN (s ++ 10 :: r) = oneN s := by
  have htk : ∀ m, m ≤ s.length → (s ++ 10 :: r).take m = s.take m := fun m hm => List.take_append_of_le_length hm
  unfold oneN
  rw [head_app hs]
  dsimp only
  by_cases h1 : isL (s.head?.getD 0) = true
  · rw [if_pos h1, if_pos h1]
    rw [runN_nl isP rfl, htk _ (runN_le isP s)]
  rw [if_neg h1, if_neg h1]
  by_cases h2 : isD (s.head?.getD 0) = true
  · rw [if_pos h2, if_pos h2]
    rw [runN_nl isX rfl]
    have hle := runN_le isX s
    have h72 : ((s ++ 10 :: r)[runN isX s]? = some 72) = (s[runN isX s]? = some 72) := by
      rcases Nat.lt_or_ge (runN isX s) s.length with hlt | hge
      · rw [List.getElem?_append_left hlt]
      · have he : runN isX s = s.length := by omega
        rw [he, List.getElem?_append_right (Nat.le_refl _), Nat.sub_self, List.getElem?_eq_none (Nat.le_refl _)]
        simp
    have hn : (if (s ++ 10 :: r)[runN isX s]? = some 72 then runN isX s + 1 else runN isX s) = (if s[runN isX s]? = some 72 then runN isX s + 1 else runN isX s) := by
      by_cases h3 : s[runN isX s]? = some 72
      · rw [if_pos h3, if_pos (by rw [h72]; exact h3)]
      · rw [if_neg h3, if_neg (by rw [h72]; exact h3)]
    rw [hn, htk]
    by_cases h3 : s[runN isX s]? = some 72
    · rw [if_pos h3]
      obtain ⟨h5, _⟩ := List.getElem?_eq_some_iff.1 h3
      omega
    · rw [if_neg h3]; exact hle
  rw [if_neg h2, if_neg h2]
  by_cases h3 : s.head?.getD 0 = 34 ∨ s.head?.getD 0 = 39
  · rw [if_pos h3, if_pos h3]
    have hta : (s ++ 10 :: r).tail = s.tail ++ 10 :: r := by cases s <;> simp_all
    have hq : (fun x : UInt8 => x != s.head?.getD 0 && x != 10) 10 = false := by simp
    rw [hta, runN_nl _ hq]
    have htl : s.tail.length = s.length - 1 := List.length_tail
    have hne : 0 < s.length := List.length_pos_iff.2 hs
    have hle := runN_le (fun x => x != s.head?.getD 0 && x != 10) s.tail
    generalize runN (fun x => x != s.head?.getD 0 && x != 10) s.tail = n at *
    rcases Nat.lt_or_ge (1 + n) s.length with hlt | hge
    · rw [List.getElem?_append_left hlt, htk _ (by omega)]
    · have he : 1 + n = s.length := by omega
      rw [he, List.getElem?_append_right (Nat.le_refl _), Nat.sub_self, if_pos (.inr rfl), if_pos (.inl (List.getElem?_eq_none (Nat.le_refl _)))]
  rw [if_neg h3, if_neg h3]
  have hsym : symN (s ++ 10 :: r) = symN s := by
    unfold symN
    rw [head_app hs]
    have : (twos.any fun x => x.data.toList == (s ++ 10 :: r).take 2) = (twos.any fun x => x.data.toList == s.take 2) := by
      rw [Bool.eq_iff_iff]
      simp only [List.any_eq_true, beq_iff_eq]
      have hx : ∀ x ∈ twos, x.data.toList.length = 2 ∧ x.data.toList[1]? ≠ some 10 := by decide
      constructor
      · rintro ⟨x, hm, e⟩
        exact ⟨x, hm, ((take2_nl hs _ (hx x hm).1 (hx x hm).2) ▸ e.symm : s.take 2 = x.data.toList).symm⟩
      · rintro ⟨x, hm, e⟩
        exact ⟨x, hm, ((take2_nl hs _ (hx x hm).1 (hx x hm).2).symm ▸ e.symm : (s ++ 10 :: r).take 2 = x.data.toList).symm⟩
    rw [this]
  rw [hsym, htk _ (symN_le s hs)]
theorem item_nl {s : List UInt8} (hs : s ≠ []) (hb : item s ≠ .bad 43) (r : List UInt8) : item (s ++ 10 :: r) = item s := by
  unfold item at hb ⊢
  rw [head_app hs]
  have e2 := take2_nl (r := r) hs [40, 42] rfl (by simp)
  by_cases h1 : isB (s.head?.getD 0) = true
  · rw [if_pos h1, if_pos h1]
  rw [if_neg h1] at hb ⊢
  rw [if_neg h1]
  by_cases h2 : s.take 2 = [40, 42]
  · rw [if_pos h2] at hb
    rw [if_pos h2, if_pos (e2.symm ▸ h2)]
    have hc : cmt 0 0 s ≠ 0 := fun e => by rw [if_pos e] at hb; exact hb rfl
    rw [cmt_app _ _ _ _ _ (Nat.le_refl _) hc]
  · rw [if_neg h2, if_neg (fun e => h2 (e2 ▸ e)), oneN_nl hs]
/-- What stands behind an error makes no difference to it. -/
theorem scanF_nl (r : List UInt8) : ∀ (f i : Nat) (s : List UInt8) (j k : Nat), s.length < f → scanF f i s = .error (j, k) → k ≠ 43 → ∀ f', (s ++ 10 :: r).length < f' → scanF f' i (s ++ 10 :: r) = .error (j, k) := by
  intro f
  induction f with
  | zero => intro i s j k h; omega
  | succ f ih =>
    intro i s j k hl h h43 f' hf'
    obtain ⟨g, rfl⟩ : ∃ g, f' = g + 1 := ⟨f' - 1, by omega⟩
    unfold scanF at h ⊢
    by_cases hs : s = []
    · rw [if_pos hs] at h; cases h
    rw [if_neg hs] at h
    rw [if_neg (by simp)]
    obtain ⟨b1, b2⟩ := item_bd s hs
    cases hi : item s with
    | bad e =>
      rw [hi] at h
      injection h with h
      injection h with h1 h2
      subst h1 h2
      rw [item_nl hs (by rw [hi]; intro e; injection e with e; exact h43 e), hi]
    | blank n =>
      rw [hi] at h
      have hb := b1 n hi
      rw [item_nl hs (by rw [hi]; intro e; cases e), hi]
      dsimp only at h ⊢
      rw [List.drop_append_of_le_length hb.2]
      refine ih _ _ _ _ (by rw [List.length_drop]; omega) h h43 _ ?_
      simp only [List.length_append, List.length_cons, List.length_drop] at hf' ⊢
      omega
    | tok t n =>
      rw [hi] at h
      have hb := b2 t n hi
      rw [item_nl hs (by rw [hi]; intro e; cases e), hi]
      dsimp only at h ⊢
      rw [List.drop_append_of_le_length hb.2]
      cases e : scanF f (i + n) (s.drop n) with
      | ok l => rw [e] at h; cases h
      | error jk =>
        obtain ⟨j', k'⟩ := jk
        rw [e] at h
        injection h with h
        injection h with h1 h2
        subst h1 h2
        rw [ih _ _ _ _ (by rw [List.length_drop]; omega) e h43 g (by simp only [List.length_append, List.length_cons, List.length_drop] at hf' ⊢; omega)]
        rfl
theorem scanL_nl {s r : List UInt8} {j k : Nat} (h : scanL s = .error (j, k)) (hl : (s ++ 10 :: r).length ≤ 16384) (hk : k ≠ 43) : scanL (s ++ 10 :: r) = .error (j, k) := by
  have hs : s.length ≤ 16384 := by simp only [List.length_append, List.length_cons] at hl; omega
  unfold scanL at h ⊢
  rw [if_neg (by omega)] at h
  rw [if_neg (by omega)]
  exact scanF_nl r _ _ _ _ _ (by omega) h hk _ (by omega)
theorem scanF_pos : ∀ (f i : Nat) (s : List UInt8) (j k : Nat), s.length < f → scanF f i s = .error (j, k) → i ≤ j ∧ j < i + s.length := by
  intro f
  induction f with
  | zero => intro i s j k h; omega
  | succ f ih =>
    intro i s j k hl h
    unfold scanF at h
    by_cases hs : s = []
    · rw [if_pos hs] at h; cases h
    rw [if_neg hs] at h
    have hne : 0 < s.length := List.length_pos_iff.2 hs
    obtain ⟨b1, b2⟩ := item_bd s hs
    cases hi : item s with
    | bad e =>
      rw [hi] at h
      injection h with h
      injection h with h1 h2
      omega
    | blank n =>
      rw [hi] at h
      have hb := b1 n hi
      have := ih _ _ _ _ (by rw [List.length_drop]; omega) h
      rw [List.length_drop] at this
      omega
    | tok t n =>
      rw [hi] at h
      have hb := b2 t n hi
      dsimp only at h
      cases e : scanF f (i + n) (s.drop n) with
      | ok l => rw [e] at h; cases h
      | error jk =>
        obtain ⟨j', k'⟩ := jk
        rw [e] at h
        injection h with h
        injection h with h1 h2
        have := ih _ _ _ _ (by rw [List.length_drop]; omega) e
        rw [List.length_drop] at this
        omega
theorem scanL_pos {s : List UInt8} {j k : Nat} (h : scanL s = .error (j, k)) (hs : s.length ≤ 16384) : j < s.length := by
  unfold scanL at h
  rw [if_neg (by omega)] at h
  have := scanF_pos _ _ _ _ _ (by omega) h
  omega
/-- Tokens that stand one behind the other. -/
def Chain (hi : Nat) : Nat → List Tok → Prop
  | _, [] => True
  | a, t :: l => a ≤ t.2.1 ∧ t.2.1 ≤ t.2.2 ∧ t.2.2 ≤ hi ∧ (t.2.1 = t.2.2 ↔ t.1.kind = 0) ∧ Chain hi t.2.2 l
theorem Chain.mono {hi a b : Nat} {l : List Tok} (h : Chain hi b l) (hab : a ≤ b) : Chain hi a l := by
  cases l with
  | nil => trivial
  | cons t l => exact ⟨by have := h.1; omega, h.2⟩
theorem scanF_chain : ∀ (f i : Nat) (s : List UInt8) (l : List Tok), s.length < f → scanF f i s = .ok l → Chain (i + s.length) i l := by
  intro f
  induction f with
  | zero => intro i s j h; omega
  | succ f ih =>
    intro i s l hl h
    unfold scanF at h
    by_cases hs : s = []
    · rw [if_pos hs] at h
      injection h with h
      subst h
      exact ⟨Nat.le_refl _, Nat.le_refl _, Nat.le_add_right _ _, by simp [noTk], trivial⟩
    rw [if_neg hs] at h
    obtain ⟨b1, b2⟩ := item_bd s hs
    cases hi : item s with
    | bad e => rw [hi] at h; cases h
    | blank n =>
      rw [hi] at h
      have hb := b1 n hi
      have := ih _ _ _ (by rw [List.length_drop]; omega) h
      rw [List.length_drop, show i + n + (s.length - n) = i + s.length by omega] at this
      exact this.mono (by omega)
    | tok t n =>
      rw [hi] at h
      have hb := b2 t n hi
      dsimp only at h
      have ht : t.kind ≠ 0 := by
        unfold item at hi
        split at hi
        · cases hi
        · split at hi
          · split at hi <;> cases hi
          · split at hi
            · cases hi
            · rename_i t' n' e'
              injection hi with h1 h2
              subst h1
              exact (oneN_ok hs e').1.kind.1
      cases e : scanF f (i + n) (s.drop n) with
      | error jk => rw [e] at h; cases h
      | ok l' =>
        rw [e] at h
        injection h with h
        subst h
        have := ih _ _ _ (by rw [List.length_drop]; omega) e
        rw [List.length_drop, show i + n + (s.length - n) = i + s.length by omega] at this
        refine ⟨Nat.le_refl _, by show i ≤ i + n; omega, by show i + n ≤ i + s.length; omega, ?_, this⟩
        constructor
        · intro e; exact absurd e (show ¬ i = i + n by omega)
        · intro e; exact absurd e ht
theorem scanL_chain {s : List UInt8} {l : List Tok} (h : scanL s = .ok l) : Chain s.length 0 l := by
  unfold scanL at h
  split at h
  · cases h
  · have := scanF_chain _ _ _ _ (by omega) h
    rwa [Nat.zero_add] at this
/-! ### Places in a text -/
def ltN (a b : Nat × Nat) : Prop := a.1 < b.1 ∨ a.1 = b.1 ∧ a.2 < b.2
theorem ltN_trans {a b c : Nat × Nat} (h : ltN a b) (h' : ltN b c) : ltN a c := by unfold ltN at *; omega
theorem ltN_ne {a b : Nat × Nat} (h : ltN a b) : a ≠ b := by intro e; subst e; unfold ltN at h; omega
theorem ltN_step (a : Nat × Nat) (c : UInt8) : ltN a (stepN a c) := by unfold ltN stepN; split <;> simp
theorem ltN_fold : ∀ (l : List UInt8) (a : Nat × Nat), l ≠ [] → ltN a (l.foldl stepN a)
  | [], _, h => absurd rfl h
  | [c], a, _ => ltN_step a c
  | c :: d :: l, a, _ => ltN_trans (ltN_step a c) (ltN_fold (d :: l) (stepN a c) (by simp))
theorem behN_fold : ∀ (l : List UInt8) (a : Nat × Nat), 1 ≤ a.1 → 1 ≤ a.2 → a.1 + l.length ≤ 1000000 → a.2 + l.length ≤ 1000000 → behN a l = l.foldl stepN a
  | [], a, h1, h2, h3, h4 => by
    simp only [List.length_nil, Nat.add_zero] at h3 h4
    simp only [behN, List.foldl_nil]
    rw [if_pos (by unfold isN inN; simp; omega)]
  | c :: l, a, h1, h2, h3, h4 => by
    simp only [List.length_cons] at h3 h4
    rw [behN_cons (by unfold isN inN; simp; omega)]
    exact behN_fold l (stepN a c) (by unfold stepN; split <;> simp <;> omega) (by unfold stepN; split <;> simp <;> omega) (by unfold stepN; split <;> simp <;> omega) (by unfold stepN; split <;> simp <;> omega)
theorem idx_fold : ∀ (k : Nat) (l : List UInt8) (a : Nat × Nat) (j : Nat), k ≤ l.length → idx ((l.take k).foldl stepN a) a l j = some (j + k)
  | 0, l, a, j, _ => by simp [idx_here]
  | k + 1, [], a, j, h => by simp at h
  | k + 1, c :: l, a, j, h => by
    simp only [List.length_cons] at h
    rw [idx_next (ltN_ne (ltN_fold ((c :: l).take (k + 1)) a (by simp)))]
    rw [List.take_succ_cons, List.foldl_cons, idx_fold k l _ _ (by omega)]
    congr 1; omega
theorem at_fold {s : List UInt8} (h : s.length ≤ 10000) (k : Nat) : at_ s k = (s.take k).foldl stepN (1, 1) := by
  unfold at_
  exact behN_fold _ _ (by simp) (by simp) (by simp only [List.length_take]; omega) (by simp only [List.length_take]; omega)
theorem idx_at {s : List UInt8} (h : s.length ≤ 10000) {k : Nat} (hk : k ≤ s.length) : idx (at_ s k) (1, 1) s 0 = some k := by
  rw [at_fold h, idx_fold k s _ _ hk, Nat.zero_add]
theorem bef_at {s : List UInt8} (h : s.length ≤ 10000) {a b : Nat} (hb : b ≤ a) : befN (at_ s a) (at_ s b) = false := by
  have h1 := (at_is s (by omega) a).1
  have h2 := (at_is s (by omega) b).1
  rw [befN_in h1 h2]
  have e : at_ s b = at_ s a ∨ ltN (at_ s b) (at_ s a) := by
    rw [at_fold h, at_fold h]
    have ht : s.take a = s.take b ++ (s.drop b).take (a - b) := by rw [← List.take_add, show b + (a - b) = a by omega]
    rw [ht, List.foldl_append]
    by_cases hn : (s.drop b).take (a - b) = []
    · rw [hn]; exact .inl rfl
    · exact .inr (ltN_fold _ _ hn)
  rcases e with e | e
  · rw [e]; simp
  · unfold ltN at e
    simp
    omega
end Go.Proofs.YtkiedbanobjmlaaDoor.Lx
