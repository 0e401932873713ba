/- Texts and their tokens, places left out: a blank ends a token. Plain. -/
import Derived.Test.YtkiedbanobjmlaaDoorR9
set_option linter.unusedSimpArgs false
set_option linter.unusedVariables false
namespace Go.Proofs.YtkiedbanobjmlaaDoor.Lx
open Go.RowKit
open Pl Fl

theorem runN_app (p : UInt8 → Bool) (hp : p 32 = false) (r : List UInt8) : ∀ s : List UInt8, runN p (s ++ 32 :: r) = runN p s
  | [] => by rw [List.nil_append, runN_no hp, runN_nil]
  | c :: s => by
    rw [List.cons_append]
    cases h : p c
    · rw [runN_no h, runN_no h]
    · rw [runN_yes h, runN_yes h, runN_app p hp r s]
theorem runN_app' (p : UInt8 → Bool) (r : List UInt8) : ∀ s : List UInt8, runN p s < s.length → runN p (s ++ r) = runN p s
  | [], h => by simp [runN_nil] at h
  | c :: s, h => by
    rw [List.cons_append]
    cases hc : p c
    · rw [runN_no hc, runN_no hc]
    · rw [runN_yes hc] at h ⊢
      rw [runN_yes hc, runN_app' p r s (by simp only [List.length_cons] at h; omega)]
theorem cmt_app (r : List UInt8) : ∀ (m : Nat) (d : Int) (i : Nat) (s : List UInt8), s.length ≤ m → cmt d i s ≠ 0 → cmt d i (s ++ r) = cmt d i s := by
  intro m
  induction m with
  | zero => intro d i s h; have : s = [] := List.length_eq_zero_iff.1 (by omega); subst this; intro h; exact absurd rfl h
  | succ m ih =>
    intro d i s h hc
    rcases s with _ | ⟨a, _ | ⟨b, t⟩⟩
    · exact absurd rfl hc
    · exact absurd rfl hc
    · simp only [List.length_cons] at h
      rw [List.cons_append, List.cons_append]
      unfold cmt at hc ⊢
      split
      · rename_i h1
        rw [if_pos h1] at hc
        exact ih _ _ _ (by omega) hc
      · rename_i h1
        rw [if_neg h1] at hc
        split
        · rename_i h2
          rw [if_pos h2] at hc
          split
          · rfl
          · rename_i h3
            rw [if_neg h3] at hc
            exact ih _ _ _ (by omega) hc
        · rename_i h2
          rw [if_neg h2] at hc
          exact ih d (i + 1) (b :: t) (by simp only [List.length_cons]; omega) hc
theorem head_app {s r : List UInt8} (hs : s ≠ []) : (s ++ r).head? = s.head? := by cases s <;> simp_all
theorem take2_app {s r : List UInt8} (hs : s ≠ []) (x : List UInt8) (hx : x.length = 2) (hb : x[1]? ≠ some 32) : ((s ++ 32 :: r).take 2 = x) = (s.take 2 = x) := by
  rcases s with _ | ⟨a, _ | ⟨b, t⟩⟩
  · exact absurd rfl hs
  · apply propext
    constructor
    · intro h
      subst h
      simp at hb
    · intro h
      subst h
      simp at hx
  · rfl
theorem oneN_app {s : List UInt8} (hs : s ≠ []) {t : Tk} {n : Nat} (h : oneN s = .ok (t, n)) (r : List UInt8) : oneN (s ++ 32 :: r) = .ok (t, n) := by
  have hbd := oneN_bd s hs t n h
  have htk : ∀ m, m ≤ s.length → (s ++ 32 :: r).take m = s.take m := fun m hm => List.take_append_of_le_length hm
  unfold oneN at h ⊢
  rw [head_app hs]
  dsimp only at h ⊢
  by_cases h1 : isL (s.head?.getD 0) = true
  · rw [if_pos h1] at h ⊢
    rw [runN_app isP rfl, htk _ (runN_le isP s)]
    exact h
  rw [if_neg h1] at h ⊢
  by_cases h2 : isD (s.head?.getD 0) = true
  · rw [if_pos h2] at h ⊢
    rw [runN_app isX rfl]
    have hle := runN_le isX s
    have h72 : ((s ++ 32 :: r)[runN isX s]? = some 72) = (s[runN isX s]? = some 72) := by
      rcases Nat.lt_or_ge (runN isX s) s.length with hlt | hge
      · rw [List.getElem?_append_left hlt]
      · have he : runN isX s = s.length := by omega
        rw [he, List.getElem?_append_right (Nat.le_refl _), Nat.sub_self, List.getElem?_eq_none (Nat.le_refl _)]
        simp
    have hn : (if (s ++ 32 :: r)[runN isX s]? = some 72 then runN isX s + 1 else runN isX s) = (if s[runN isX s]? = some 72 then runN isX s + 1 else runN isX s) := by
      by_cases h3 : s[runN isX s]? = some 72
      · rw [if_pos h3, if_pos (by rw [h72]; exact h3)]
      · rw [if_neg h3, if_neg (by rw [h72]; exact h3)]
    rw [hn, htk]
    · exact h
    · by_cases h3 : s[runN isX s]? = some 72
      · rw [if_pos h3]
        obtain ⟨h5, _⟩ := List.getElem?_eq_some_iff.1 h3
        omega
      · rw [if_neg h3]; exact hle
  rw [if_neg h2] at h ⊢
  by_cases h3 : s.head?.getD 0 = 34 ∨ s.head?.getD 0 = 39
  · rw [if_pos h3] at h ⊢
    have hta : (s ++ 32 :: r).tail = s.tail ++ 32 :: r := by cases s <;> simp_all
    rw [hta]
    have htl : s.tail.length = s.length - 1 := List.length_tail
    split at h
    · cases h
    · rename_i h4
      have h5 : 1 + runN (fun x => x != s.head?.getD 0 && x != 10) s.tail < s.length := by
        rcases Nat.lt_or_ge (1 + runN (fun x => x != s.head?.getD 0 && x != 10) s.tail) s.length with hlt | hge
        · exact hlt
        · exact absurd (.inl (List.getElem?_eq_none hge)) h4
      rw [runN_app' _ _ _ (by omega)]
      rw [List.getElem?_append_left h5, if_neg h4, htk _ (by omega)]
      exact h
  rw [if_neg h3] at h ⊢
  have hsym : symN (s ++ 32 :: r) = symN s := by
    unfold symN
    rw [head_app hs]
    have : (twos.any fun x => x.data.toList == (s ++ 32 :: r).take 2) = (twos.any fun x => x.data.toList == s.take 2) := by
      rw [Bool.eq_iff_iff]
      simp only [List.any_eq_true, beq_iff_eq]
      have hx : ∀ x ∈ twos, x.data.toList.length = 2 ∧ x.data.toList[1]? ≠ some 32 := by decide
      constructor
      · rintro ⟨x, hm, e⟩
        exact ⟨x, hm, ((take2_app hs _ (hx x hm).1 (hx x hm).2) ▸ e.symm : s.take 2 = x.data.toList).symm⟩
      · rintro ⟨x, hm, e⟩
        exact ⟨x, hm, ((take2_app hs _ (hx x hm).1 (hx x hm).2).symm ▸ e.symm : (s ++ 32 :: r).take 2 = x.data.toList).symm⟩
    rw [this]
  rw [hsym]
  split at h
  · cases h
  · rename_i h4
    rw [if_neg h4, htk _ (symN_le s hs)]
    exact h
theorem item_app {s : List UInt8} (hs : s ≠ []) (hb : ∀ k, item s ≠ .bad k) (r : List UInt8) : item (s ++ 32 :: r) = item s := by
  unfold item at hb ⊢
  rw [head_app hs]
  have e2 := take2_app (r := r) hs [40, 42] rfl (by simp)
  by_cases h1 : isB (s.head?.getD 0) = true
  · rw [if_pos h1, if_pos h1]
  rw [if_neg h1] at hb ⊢
  rw [if_neg h1]
  by_cases h2 : s.take 2 = [40, 42]
  · rw [if_pos h2] at hb
    rw [if_pos h2, if_pos (e2.symm ▸ h2)]
    have hc : cmt 0 0 s ≠ 0 := fun e => by rw [if_pos e] at hb; exact hb _ rfl
    rw [cmt_app _ _ _ _ _ (Nat.le_refl _) hc]
  · rw [if_neg h2] at hb
    rw [if_neg h2, if_neg (fun e => h2 (e2 ▸ e))]
    cases h3 : oneN s with
    | error k => rw [h3] at hb; exact absurd rfl (hb k)
    | ok x =>
      obtain ⟨t, n⟩ := x
      rw [oneN_app hs h3]
/-! ### Texts as rows of tokens, without places -/
def lexF : Nat → List UInt8 → Option (List Tk)
  | 0, _ => none
  | f + 1, s => if s = [] then some [] else match item s with
    | .bad _ => none
    | .blank n => lexF f (s.drop n)
    | .tok t n => (lexF f (s.drop n)).map (t :: ·)
def lex (s : List UInt8) : Option (List Tk) := lexF (s.length + 1) s
theorem lexF_fuel : ∀ (m : Nat) (s : List UInt8) (f g : Nat), s.length ≤ m → s.length < f → s.length < g → lexF f s = lexF g s := by
  intro m
  induction m with
  | zero =>
    intro s f g hm hf hg
    have : s = [] := List.length_eq_zero_iff.1 (by omega)
    subst this
    rcases f with _ | f
    · simp at hf
    rcases g with _ | g
    · simp at hg
    rfl
  | succ m ih =>
    intro s f g hm hf hg
    rcases f with _ | f
    · omega
    rcases g with _ | g
    · omega
    unfold lexF
    by_cases hs : s = []
    · rw [if_pos hs, if_pos hs]
    · rw [if_neg hs, if_neg hs]
      obtain ⟨h1, h2⟩ := item_bd s hs
      cases h : item s with
      | bad k => rfl
      | blank n =>
        have := h1 n h
        exact ih _ _ _ (by rw [List.length_drop]; omega) (by rw [List.length_drop]; omega) (by rw [List.length_drop]; omega)
      | tok t n =>
        have := h2 t n h
        dsimp only
        rw [ih (s.drop n) f g (by rw [List.length_drop]; omega) (by rw [List.length_drop]; omega) (by rw [List.length_drop]; omega)]
theorem lex_nil : lex [] = some [] := rfl
theorem lex_step {s : List UInt8} (hs : s ≠ []) : lex s = match item s with
    | .bad _ => none
    | .blank n => lex (s.drop n)
    | .tok t n => (lex (s.drop n)).map (t :: ·) := by
  obtain ⟨h1, h2⟩ := item_bd s hs
  unfold lex
  rw [lexF, if_neg hs]
  cases h : item s with
  | bad k => rfl
  | blank n =>
    have := h1 n h
    exact lexF_fuel _ _ _ _ (Nat.le_refl _) (by rw [List.length_drop]; omega) (by omega)
  | tok t n =>
    have := h2 t n h
    dsimp only
    rw [lexF_fuel _ (s.drop n) s.length ((s.drop n).length + 1) (Nat.le_refl _) (by rw [List.length_drop]; omega) (by omega)]
theorem lex_blank {s : List UInt8} (hs : s ≠ []) {n : Nat} (h : item s = .blank n) : lex s = lex (s.drop n) := by rw [lex_step hs, h]
theorem lex_tok {s : List UInt8} (hs : s ≠ []) {t : Tk} {n : Nat} (h : item s = .tok t n) : lex s = (lex (s.drop n)).map (t :: ·) := by rw [lex_step hs, h]
theorem lex_sp (r : List UInt8) : lex (32 :: r) = lex r := by rw [lex_blank (s := 32 :: r) (n := 1) (by simp) (by rfl)]; rfl
/-- What stands ahead of a blank is read by itself. -/
theorem lex_app (r : List UInt8) : ∀ (m : Nat) (s : List UInt8) (l : List Tk), s.length ≤ m → lex s = some l → lex (s ++ 32 :: r) = (lex r).map (l ++ ·) := by
  intro m
  induction m with
  | zero =>
    intro s l hm h
    have : s = [] := List.length_eq_zero_iff.1 (by omega)
    subst this
    cases h
    rw [List.nil_append, lex_sp]
    cases lex r <;> rfl
  | succ m ih =>
    intro s l hm h
    by_cases hs : s = []
    · subst hs
      cases h
      rw [List.nil_append, lex_sp]
      cases lex r <;> rfl
    · obtain ⟨h1, h2⟩ := item_bd s hs
      have hne : s ++ 32 :: r ≠ [] := by simp
      have hb : ∀ k, item s ≠ .bad k := fun k e => by rw [lex_step hs, e] at h; cases h
      have hi := item_app hs hb r
      cases e : item s with
      | bad k => exact absurd e (hb k)
      | blank n =>
        have := h1 n e
        rw [lex_blank hs e] at h
        rw [lex_blank hne (hi.trans e), List.drop_append_of_le_length this.2]
        exact ih _ l (by rw [List.length_drop]; omega) h
      | tok t n =>
        have := h2 t n e
        rw [lex_tok hs e] at h
        rw [lex_tok hne (hi.trans e), List.drop_append_of_le_length this.2]
        cases e2 : lex (s.drop n) with
        | none => rw [e2] at h; cases h
        | some l2 =>
          rw [e2] at h
          cases h
          rw [ih _ l2 (by rw [List.length_drop]; omega) e2]
          cases lex r <;> rfl
theorem scan_lexF : ∀ (f i : Nat) (s : List UInt8), s.length < f → lexF f s = match scanF f i s with
    | .error _ => none
    | .ok l => some (l.dropLast.map (·.1)) := by
  intro f
  induction f with
  | zero => intro i s h; omega
  | succ f ih =>
    intro i s h
    unfold lexF scanF
    by_cases hs : s = []
    · rw [if_pos hs, if_pos hs]; rfl
    · rw [if_neg hs, if_neg hs]
      obtain ⟨h1, h2⟩ := item_bd s hs
      cases e : item s with
      | bad k => rfl
      | blank n =>
        have := h1 n e
        exact ih _ _ (by rw [List.length_drop]; omega)
      | tok t n =>
        have := h2 t n e
        dsimp only
        rw [ih (i + n) (s.drop n) (by rw [List.length_drop]; omega)]
        cases e2 : scanF f (i + n) (s.drop n) with
        | error k => rfl
        | ok l =>
          rcases l with _ | ⟨x, l⟩
          · exfalso
            have hne : ∀ (f i : Nat) (s : List UInt8), scanF f i s ≠ .ok [] := by
              intro f
              induction f with
              | zero => intro i s; simp [scanF]
              | succ f ih =>
                intro i s
                unfold scanF
                split
                · simp
                · split
                  · simp
                  · exact ih _ _
                  · rename_i t n _
                    intro e
                    cases e3 : scanF f (i + n) (s.drop n) with
                    | error k => rw [e3] at e; cases e
                    | ok l => rw [e3] at e; injection e with e; cases e
            exact hne _ _ _ e2
          · rfl
/-- The tokens of a source that is not too long. -/
theorem scan_lex {s : List UInt8} (h : s.length ≤ 16384) : lex s = match scanL s with
    | .error _ => none
    | .ok l => some (l.dropLast.map (·.1)) := by
  unfold scanL
  rw [if_neg (by omega)]
  exact scan_lexF _ _ _ (by omega)
end Go.Proofs.YtkiedbanobjmlaaDoor.Lx
