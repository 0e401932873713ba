/- What the reference's Scan answers: plain. -/
import Derived.Test.YtkiedbanobjmlaaDoorR8
set_option linter.unusedSimpArgs false
set_option linter.unusedVariables false
namespace Go.Proofs.YtkiedbanobjmlaaDoor.Lx
open Go.RowKit
open Pl Fl

def isB (c : UInt8) : Bool := c == 9 || c == 10 || c == 13 || c == 32
inductive Item where
  | blank (n : Nat)
  | tok (t : Tk) (n : Nat)
  | bad (e : Nat)
/-- What a text begins with. -/
def item (s : List UInt8) : Item :=
  if isB (s.head?.getD 0) then .blank 1
  else if s.take 2 = [40, 42] then (if cmt 0 0 s = 0 then .bad 43 else .blank (cmt 0 0 s))
  else match oneN s with
    | .error e => .bad e
    | .ok (t, n) => .tok t n
/-- A token and where it begins and ends: offsets in a source. -/
abbrev Tok := Tk × Nat × Nat
def scanF : Nat → Nat → List UInt8 → Except (Nat × Nat) (List Tok)
  | 0, i, _ => .error (i, 0)
  | f + 1, i, s => if s = [] then .ok [(noTk, i, i)] else match item s with
    | .bad e => .error (i, e)
    | .blank n => scanF f (i + n) (s.drop n)
    | .tok t n => (scanF f (i + n) (s.drop n)).map ((t, i, i + n) :: ·)
/-- All of a source. -/
def scanL (s : List UInt8) : Except (Nat × Nat) (List Tok) := if 16384 < s.length then .error (0, 5) else scanF (s.length + 1) 0 s

/-- The place behind so many bytes of a source. -/
def at_ (s : List UInt8) (i : Nat) : Nat × Nat := behN (1, 1) (s.take i)
def Tok.vals (s : List UInt8) (t : Tok) : List Value := t.1.vals (at_ s t.2.1) (at_ s t.2.2)
def flat (s : List UInt8) (l : List Tok) : List Value := l.flatMap (Tok.vals s)
theorem tok_vals_len (s : List UInt8) (t : Tok) : (Tok.vals s t).length = 5 := rfl
theorem flat_len (s : List UInt8) (l : List Tok) : (flat s l).length = l.length * 5 := by
  induction l with
  | nil => rfl
  | cons t l ih => simp only [flat, List.flatMap_cons, List.length_append, tok_vals_len, List.length_cons] at ih ⊢; omega
theorem flat_snoc (s : List UInt8) (l : List Tok) (t : Tok) : flat s (l ++ [t]) = flat s l ++ Tok.vals s t := by simp [flat]

/-! ### Places -/
theorem behN_app (p : Nat × Nat) (a b : List UInt8) : behN p (a ++ b) = behN (behN p a) b := by
  induction a generalizing p with
  | nil =>
    cases hp : isN p
    · rw [behN_out hp, behN_out (l := []) hp, behN_out (p := (0, 0)) rfl]
    · simp [behN, hp]
  | cons c a ih =>
    cases hp : isN p
    · rw [behN_out hp, behN_out hp, behN_out (p := (0, 0)) rfl]
    · rw [List.cons_append, behN_cons hp, behN_cons hp, ih]
theorem at_add (s : List UInt8) (i n : Nat) : behN (at_ s i) ((s.drop i).take n) = at_ s (i + n) := by
  unfold at_; rw [← behN_app, ← List.take_add]
theorem behN_bd (l : List UInt8) : ∀ (p : Nat × Nat) (m : Nat), isN p = true → p.1 + l.length ≤ m → p.2 + l.length ≤ m → m ≤ 1073741824 → isN (behN p l) = true ∧ (behN p l).1 ≤ m ∧ (behN p l).2 ≤ m := by
  induction l with
  | nil => intro p m hp h1 h2 hm; simp [behN, hp] at h1 h2 ⊢; omega
  | cons c l ih =>
    intro p m hp h1 h2 hm
    simp only [List.length_cons] at h1 h2
    obtain ⟨⟨q1, q2⟩, q3, q4⟩ := isN_bd hp
    rw [behN_cons hp]
    have hs : isN (stepN p c) = true ∧ (stepN p c).1 ≤ p.1 + 1 ∧ (stepN p c).2 ≤ p.2 + 1 := by
      unfold stepN
      split
      · exact ⟨by simp [isN, inN]; omega, by omega, by simp⟩
      · exact ⟨by simp [isN, inN]; omega, by simp, by simp⟩
    exact ih _ m hs.1 (by omega) (by omega) hm
theorem at_is (s : List UInt8) (hs : s.length ≤ 16384) (i : Nat) : isN (at_ s i) = true ∧ (at_ s i).1 ≤ 16385 ∧ (at_ s i).2 ≤ 16385 := by
  have hl : (s.take i).length ≤ 16384 := by rw [List.length_take]; omega
  exact behN_bd (s.take i) (1, 1) 16385 rfl (by simp only; omega) (by simp only; omega) (by omega)

/-! ### How much an item takes -/
theorem cmt_bd : ∀ (m : Nat) (d : Int) (i : Nat) (s : List UInt8), s.length ≤ m → cmt d i s = 0 ∨ (i + 2 ≤ cmt d i s ∧ cmt d i s ≤ i + s.length) := by
  intro m
  induction m with
  | zero => intro d i s h; have : s = [] := List.length_eq_zero_iff.1 (by omega); subst this; exact .inl rfl
  | succ m ih =>
    intro d i s h
    rcases s with _ | ⟨a, _ | ⟨b, r⟩⟩
    · exact .inl rfl
    · exact .inl rfl
    · simp only [List.length_cons] at h
      have e1 := ih (d + 1) (i + 2) r (by omega)
      have e2 := ih (d - 1) (i + 2) r (by omega)
      have e3 := ih d (i + 1) (b :: r) (by simp only [List.length_cons]; omega)
      unfold cmt
      simp only [List.length_cons] at e3 ⊢
      split
      · omega
      · split
        · split <;> omega
        · omega
theorem runN_pos {p : UInt8 → Bool} {s : List UInt8} (h : p (s.head?.getD 0) = true) (hs : s ≠ []) : 1 ≤ runN p s := by
  rcases s with _ | ⟨a, r⟩
  · exact absurd rfl hs
  · rw [runN_yes (by simpa using h)]; omega
theorem oneN_bd (s : List UInt8) (hs : s ≠ []) (t : Tk) (n : Nat) (h : oneN s = .ok (t, n)) : 1 ≤ n ∧ n ≤ s.length := by
  have hl : 1 ≤ s.length := by
    rcases s with _ | ⟨a, r⟩
    · exact absurd rfl hs
    · simp
  unfold oneN at h
  dsimp only at h
  split at h
  · rename_i hc
    have h1 := runN_pos (p := isP) (s := s) (by unfold isP; rw [hc]; rfl) hs
    have h2 := runN_le isP s
    split at h
    · cases h
    · injection h with h; injection h with h3 h4; omega
  · split at h
    · rename_i hc
      have h1 := runN_pos (p := isX) (s := s) (isX_of_isD hc) hs
      have h2 := runN_le isX s
      split at h
      · cases h
      · injection h with h; injection h with h3 h4
        split at h4
        · rename_i h72
          obtain ⟨h5, _⟩ := List.getElem?_eq_some_iff.1 h72
          omega
        · omega
    · split at h
      · split at h
        · cases h
        · rename_i hn
          injection h with h; injection h with h3 h4
          have : s[1 + runN (fun x => x != s.head?.getD 0 && x != 10) s.tail]? ≠ none := fun e => hn (.inl e)
          rw [ne_eq, List.getElem?_eq_none_iff] at this
          omega
      · have h1 := symN_le s hs
        split at h
        · cases h
        · injection h with h; injection h with h3 h4
          omega
theorem item_bd (s : List UInt8) (hs : s ≠ []) : (∀ n, item s = .blank n → 1 ≤ n ∧ n ≤ s.length) ∧ (∀ t n, item s = .tok t n → 1 ≤ n ∧ n ≤ s.length) := by
  have hl : 1 ≤ s.length := by
    rcases s with _ | ⟨a, r⟩
    · exact absurd rfl hs
    · simp
  have hb := cmt_bd s.length 0 0 s (Nat.le_refl _)
  constructor
  · intro n h
    unfold item at h
    split at h
    · injection h with h; omega
    · split at h
      · split at h
        · cases h
        · injection h with h; omega
      · split at h
        · cases h
        · cases h
  · intro t n h
    unfold item at h
    split at h
    · cases h
    · split at h
      · split at h
        · cases h
        · cases h
      · split at h
        · cases h
        · rename_i t' n' e
          injection h with h1 h2
          subst h1 h2
          exact oneN_bd s hs _ _ e
/-- Fuel enough is fuel enough. -/
theorem map_map_e {α β γ ε : Type} (f : α → β) (g : β → γ) (x : Except ε α) : (x.map f).map g = x.map (g ∘ f) := by cases x <;> rfl
theorem scanF_fuel : ∀ (m : Nat) (s : List UInt8) (f g i : Nat), s.length ≤ m → s.length < f → s.length < g → scanF f i s = scanF g i s := by
  intro m
  induction m with
  | zero =>
    intro s f g i hm hf hg
    have : s = [] := List.length_eq_zero_iff.1 (by omega)
    subst this
    rcases f with _ | f
    · simp at hf
    rcases g with _ | g
    · simp at hg
    rfl
  | succ m ih =>
    intro s f g i hm hf hg
    rcases f with _ | f
    · omega
    rcases g with _ | g
    · omega
    unfold scanF
    by_cases hs : s = []
    · rw [if_pos hs, if_pos hs]
    · rw [if_neg hs, if_neg hs]
      obtain ⟨h1, h2⟩ := item_bd s hs
      cases h : item s with
      | bad k => rfl
      | blank n =>
        have := h1 n h
        exact ih _ _ _ _ (by rw [List.length_drop]; omega) (by rw [List.length_drop]; omega) (by rw [List.length_drop]; omega)
      | tok t n =>
        have := h2 t n h
        dsimp only
        rw [ih (s.drop n) f g _ (by rw [List.length_drop]; omega) (by rw [List.length_drop]; omega) (by rw [List.length_drop]; omega)]
/-- What is scanned from a place of a source on. -/
def scanAt (src : List UInt8) (i : Nat) : Except (Nat × Nat) (List Tok) := scanF ((src.drop i).length + 1) i (src.drop i)
section
variable {src : List UInt8} {i : Nat}
theorem scanAt_end (h : src.length ≤ i) : scanAt src i = .ok [(noTk, i, i)] := by
  unfold scanAt; rw [List.drop_of_length_le h]; rfl
theorem drop_ne (h : i < src.length) : src.drop i ≠ [] := by
  intro e; have := congrArg List.length e; rw [List.length_drop] at this; simp at this; omega
theorem scanAt_step (h : i < src.length) : scanAt src i = match item (src.drop i) with
    | .bad e => .error (i, e)
    | .blank n => scanAt src (i + n)
    | .tok t n => (scanAt src (i + n)).map ((t, i, i + n) :: ·) := by
  have hs := drop_ne h
  obtain ⟨h1, h2⟩ := item_bd _ hs
  unfold scanAt
  rw [scanF, if_neg hs]
  cases hc : item (src.drop i) with
  | bad k => rfl
  | blank n =>
    have := h1 n hc
    simp only [List.drop_drop]
    refine scanF_fuel _ _ _ _ _ (Nat.le_refl _) ?_ (by omega)
    rw [List.length_drop] at this ⊢
    rw [List.length_drop]; omega
  | tok t n =>
    have := h2 t n hc
    simp only [List.drop_drop]
    rw [scanF_fuel _ _ (src.drop i).length ((src.drop (i + n)).length + 1) _ (Nat.le_refl _) ?_ (by omega)]
    rw [List.length_drop] at this ⊢
    rw [List.length_drop]; omega
theorem scanAt_bad (h : i < src.length) {k : Nat} (hc : item (src.drop i) = .bad k) : scanAt src i = .error (i, k) := by rw [scanAt_step h, hc]
theorem scanAt_blank (h : i < src.length) {n : Nat} (hc : item (src.drop i) = .blank n) : scanAt src i = scanAt src (i + n) := by rw [scanAt_step h, hc]
theorem scanAt_tok (h : i < src.length) {t : Tk} {n : Nat} (hc : item (src.drop i) = .tok t n) : scanAt src i = (scanAt src (i + n)).map ((t, i, i + n) :: ·) := by rw [scanAt_step h, hc]
theorem scanL_eq : scanL src = if 16384 < src.length then .error (0, 5) else scanAt src 0 := rfl
theorem item_in (h : i < src.length) : (∀ n, item (src.drop i) = .blank n → 1 ≤ n ∧ i + n ≤ src.length) ∧ (∀ t n, item (src.drop i) = .tok t n → 1 ≤ n ∧ i + n ≤ src.length) := by
  obtain ⟨h1, h2⟩ := item_bd _ (drop_ne h)
  rw [List.length_drop] at h1 h2
  exact ⟨fun n hn => by have := h1 n hn; omega, fun t n hn => by have := h2 t n hn; omega⟩
end
theorem oneN_err (s : List UInt8) (k : Nat) (h : oneN s = .error k) : k = 5 ∨ k = 40 ∨ k = 41 ∨ k = 42 := by
  unfold oneN at h
  dsimp only at h
  split at h
  · split at h
    · injection h with h; omega
    · cases h
  · split at h
    · split at h
      · injection h with h; omega
      · cases h
    · split at h
      · split at h
        · injection h with h; omega
        · cases h
      · split at h
        · injection h with h; omega
        · cases h
end Go.Proofs.YtkiedbanobjmlaaDoor.Lx
