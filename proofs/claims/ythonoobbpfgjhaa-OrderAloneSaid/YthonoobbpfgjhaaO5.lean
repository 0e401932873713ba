/- The reference's insertion sort, as a function of places. Plain. -/
import Derived.Test.YthonoobbpfgjhaaO4
set_option linter.unusedVariables false
namespace Go.Proofs.Ythonoobbpfgjhaa.Od
/-- Up to i all rises, but for k, which is not above those behind it. -/
structure SI (f : Nat → Nm) (i k : Nat) : Prop where
  le : k ≤ i
  rest : ∀ a b, a < b → b ≤ i → a ≠ k → b ≠ k → f a ≤ f b
  at_ : ∀ b, k < b → b ≤ i → f k ≤ f b
def swapF (f : Nat → Nm) (k : Nat) : Nat → Nm := fun x => if x = k then f (k + 1) else if x = k + 1 then f k else f x
theorem SI.swap {f : Nat → Nm} {i k : Nat} (h : SI f i (k + 1)) (hlt : f (k + 1) < f k) : SI (swapF f k) i k := by
  have h0 : swapF f k k = f (k + 1) := by simp [swapF]
  have h1 : swapF f k (k + 1) = f k := by simp [swapF]
  have h2 : ∀ x, x ≠ k → x ≠ k + 1 → swapF f k x = f x := fun x e1 e2 => by simp [swapF, e1, e2]
  refine ⟨by have := h.le; omega, fun a b hab hb ha hbk => ?_, fun b hk hb => ?_⟩
  · by_cases e : b = k + 1
    · subst e
      rw [h1, h2 a ha (by omega)]
      exact h.rest a k (by omega) (by omega) (by omega) (by omega)
    · by_cases e2 : a = k + 1
      · subst e2
        rw [h1, h2 b hbk e]
        exact h.rest k b (by omega) hb (by omega) e
      · rw [h2 a ha e2, h2 b hbk e]
        exact h.rest a b hab hb e2 e
  · rw [h0]
    by_cases e : b = k + 1
    · subst e; rw [h1]; exact List.le_of_lt hlt
    · rw [h2 b (by omega) e]; exact h.at_ b (by omega) hb
theorem SI.stop {f : Nat → Nm} {i k : Nat} (h : SI f i k) (hs : k = 0 ∨ ¬ f k < f (k - 1)) : ∀ a b, a < b → b ≤ i → f a ≤ f b := by
  intro a b hab hb
  by_cases ea : a = k
  · subst ea; exact h.at_ b hab hb
  · by_cases eb : b = k
    · subst eb
      rcases hs with hs | hs
      · omega
      · have h1 : f (b - 1) ≤ f b := List.not_lt.1 hs
        by_cases e : a = b - 1
        · exact e ▸ h1
        · exact List.le_trans (h.rest a (b - 1) (by omega) (by omega) ea (by omega)) h1
    · exact h.rest a b hab hb ea eb
theorem SI.start {f : Nat → Nm} {i : Nat} (h : ∀ a b, a < b → b < i → f a ≤ f b) : SI f i i :=
  ⟨Nat.le_refl _, fun a b hab hb _ hbi => h a b hab (by omega), fun b h1 h2 => absurd h1 (by omega)⟩
end Go.Proofs.Ythonoobbpfgjhaa.Od
