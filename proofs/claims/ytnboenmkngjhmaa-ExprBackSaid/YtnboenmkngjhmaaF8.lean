/- Two operators, without parentheses. Plain. -/
import Derived.Test.YtnboenmkngjhmaaF6
set_option linter.unusedSimpArgs false
set_option linter.unusedVariables false
namespace Go.Proofs.Ytnboenmkngjhmaa.Ex
open Tr (Nd Fo)
open Lx (Tk noTk)

def sideTx (p q : Nat) : ByteArray := ⟨#[117, 32]⟩ ++ opB p ++ ⟨#[32, 118, 32]⟩ ++ opB q ++ ⟨#[32, 119]⟩
def sideN (p q : Nat) : Nat := if opLev p = 0 ∧ opLev q = 0 then 3 else 5
/-- What the law asks of the tree. -/
def sideOK (p q : Nat) : Bool := match exprP (rowP (sideTx p q).data.toList) 0 with
  | .ok ((d, .node d0 k0 (.node d1 k1 .no)), n) => decide (d.kind = 11) && decide (n = sideN p q) &&
    (if opLev p = 0 ∧ opLev q = 0 then decide (d.name = opB p)
     else decide ((decide (d.name = opB q)) = (decide (opLev q ≤ opLev p) || decide (opB p = opB q))) && decide (decide (d0.kind = 11) = decide (opLev q ≤ opLev p)) && decide (decide (d1.kind = 11) = !decide (opLev q ≤ opLev p)))
  | _ => false
set_option maxRecDepth 100000 in
theorem side_all : ∀ p, p < 15 → ∀ q, q < 15 → sideOK p q = true := by decide +kernel
theorem side_some {p q : Nat} (hp : p < 15) (hq : q < 15) : ∃ d d0 k0 d1 k1, exprP (rowP (sideTx p q).data.toList) 0 = .ok ((d, .node d0 k0 (.node d1 k1 .no)), sideN p q) ∧ d.kind = 11 ∧
    ((opLev p = 0 ∧ opLev q = 0) → d.name = opB p) ∧
    (¬ (opLev p = 0 ∧ opLev q = 0) → (decide (d.name = opB q)) = (decide (opLev q ≤ opLev p) || decide (opB p = opB q)) ∧ decide (d0.kind = 11) = decide (opLev q ≤ opLev p) ∧ decide (d1.kind = 11) = !decide (opLev q ≤ opLev p)) := by
  have h := side_all p hp q hq
  unfold sideOK at h
  split at h
  · rename_i d d0 k0 d1 k1 n e
    simp only [Bool.and_eq_true, decide_eq_true_eq] at h
    obtain ⟨⟨h1, h2⟩, h3⟩ := h
    rw [h2] at e
    refine ⟨d, d0, k0, d1, k1, e, h1, fun h4 => ?_, fun h4 => ?_⟩
    · rw [if_pos h4] at h3; exact of_decide_eq_true h3
    · rw [if_neg h4] at h3
      simp only [Bool.and_eq_true, decide_eq_true_eq] at h3
      exact ⟨h3.1.1, h3.1.2, h3.2⟩
  · cases h
end Go.Proofs.Ytnboenmkngjhmaa.Ex
