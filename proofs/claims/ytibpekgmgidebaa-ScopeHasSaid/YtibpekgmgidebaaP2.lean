/- The walks of Line, Column, step, Behind, Before. -/
import Derived.Test.YtibpekgmgidebaaP1
set_option linter.unusedSimpArgs false
set_option linter.unusedVariables false
namespace Go.Proofs.Ytibpekgmgidebaa.Pl
open Go.RowKit
open Fl

theorem isN_part {p : Nat × Nat} (h : isN p = true) : inN p.1 = true ∧ inN p.2 = true := by simpa [isN] using h
theorem isN_bd {p : Nat × Nat} (h : isN p = true) : (1 ≤ p.1 ∧ p.1 ≤ 1073741824) ∧ (1 ≤ p.2 ∧ p.2 ≤ 1073741824) := ⟨inN_in (isN_part h).1, inN_in (isN_part h).2⟩

def stepN (p : Nat × Nat) (c : UInt8) : Nat × Nat := if c.toNat = 10 then (p.1 + 1, 1) else (p.1, p.2 + 1)
theorem stepN_bd {p : Nat × Nat} (h : isN p = true) (c : UInt8) : (stepN p c).1 ≤ 1073741825 ∧ (stepN p c).2 ≤ 1073741825 := by
  have := isN_bd h
  unfold stepN; split <;> simp <;> omega
/-- The place behind a text. -/
def behN (p : Nat × Nat) : List UInt8 → Nat × Nat
  | [] => if isN p then p else (0, 0)
  | c :: l => if isN p then behN (stepN p c) l else (0, 0)
theorem behN_out {p : Nat × Nat} (h : isN p = false) : ∀ l, behN p l = (0, 0)
  | [] => by simp [behN, h]
  | c :: l => by simp [behN, h]
theorem behN_cons {p : Nat × Nat} (h : isN p = true) (c : UInt8) (l : List UInt8) : behN p (c :: l) = behN (stepN p c) l := by simp [behN, h]
theorem drop_cons (s : ByteArray) (k : Nat) (h : k < s.size) : s.data.toList.drop k = s[k] :: s.data.toList.drop (k + 1) := by
  have hl : k < s.data.toList.length := by simpa using h
  rw [List.drop_eq_getElem_cons hl]
  rfl

end Go.Proofs.Ytibpekgmgidebaa.Pl
