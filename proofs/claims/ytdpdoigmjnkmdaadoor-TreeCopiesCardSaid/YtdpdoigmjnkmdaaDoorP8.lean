/- The walk of the reference's In. -/
import Derived.Test.YtdpdoigmjnkmdaaDoorP7
import Derived.StillTailTactics
set_option linter.unusedSimpArgs false
set_option linter.unusedVariables false
namespace Go.Proofs.YtdpdoigmjnkmdaaDoor.Pl
open Go.RowKit
open Fl

def inInt (o : Option Nat) : Int := match o with
  | some k => k
  | none => -1
theorem behN_one (a : Nat × Nat) (c : UInt8) (h1 : 1 ≤ a.1) (h2 : 1 ≤ a.2) (h3 : a.1 ≤ 1073741823) (h4 : a.2 ≤ 1073741823) : behN (ofN a.1 a.2) [c] = stepN a c := by
  rw [ofN_in (isR_mk (by omega) (by omega) (by omega) (by omega))]
  show behN (a.1, a.2) [c] = _
  have ha : isN (a.1, a.2) = true := by unfold isN inN; simp; omega
  rw [behN_cons ha]
  have hs : isN (stepN (a.1, a.2) c) = true := by
    unfold stepN isN inN
    split <;> simp <;> omega
  simp [behN, hs]
theorem stepN_ge (a : Nat × Nat) (c : UInt8) (h1 : 1 ≤ a.1) (h2 : 1 ≤ a.2) : 1 ≤ (stepN a c).1 ∧ 1 ≤ (stepN a c).2 := by unfold stepN; split <;> simp <;> omega
theorem one_byte (s : ByteArray) (k : Nat) (h : k < s.size) : (s.extract k (k + 1)).data.toList = [s[k]] := by
  have hl : k < s.data.toList.length := by simpa using h
  rw [ByteArray.data_extract, Array.toList_extract, List.extract_eq_take_drop, show k + 1 - k = 1 by omega, List.drop_eq_getElem_cons hl]
  rfl
theorem below_drew {w wr : World} (h : Below w.heap.size w wr) : Below w.heap.size w wr.drew := h.drew
theorem Two.drew {w : World} {b : Nat} {l c : Int} (h : Two w b l c) : Two w.drew b l c := h

end Go.Proofs.YtdpdoigmjnkmdaaDoor.Pl
