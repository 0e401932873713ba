/- The walks of strings.HasPrefix; of the program's blank. -/
import Derived.Test.YtibpekgmgidebaaL1
set_option linter.unusedSimpArgs false
set_option linter.unusedVariables false
namespace Go.Proofs.Ytibpekgmgidebaa.Lx
open Go.RowKit
open Pl Fl

/-- Does a text begin with another? -/
def preB (s p : List UInt8) : Bool := s.take p.length == p
/-- What blank answers: how many bytes, an error's number. -/
def blankP (s : List UInt8) : Nat × Nat :=
  if 0 < runN isBl s then (runN isBl s, 0) else if preB s [40, 42] = true then (if cmt 0 0 s = 0 then (0, 43) else (cmt 0 0 s, 0)) else (0, 0)
theorem ext_drop (s : ByteArray) (k : Nat) : (s.extract k s.size).data.toList = s.data.toList.drop k := by
  rw [ByteArray.data_extract, Array.toList_extract, List.extract_eq_take_drop, List.take_of_length_le]
  rw [List.length_drop]; simp
theorem pre2 (a b x y : UInt8) (r : List UInt8) : preB (a :: b :: r) [x, y] = decide (a = x ∧ b = y) := by
  unfold preB
  rw [Bool.eq_iff_iff]
  simp
theorem pre1 (a x y : UInt8) : preB [a] [x, y] = false := by
  unfold preB
  simp
theorem pre0 (x y : UInt8) : preB [] [x, y] = false := rfl
end Go.Proofs.Ytibpekgmgidebaa.Lx
