/- The walk of the reference's number. -/
import Derived.Test.YtibpekgmgidebaaR3
set_option linter.unusedSimpArgs false
set_option linter.unusedVariables false
namespace Go.Proofs.Ytibpekgmgidebaa.Lx
open Go.RowKit
open Pl Fl

def mkNum (k v : Nat) : Tk := ⟨k, ⟨#[]⟩, v⟩
def numX (x : UInt8) (h s : List UInt8) : Option Tk :=
  if x = 72 then (valR 16 65535 h).map (mkNum 2)
  else if (valR 10 65535 s).isSome then (valR 10 65535 s).map (mkNum 2)
  else if x = 66 then (valR 8 65535 h).map (mkNum 2)
  else if x = 67 then (valR 8 255 h).map (mkNum 3) else none
attribute [local go_sem] run_store_complexL
/-- What digits and letters are. -/
def numN (s : List UInt8) : Option Tk := numX (s.getLast?.getD 0) s.dropLast s
theorem head_list (s : ByteArray) : (s.extract 0 (s.size - 1)).data.toList = s.data.toList.dropLast := by
  rw [ByteArray.data_extract, Array.toList_extract, List.extract_eq_take_drop, List.dropLast_eq_take]; simp
theorem last_list (s : ByteArray) (h : s.size - 1 < s.size) : s.data.toList.getLast? = some s[s.size - 1] := by
  rw [List.getLast?_eq_getElem?]
  have hl : s.data.toList.length - 1 < s.data.toList.length := by simp; omega
  rw [List.getElem?_eq_getElem hl]
  simp; rfl
theorem val_num (k m : Nat) : (mkNum k m).val (0, 0) (0, 0) = .agg #[.int .u8 k, .complex .f64 0 0, .complex .f64 0 0, .string ⟨#[]⟩, .int .i64 m] := by
  simp [mkNum, Tk.val, Tk.vals, C, fl_0]

end Go.Proofs.Ytibpekgmgidebaa.Lx
