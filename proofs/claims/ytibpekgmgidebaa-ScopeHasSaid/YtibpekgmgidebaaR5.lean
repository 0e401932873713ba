/- The walk of the reference's symbol. -/
import Derived.Test.YtibpekgmgidebaaR4
import Derived.Deep.Cut
import Derived.BigQuiet
import Derived.Deep.RegionHeld3
set_option linter.unusedSimpArgs false
set_option linter.unusedVariables false
namespace Go.Proofs.Ytibpekgmgidebaa.Lx
open Go.RowKit
open Pl Fl

def twos : List ByteArray := [⟨#[58, 61]⟩, ⟨#[60, 62]⟩, ⟨#[60, 61]⟩, ⟨#[62, 61]⟩, ⟨#[46, 46]⟩]
def ones : List UInt8 := [43, 45, 42, 47, 126, 46, 44, 59, 40, 91, 123, 94, 61, 35, 60, 62, 58, 41, 93, 125, 124, 38]
def onesB : ByteArray := ⟨#[43, 45, 42, 47, 126, 46, 44, 59, 40, 91, 123, 94, 61, 35, 60, 62, 58, 41, 93, 125, 124, 38]⟩
/-- How many bytes a symbol has. -/
def symN (s : List UInt8) : Nat := if twos.any (fun x => x.data.toList == s.take 2) then 2 else if ones.any (fun c => s.head? == some c) then 1 else 0
def twosV : Array Value := #[.string ⟨#[58, 61]⟩, .string ⟨#[60, 62]⟩, .string ⟨#[60, 61]⟩, .string ⟨#[62, 61]⟩, .string ⟨#[46, 46]⟩]
theorem twosV_eq : twosV = (twos.map Value.string).toArray := rfl
theorem twosV_at (i : Nat) (h : i < twos.length) : twosV[i]? = some (.string twos[i]) := by
  rw [twosV_eq]; simp [h]
theorem twos_size : ∀ x ∈ twos, x.data.toList.length = 2 := by decide
theorem ext_front (s : ByteArray) : (s.extract 0 2).toList = s.data.toList.take 2 := by
  rw [ByteArray.toList_eq, ByteArray.data_extract, Array.toList_extract, List.extract_eq_take_drop]; simp

theorem below_drewN {B : Nat} {w wr : World} (h : Below B w wr) (n : Nat) : Below B w (wr.drewN n) := ⟨h.os, h.tape, h.output, h.size, h.block⟩

end Go.Proofs.Ytibpekgmgidebaa.Lx
