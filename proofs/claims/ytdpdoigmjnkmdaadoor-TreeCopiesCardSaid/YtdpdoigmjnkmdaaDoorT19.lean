/- The walks of a reader's eat and cut. -/
import Derived.Test.YtdpdoigmjnkmdaaDoorT18
set_option linter.unusedSimpArgs false
set_option linter.unusedVariables false
namespace Go.Proofs.YtdpdoigmjnkmdaaDoor.Tr
open Go.RowKit
open Fl

/-- A reader in block b: what is left of the text, how many nodes were begun. -/
def Rd (w : World) (b : Nat) (l : List UInt8) (n : Int) : Prop := Blk w b 62 #[.string ⟨l.toArray⟩, .int .i64 n]
theorem Rd.set {w : World} {b : Nat} {l : List UInt8} {n : Int} (h : Rd w b l n) (m : List UInt8) : Rd (w.setCell ⟨b, 0, none⟩ (.string ⟨m.toArray⟩)) b m n := Blk.set_ h 0 _

set_option maxRecDepth 100000 in
set_option maxHeartbeats 1600000 in
theorem eat_no (b : Nat) (l : List UInt8) (n : Int) (p : ByteArray) (w : World) (h : Rd w b l n) (hp : Lib.hasPrefix l p.data.toList = false) :
    Calls Tryd.prog 31 #[.pointer (some ⟨b, 0, none⟩), .string p] w fun e w' => e = .returned (.bool false) ∧ w = w' := by
  have c0 := Blk.cell h 0
  simp only [List.getElem?_toArray, List.getElem?_cons_zero] at c0
  have c1 := Lib.hid (Tryd.strings_CutPrefix ⟨l.toArray⟩ p w)
  have e1 : (⟨l.toArray⟩ : ByteArray).data.toList = l := by simp
  rw [e1, hp] at c1
  clear h hp e1
  generalize (⟨(Lib.trimPrefix l p.data.toList).toArray⟩ : ByteArray) = r at *
  go_enter Tryd.func31, Tryd.ntmps31
  go_wp2_with fail
  ((with_reducible refine c1.out.mono ?_); rintro e w' ⟨rfl, rfl⟩)
  go_wp2
  go_ret
  exact ⟨rfl, rfl⟩
set_option maxRecDepth 100000 in
set_option maxHeartbeats 1600000 in
theorem eat_yes (b : Nat) (l : List UInt8) (n : Int) (p : ByteArray) (w : World) (h : Rd w b l n) (hp : Lib.hasPrefix l p.data.toList = true) :
    Calls Tryd.prog 31 #[.pointer (some ⟨b, 0, none⟩), .string p] w fun e w' => e = .returned (.bool true) ∧ w' = w.setCell ⟨b, 0, none⟩ (.string ⟨(Lib.trimPrefix l p.data.toList).toArray⟩) := by
  have c0 := Blk.cell h 0
  have f0 := Blk.frozen h 0
  simp only [List.getElem?_toArray, List.getElem?_cons_zero] at c0
  have c1 := Lib.hid (Tryd.strings_CutPrefix ⟨l.toArray⟩ p w)
  have e1 : (⟨l.toArray⟩ : ByteArray).data.toList = l := by simp
  rw [e1, hp] at c1
  clear h hp e1
  generalize (⟨(Lib.trimPrefix l p.data.toList).toArray⟩ : ByteArray) = r at *
  go_enter Tryd.func31, Tryd.ntmps31
  go_wp2_with fail
  ((with_reducible refine c1.out.mono ?_); rintro e w' ⟨rfl, rfl⟩)
  go_wp2
  go_ret
  exact ⟨rfl, rfl⟩
end Go.Proofs.YtdpdoigmjnkmdaaDoor.Tr
