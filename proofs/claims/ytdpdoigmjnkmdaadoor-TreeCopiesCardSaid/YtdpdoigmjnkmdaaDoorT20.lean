/- The walk of a reader's cut. -/
import Derived.Test.YtdpdoigmjnkmdaaDoorT19
set_option linter.unusedSimpArgs false
set_option linter.unusedVariables false
namespace Go.Proofs.YtdpdoigmjnkmdaaDoor.Tr
open Go.RowKit
open Fl

/-- The variable internal/bytealg.MaxLen holds a number. -/
def Mx (w : World) : Prop := ∃ m, w.cell? ⟨1, 0, none⟩ = some (.int .i64 m)

set_option maxRecDepth 100000 in
set_option maxHeartbeats 1600000 in
theorem cut_no (b : Nat) (l : List UInt8) (n : Int) (p : ByteArray) (w : World) (hl : l.length < 4294967281) (hm : Mx w) (h : Rd w b l n) (hp : (Lib.cut l p.data.toList).2.2 = false) :
    Calls Tryd.prog 42 #[.pointer (some ⟨b, 0, none⟩), .string p] w fun e w' => e = .returned (.tuple #[.string ⟨(Lib.cut l p.data.toList).1.toArray⟩, .bool false]) ∧ ∃ k, w' = w.drewN k := by
  obtain ⟨m, hm⟩ := hm
  have c0 := Blk.cell h 0
  simp only [List.getElem?_toArray, List.getElem?_cons_zero] at c0
  have c1 := Lib.hid (Tryd.strings_Cut ⟨l.toArray⟩ p m w (by rw [bsize]; exact hl) hm)
  have e1 : (⟨l.toArray⟩ : ByteArray).data.toList = l := by simp
  rw [e1, hp] at c1
  clear h hp e1 hm
  generalize (⟨(Lib.cut l p.data.toList).1.toArray⟩ : ByteArray) = r at *
  generalize (⟨(Lib.cut l p.data.toList).2.1.toArray⟩ : ByteArray) = r2 at *
  go_enter Tryd.func42, Tryd.ntmps42
  go_wp2_with fail
  ((with_reducible refine c1.out.mono ?_); rintro e w' ⟨rfl, k, rfl⟩)
  go_wp2
  go_ret2
  exact ⟨rfl, k, rfl⟩
set_option maxRecDepth 100000 in
set_option maxHeartbeats 1600000 in
theorem cut_yes (b : Nat) (l : List UInt8) (n : Int) (p : ByteArray) (w : World) (hl : l.length < 4294967281) (hm : Mx w) (h : Rd w b l n) (hp : (Lib.cut l p.data.toList).2.2 = true) :
    Calls Tryd.prog 42 #[.pointer (some ⟨b, 0, none⟩), .string p] w fun e w' => e = .returned (.tuple #[.string ⟨(Lib.cut l p.data.toList).1.toArray⟩, .bool true]) ∧ ∃ k, w' = (w.drewN k).setCell ⟨b, 0, none⟩ (.string ⟨(Lib.cut l p.data.toList).2.1.toArray⟩) := by
  obtain ⟨m, hm⟩ := hm
  have c0 := Blk.cell h 0
  have f0 := Blk.frozen h 0
  simp only [List.getElem?_toArray, List.getElem?_cons_zero] at c0
  have c1 := Lib.hid (Tryd.strings_Cut ⟨l.toArray⟩ p m w (by rw [bsize]; exact hl) hm)
  have e1 : (⟨l.toArray⟩ : ByteArray).data.toList = l := by simp
  rw [e1, hp] at c1
  clear h hp e1 hm
  generalize (⟨(Lib.cut l p.data.toList).1.toArray⟩ : ByteArray) = r at *
  generalize (⟨(Lib.cut l p.data.toList).2.1.toArray⟩ : ByteArray) = r2 at *
  go_enter Tryd.func42, Tryd.ntmps42
  go_wp2_with fail
  ((with_reducible refine c1.out.mono ?_); rintro e w' ⟨rfl, k, rfl⟩)
  go_wp2
  go_ret2
  exact ⟨rfl, k, rfl⟩
end Go.Proofs.YtdpdoigmjnkmdaaDoor.Tr
