/- The walk of tree.Text. -/
import Derived.Test.YtdpdoigmjnkmdaaDoorT17
set_option linter.unusedSimpArgs false
set_option linter.unusedVariables false
namespace Go.Proofs.YtdpdoigmjnkmdaaDoor.Tr
open Go.RowKit
open Fl

theorem text_nil (w : World) : Calls Tryd.prog 18 #[.pointer none] w fun e w' => e = .returned (.string ⟨#[]⟩) ∧ w = w' := by
  go_enter Tryd.func18, Tryd.ntmps18
  go_wp2
  go_ret
  exact ⟨rfl, rfl⟩
theorem new_builder (w : World) : Lib.IsBuilder 55 5 w.heap.size w.heap.size (Lib.byteCells []) (w.alloc (.cells #[.pointer none, .slice none 0 0] 55)) :=
  .inl ⟨Nat.le_refl _, .slice none 0 0, heap_alloc_new w _, ⟨rfl, .inl ⟨rfl, rfl⟩⟩, by simp [Value.ownBlock]⟩

set_option maxRecDepth 100000 in
set_option maxHeartbeats 3200000 in
theorem text_any (d : Nd) (k : Fo) (v : Value) (w : World) (hc : (Fo.node d k .no).count ≤ 1000000) (hok : (Fo.node d k .no).ok) (hlen : (ndT d ++ k.txt ++ [41]).length ≤ 1000000000) (hT : Pl.Tab w) (hr : Rep w (.node d k .no) [v]) :
    Calls Tryd.prog 18 #[v] w fun e w' => e = .returned (.string ⟨(ndT d ++ k.txt ++ [41]).toArray⟩) ∧ Below w.heap.size w w' := by
  have hbel : Below w.heap.size w (w.alloc (.cells #[.pointer none, .slice none 0 0] 55)) := (Below.refl _ _).alloc (Nat.le_refl _) _
  have c1 := Lib.hid (writes_any _ d k v w.heap.size [] w (w.alloc (.cells #[.pointer none, .slice none 0 0] 55)) (Nat.le_refl _) hc hok (by simpa using hlen) hT hbel (new_builder w) (hr.lt_.below hbel))
  obtain ⟨b, _, _, _, rfl, _⟩ := hr.one
  have BE := Lib.hid hbel
  clear hr hT hok hc hbel
  generalize hTX : ndT d ++ k.txt ++ [41] = TX at *
  clear hTX
  go_enter Tryd.func18, Tryd.ntmps18
  go_wp2_with fail
  ((with_reducible refine c1.out.mono ?_); rintro e x1 ⟨rfl, y1, z1⟩)
  rw [List.nil_append] at y1
  have hsz : w.heap.size ≤ x1.heap.size := by have := BE.out.size; have := z1.size; omega
  have c2 := Lib.hid (Tryd.Builder_String_any w.heap.size w.heap.size TX x1 y1 hsz)
  have Z1 := Lib.hid z1
  clear y1 z1
  go_wp2_with fail
  ((with_reducible refine c2.out.mono ?_); rintro e x2 ⟨rfl, z2⟩)
  have Z2 := Lib.hid z2
  clear z2
  go_wp2
  go_ret
  exact ⟨rfl, BE.out.trans (Z1.out.trans Z2.out)⟩
end Go.Proofs.YtdpdoigmjnkmdaaDoor.Tr
