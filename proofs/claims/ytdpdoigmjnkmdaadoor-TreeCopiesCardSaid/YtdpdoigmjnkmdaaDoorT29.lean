/- The walk of Read. -/
import Derived.Test.YtdpdoigmjnkmdaaDoorT28
import Derived.Laws.EntriesVeiled
set_option linter.unusedSimpArgs false
set_option linter.unusedVariables false
namespace Go.Proofs.YtdpdoigmjnkmdaaDoor.Tr
open Go.RowKit
open Fl

def ReadOK (w : World) (l : List UInt8) (e : Ending) (w' : World) : Prop :=
  ∃ d k u, e = .returned (.tuple #[u, .int .i64 0]) ∧ d.nrm ∧ k.nrm ∧ l = txt1 d k ∧ 1 + k.deep ≤ 100 ∧ cnt1 k ≤ 8192 ∧ Below w.heap.size w w' ∧ RepS (fun x => w.heap.size ≤ x) w' (.node d k .no) [u]
def ReadErr (w : World) (l : List UInt8) (e : Ending) (w' : World) : Prop :=
  ∃ c : Int, e = .returned (.tuple #[.pointer none, .int .i64 c]) ∧ (c = 7 ∨ c = 50 ∨ c = 51) ∧ Below w.heap.size w w' ∧
    ∀ d k, d.nrm → k.nrm → l = txt1 d k → (c = 50 ∧ 100 < 1 + k.deep) ∨ (c = 51 ∧ 8192 < cnt1 k)
/-- What Read answers: a tree whose text that is, or why there is none. -/
def ReadR (w : World) (l : List UInt8) (e : Ending) (w' : World) : Prop := ReadOK w l e w' ∨ ReadErr w l e w'
theorem below_on {w W w5 : World} {q : Nat} (h : Below w.heap.size w W) (k : W.grownBy w5 (some q)) (hq : w.heap.size ≤ q) : Below w.heap.size w w5 :=
  ⟨k.os.trans h.os, k.tape.trans h.tape, k.output.trans h.output, Nat.le_trans h.size k.size, fun i hi => (k.block i (Nat.lt_of_lt_of_le hi h.size) (fun e => by injection e with e; omega)).trans (h.block i hi)⟩
theorem mx_below {w w' : World} (h : Mx w) (hb : Below w.heap.size w w') : Mx w' := by
  obtain ⟨m, hm⟩ := h
  exact ⟨m, (hb.cell (p := ⟨1, 0, none⟩) (cell_lt hm)).trans hm⟩

set_option maxRecDepth 100000 in
set_option maxHeartbeats 6400000 in
theorem read_any (l : List UInt8) (w : World) (hl : l.length ≤ 1000000000) (hm : Mx w) (ht : Pl.Tabs w) (h6 : 6 ≤ w.heap.size) :
    Calls Tryd.prog 20 #[.string ⟨l.toArray⟩] w (ReadR w l) := by
  have HM := Lib.hid hm
  have HT := Lib.hid ht
  clear hm ht
  go_enter Tryd.func20, Tryd.ntmps20
  go_wp2_with fail
  have HW : Hid (Below w.heap.size w (((w.alloc (Obj.cells #[Value.string ⟨l.toArray⟩, Value.int IntKind.i64 0] 62)).alloc (Obj.cells #[Value.pointer (some ⟨w.heap.size, 0, none⟩)] 60)).alloc (Obj.cells #[Value.func (Fn.func 30) #[] #[.pointer (some ⟨w.heap.size + 1, 0, none⟩), .pointer (some ⟨w.heap.size + 1 + 1, 0, none⟩)]] 63))) :=
    Lib.hid ((((Below.refl _ _).alloc (Nat.le_refl _) _).alloc (by simp) _).alloc (by simp; omega) _)
  have HX : Hid (Cx (((w.alloc (Obj.cells #[Value.string ⟨l.toArray⟩, Value.int IntKind.i64 0] 62)).alloc (Obj.cells #[Value.pointer (some ⟨w.heap.size, 0, none⟩)] 60)).alloc (Obj.cells #[Value.func (Fn.func 30) #[] #[.pointer (some ⟨w.heap.size + 1, 0, none⟩), .pointer (some ⟨w.heap.size + 1 + 1, 0, none⟩)]] 63)) (w.heap.size + 1) (w.heap.size + 1 + 1) w.heap.size) := by
    have b1 := (Blk.new (w.alloc (Obj.cells #[Value.string ⟨l.toArray⟩, Value.int IntKind.i64 0] 62)) 60 #[Value.pointer (some ⟨w.heap.size, 0, none⟩)]).alloc (Obj.cells #[Value.func (Fn.func 30) #[] #[.pointer (some ⟨w.heap.size + 1, 0, none⟩), .pointer (some ⟨w.heap.size + 1 + 1, 0, none⟩)]] 63)
    have b2 := Blk.new ((w.alloc (Obj.cells #[Value.string ⟨l.toArray⟩, Value.int IntKind.i64 0] 62)).alloc (Obj.cells #[Value.pointer (some ⟨w.heap.size, 0, none⟩)] 60)) 63 #[Value.func (Fn.func 30) #[] #[.pointer (some ⟨w.heap.size + 1, 0, none⟩), .pointer (some ⟨w.heap.size + 1 + 1, 0, none⟩)]]
    rw [show (w.alloc (Obj.cells #[Value.string ⟨l.toArray⟩, Value.int IntKind.i64 0] 62)).heap.size = w.heap.size + 1 by simp] at b1
    rw [show ((w.alloc (Obj.cells #[Value.string ⟨l.toArray⟩, Value.int IntKind.i64 0] 62)).alloc (Obj.cells #[Value.pointer (some ⟨w.heap.size, 0, none⟩)] 60)).heap.size = w.heap.size + 1 + 1 by simp] at b2
    exact Lib.hid ⟨b1.cell 0, b2.cell 0, by omega, by omega⟩
  have HR : Hid (Rd (((w.alloc (Obj.cells #[Value.string ⟨l.toArray⟩, Value.int IntKind.i64 0] 62)).alloc (Obj.cells #[Value.pointer (some ⟨w.heap.size, 0, none⟩)] 60)).alloc (Obj.cells #[Value.func (Fn.func 30) #[] #[.pointer (some ⟨w.heap.size + 1, 0, none⟩), .pointer (some ⟨w.heap.size + 1 + 1, 0, none⟩)]] 63)) w.heap.size l 0) :=
    Lib.hid (((Blk.new w 62 #[Value.string ⟨l.toArray⟩, Value.int IntKind.i64 0]).alloc _).alloc _)
  generalize (((w.alloc (Obj.cells #[Value.string ⟨l.toArray⟩, Value.int IntKind.i64 0] 62)).alloc (Obj.cells #[Value.pointer (some ⟨w.heap.size, 0, none⟩)] 60)).alloc (Obj.cells #[Value.func (Fn.func 30) #[] #[.pointer (some ⟨w.heap.size + 1, 0, none⟩), .pointer (some ⟨w.heap.size + 1 + 1, 0, none⟩)]] 63)) = W at *
  have HE := Lib.hid (Env.mk (q := w.heap.size) (mx_below HM.out HW.out) (Pl.tabs_below HT.out HW.out) h6)
  have c := node_any l.length l 1 0 (w.heap.size + 1) (w.heap.size + 1 + 1) w.heap.size W (Nat.le_refl _) hl (by omega) (by omega) (by omega) HX.out HR.out HE.out
  rw [show ((1 : Nat) : Int) = 1 from rfl] at c
  ((with_reducible refine c.mono ?_); rintro e w5 hres)
  clear c
  rcases hres with ⟨d, k, rest, u, rfl, h1, h2, h3, h4, h5, h6', h7⟩ | ⟨c, rfl, hc, hg, herr⟩
  case' inr =>
    have HG := Lib.hid (below_on HW.out hg (Nat.le_refl _))
    have HER := Lib.hid herr
    clear herr hg
    rcases hc with rfl | rfl | rfl
    all_goals
      go_wp2
      go_ret2
      refine .inr ⟨_, rfl, by simp, HG.out, fun d k h1 h2 h3 => ?_⟩
      have := HER.out d k [] h1 h2 (by rw [h3]; simp)
      first | (simp at this; done) | simpa using this
  have HS := Lib.hid h6'
  have HK := Lib.hid h7
  have H3 := Lib.hid h3
  have HN := Lib.hid (And.intro h1 h2)
  have hx := (HX.out.keep h6'.on).1
  have hc0 := Blk.cell h6'.rd 0
  simp only [List.getElem?_toArray, List.getElem?_cons_zero] at hc0
  clear h6' h7 h3 h1 h2
  cases rest with
  | nil =>
    go_wp2
    go_ret2
    exact .inl ⟨d, k, u, rfl, HN.out.1, HN.out.2, by rw [H3.out]; simp, h4, by omega, below_on HW.out HS.out.on (Nat.le_refl _), HK.out.more fun x hx _ => by have := HW.out.size; omega⟩
  | cons c r =>
    go_wp2
    go_ret2
    refine .inr ⟨7, rfl, .inl rfl, below_on HW.out HS.out.on (Nat.le_refl _), fun d' k' g1 g2 g3 => ?_⟩
    have := txt1_part (x := c :: r) (y := []) HN.out.1 g1 HN.out.2 g2 (by rw [← H3.out, g3]; simp)
    exact absurd this.2.2 (by simp)
end Go.Proofs.YtdpdoigmjnkmdaaDoor.Tr
