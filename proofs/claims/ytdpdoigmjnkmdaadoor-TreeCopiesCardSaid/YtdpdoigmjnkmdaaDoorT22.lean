/- Trees' texts are told apart: the plain part. -/
import Derived.Test.YtdpdoigmjnkmdaaDoorT21
set_option linter.unusedSimpArgs false
set_option linter.unusedVariables false
namespace Go.Proofs.YtdpdoigmjnkmdaaDoor.Tr
open Go.RowKit
open Fl

def Fo.nrm : Fo → Prop
  | .no => True
  | .node d k r => d.nrm ∧ k.nrm ∧ r.nrm
/-- A tree's text. -/
def txt1 (d : Nd) (k : Fo) : List UInt8 := ndT d ++ k.txt ++ [41]
theorem txt_node (d : Nd) (k r : Fo) : (Fo.node d k r).txt = 32 :: (txt1 d k ++ r.txt) := by simp [Fo.txt, txt1]
theorem txt1_hd (d : Nd) (k : Fo) (x : List UInt8) : txt1 d k ++ x = 40 :: (hdT d ++ (k.txt ++ 41 :: x)) := by
  unfold txt1; rw [ndT_hd]; simp
theorem txt_ends (f : Fo) (x : List UInt8) : ends (f.txt ++ 41 :: x) := by
  cases f with
  | no => exact ⟨41, x, rfl, .inr rfl⟩
  | node d k r => exact ⟨32, txt1 d k ++ r.txt ++ 41 :: x, by rw [txt_node]; rfl, .inl rfl⟩
theorem hd_at (d : Nd) (k : Fo) (x : List UInt8) (h : d.nrm) : hd (hdT d ++ (k.txt ++ 41 :: x)) = some (d, k.txt ++ 41 :: x) := hd_mk d _ h (txt_ends k x)
theorem Fo.part : ∀ (f g : Fo) (x y : List UInt8), f.nrm → g.nrm → f.txt ++ 41 :: x = g.txt ++ 41 :: y → f = g ∧ x = y
  | .no, .no, x, y, _, _, h => by
    simp only [Fo.txt, List.nil_append, List.cons.injEq, true_and] at h
    exact ⟨rfl, h⟩
  | .no, .node d k r, x, y, _, _, h => by
    rw [txt_node] at h
    simp only [Fo.txt, List.nil_append, List.cons_append, List.cons.injEq] at h
    exact absurd h.1 (by decide)
  | .node d k r, .no, x, y, _, _, h => by
    rw [txt_node] at h
    simp only [Fo.txt, List.nil_append, List.cons_append, List.cons.injEq] at h
    exact absurd h.1 (by decide)
  | .node d k r, .node d' k' r', x, y, ⟨a1, a2, a3⟩, ⟨b1, b2, b3⟩, h => by
    rw [txt_node, txt_node] at h
    simp only [List.cons_append, List.append_assoc, List.cons.injEq, true_and] at h
    rw [txt1_hd, txt1_hd] at h
    simp only [List.cons.injEq, true_and] at h
    have e1 := hd_at d k (r.txt ++ 41 :: x) a1
    rw [h, hd_at d' k' _ b1] at e1
    simp only [Option.some.injEq, Prod.mk.injEq] at e1
    obtain ⟨rfl, e2⟩ := e1
    obtain ⟨rfl, e3⟩ := Fo.part k k' _ _ a2 b2 e2.symm
    obtain ⟨rfl, e4⟩ := Fo.part r r' _ _ a3 b3 e3
    exact ⟨rfl, e4⟩
/-- A tree's text begins no other one's. -/
theorem txt1_part {d d' : Nd} {k k' : Fo} {x y : List UInt8} (h1 : d.nrm) (h2 : d'.nrm) (h3 : k.nrm) (h4 : k'.nrm) (h : txt1 d k ++ x = txt1 d' k' ++ y) : d = d' ∧ k = k' ∧ x = y := by
  rw [txt1_hd, txt1_hd] at h
  simp only [List.cons.injEq, true_and] at h
  have e1 := hd_at d k x h1
  rw [h, hd_at d' k' _ h2] at e1
  simp only [Option.some.injEq, Prod.mk.injEq] at e1
  obtain ⟨rfl, e2⟩ := e1
  obtain ⟨rfl, e3⟩ := Fo.part k k' _ _ h3 h4 e2.symm
  exact ⟨rfl, rfl, e3⟩
/-- What was read of a row begins it. -/
theorem Fo.rest : ∀ (f g : Fo) (x y : List UInt8), f.nrm → g.nrm → f.txt ++ 32 :: x = g.txt ++ 41 :: y → ∃ h, g = f.app h ∧ 32 :: x = h.txt ++ 41 :: y
  | .no, g, x, y, _, _, h => ⟨g, rfl, h⟩
  | .node d k r, .no, x, y, _, _, h => by
    rw [txt_node] at h
    simp only [Fo.txt, List.nil_append, List.cons_append, List.cons.injEq] at h
    exact absurd h.1 (by decide)
  | .node d k r, .node d' k' r', x, y, ⟨a1, a2, a3⟩, ⟨b1, b2, b3⟩, h => by
    rw [txt_node, txt_node] at h
    simp only [List.cons_append, List.append_assoc, List.cons.injEq, true_and] at h
    rw [txt1_hd, txt1_hd] at h
    simp only [List.cons.injEq, true_and] at h
    have e1 := hd_at d k (r.txt ++ 32 :: x) a1
    rw [h, hd_at d' k' _ b1] at e1
    simp only [Option.some.injEq, Prod.mk.injEq] at e1
    obtain ⟨rfl, e2⟩ := e1
    obtain ⟨rfl, e3⟩ := Fo.part k k' _ _ a2 b2 e2.symm
    obtain ⟨q, rfl, e5⟩ := Fo.rest r r' _ _ a3 b3 e3
    exact ⟨q, rfl, e5⟩
/-- .. where neither a kid nor the end follows, there was no row. -/
theorem Fo.rest_no : ∀ (f g : Fo) (x y : List UInt8), f.nrm → g.nrm → ¬ ends x → f.txt ++ x = g.txt ++ 41 :: y → False
  | .no, g, x, y, _, _, hx, h => by
    have := txt_ends g y
    rw [← h] at this
    exact hx this
  | .node d k r, .no, x, y, _, _, hx, h => by
    rw [txt_node] at h
    simp only [Fo.txt, List.nil_append, List.cons_append, List.cons.injEq] at h
    exact absurd h.1 (by decide)
  | .node d k r, .node d' k' r', x, y, ⟨a1, a2, a3⟩, ⟨b1, b2, b3⟩, hx, h => by
    rw [txt_node, txt_node] at h
    simp only [List.cons_append, List.append_assoc, List.cons.injEq, true_and] at h
    rw [txt1_hd, txt1_hd] at h
    simp only [List.cons.injEq, true_and] at h
    have e1 := hd_mk d (k.txt ++ 41 :: (r.txt ++ x)) a1 (txt_ends k _)
    rw [h, hd_at d' k' _ b1] at e1
    simp only [Option.some.injEq, Prod.mk.injEq] at e1
    obtain ⟨rfl, e2⟩ := e1
    obtain ⟨rfl, e3⟩ := Fo.part k k' _ _ a2 b2 e2.symm
    exact Fo.rest_no r r' _ _ a3 b3 hx e3
theorem Fo.snoc_is : ∀ (f : Fo) (d : Nd) (k : Fo), f.snoc d k = f.app (.node d k .no)
  | .no, d, k => rfl
  | .node d' k' r, d, k => by simp [Fo.snoc, Fo.app, Fo.snoc_is r d k]
theorem Fo.app_count : ∀ f g : Fo, (f.app g).count = f.count + g.count
  | .no, g => by simp [Fo.app, Fo.count]
  | .node d k r, g => by simp [Fo.app, Fo.count, Fo.app_count r g]; omega
theorem Fo.app_deep : ∀ f g : Fo, (f.app g).deep = max f.deep g.deep
  | .no, g => by simp [Fo.app, Fo.deep]
  | .node d k r, g => by simp only [Fo.app, Fo.deep, Fo.app_deep r g]; omega
theorem Fo.app_nrm : ∀ f g : Fo, (f.app g).nrm ↔ f.nrm ∧ g.nrm
  | .no, g => by simp [Fo.app, Fo.nrm]
  | .node d k r, g => by simp only [Fo.app, Fo.nrm, Fo.app_nrm r g, and_assoc]
theorem Fo.app_txt : ∀ f g : Fo, (f.app g).txt = f.txt ++ g.txt
  | .no, g => by simp [Fo.app, Fo.txt]
  | .node d k r, g => by simp [Fo.app, Fo.txt, Fo.app_txt r g]
theorem Fo.count_le : ∀ f : Fo, f.count ≤ f.txt.length
  | .no => by simp [Fo.count]
  | .node d k r => by
    have h1 := Fo.count_le k
    have h2 := Fo.count_le r
    rw [txt_node]
    simp only [Fo.count, txt1, List.length_cons, List.length_append]
    omega
end Go.Proofs.YtdpdoigmjnkmdaaDoor.Tr
