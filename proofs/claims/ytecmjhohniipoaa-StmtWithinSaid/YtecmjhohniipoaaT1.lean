/- Trees as plain data, and how they lie in memory. -/
import Derived.Test.YtecmjhohniipoaaBase
import Derived.Test.YtecmjhohniipoaaFl
set_option linter.unusedSimpArgs false
set_option linter.unusedVariables false
namespace Go.Proofs.Ytecmjhohniipoaa.Tr
open Go.RowKit
open Fl

/-- A node without its kids. -/
structure Nd where
  kind : Nat
  pos : Nat × Nat
  name : ByteArray
  n : Int
/-- A row of trees: the first one's node, its kids, the further ones. -/
inductive Fo where
  | no : Fo
  | node (d : Nd) (kids rest : Fo) : Fo
def Fo.len : Fo → Nat
  | .no => 0
  | .node _ _ r => r.len + 1
def Fo.count : Fo → Nat
  | .no => 0
  | .node _ k r => 1 + k.count + r.count
def Fo.deep : Fo → Nat
  | .no => 0
  | .node _ k r => max (k.deep + 1) r.deep
def Fo.same : Fo → Fo → Bool
  | .no, .no => true
  | .node d k r, .node d' k' r' => decide (d.kind = d'.kind) && decide (d.name = d'.name) && decide (d.n = d'.n) && k.same k' && r.same r'
  | _, _ => false
def Fo.exact : Fo → Fo → Bool
  | .no, .no => true
  | .node d k r, .node d' k' r' => decide (d.kind = d'.kind) && decide (d.name = d'.name) && decide (d.n = d'.n) && decide (d.pos = d'.pos) && k.exact k' && r.exact r'
  | _, _ => false
/-- A row's numbers are within the bounds of their types. -/
def Fo.fits : Fo → Prop
  | .no => True
  | .node d k r => d.kind < 256 ∧ d.pos.1 < 4294967296 ∧ d.pos.2 < 4294967296 ∧ d.name.size ≤ 9223372036854775807 ∧ k.fits ∧ r.fits
theorem Fo.same_len : ∀ f g : Fo, f.same g = true → f.len = g.len
  | .no, .no, _ => rfl
  | .no, .node .., h => by simp [Fo.same] at h
  | .node .., .no, h => by simp [Fo.same] at h
  | .node _ k r, .node _ k' r', h => by
    simp only [Fo.same, Bool.and_eq_true] at h
    have := Fo.same_len r r' h.2
    simp [Fo.len, this]
theorem Fo.same_refl : ∀ f : Fo, f.same f = true
  | .no => rfl
  | .node d k r => by simp [Fo.same, Fo.same_refl k, Fo.same_refl r]
theorem Fo.exact_refl : ∀ f : Fo, f.exact f = true
  | .no => rfl
  | .node d k r => by simp [Fo.exact, Fo.exact_refl k, Fo.exact_refl r]
theorem Fo.exact_same : ∀ f g : Fo, f.exact g = true → f.same g = true
  | .no, .no, _ => rfl
  | .no, .node .., h => by simp [Fo.exact] at h
  | .node .., .no, h => by simp [Fo.exact] at h
  | .node _ k r, .node _ k' r', h => by
    simp only [Fo.exact, Bool.and_eq_true] at h
    simp only [Fo.same, Bool.and_eq_true]
    exact ⟨⟨h.1.1.1, Fo.exact_same k k' h.1.2⟩, Fo.exact_same r r' h.2⟩

/-- A place, as the program has it. -/
def C (p : Nat × Nat) : Value := .complex .f64 (fl p.1) (fl p.2)
/-- A node's cells. -/
def At (w : World) (b : Nat) (d : Nd) (s : Value) : Prop :=
  w.cell? ⟨b, 0, none⟩ = some (.int .u8 d.kind) ∧ w.cell? ⟨b, 1, none⟩ = some (C d.pos) ∧ w.cell? ⟨b, 2, none⟩ = some (.string d.name) ∧ w.cell? ⟨b, 3, none⟩ = some (.int .i64 d.n) ∧ w.cell? ⟨b, 4, none⟩ = some s
/-- The values vs are pointers to the trees of a row. -/
def Rep (w : World) : Fo → List Value → Prop
  | .no, vs => vs = []
  | .node d k r, vs => ∃ b A c ks vs', vs = .pointer (some ⟨b, 0, none⟩) :: vs' ∧ At w b d (.slice A ks.length c) ∧ Reads w w.heap.size 1 A ks.length ks ∧ Rep w k ks ∧ Rep w r vs'
theorem cell_lt {w : World} {b o : Nat} {v : Value} (h : w.cell? ⟨b, o, none⟩ = some v) : b < w.heap.size := by
  rcases Nat.lt_or_ge b w.heap.size with h1 | h1
  · exact h1
  · unfold World.cell? at h
    simp [Array.getElem?_eq_none h1] at h
theorem At.lt {w : World} {b : Nat} {d : Nd} {s : Value} (h : At w b d s) : b < w.heap.size := cell_lt h.1
theorem At.below {w w' : World} {b : Nat} {d : Nd} {s : Value} (h : At w b d s) (hb : Below w.heap.size w w') : At w' b d s := by
  have hl := h.lt
  obtain ⟨h0, h1, h2, h3, h4⟩ := h
  exact ⟨(hb.cell (p := ⟨b, 0, none⟩) hl).trans h0, (hb.cell (p := ⟨b, 1, none⟩) hl).trans h1, (hb.cell (p := ⟨b, 2, none⟩) hl).trans h2, (hb.cell (p := ⟨b, 3, none⟩) hl).trans h3, (hb.cell (p := ⟨b, 4, none⟩) hl).trans h4⟩
theorem Rep.len {w : World} : ∀ {f : Fo} {vs : List Value}, Rep w f vs → vs.length = f.len
  | .no, vs, h => by unfold Rep at h; subst h; rfl
  | .node d k r, vs, h => by
    unfold Rep at h
    obtain ⟨b, A, c, ks, vs', rfl, _, _, _, h5⟩ := h
    simp [Fo.len, Rep.len h5]
theorem Rep.below {w w' : World} (hb : Below w.heap.size w w') : ∀ {f : Fo} {vs : List Value}, Rep w f vs → Rep w' f vs
  | .no, vs, h => by unfold Rep at h ⊢; exact h
  | .node d k r, vs, h => by
    unfold Rep at h ⊢
    obtain ⟨b, A, c, ks, vs', h1, h2, h3, h4, h5⟩ := h
    exact ⟨b, A, c, ks, vs', h1, h2.below hb, (h3.below hb).more hb.size, Rep.below hb h4, Rep.below hb h5⟩
theorem Rep.drewN {w : World} (n : Nat) {f : Fo} {vs : List Value} (h : Rep w f vs) : Rep (w.drewN n) f vs := h.below (below_drewN (Below.refl _ _) n)
end Go.Proofs.Ytecmjhohniipoaa.Tr
