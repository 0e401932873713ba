/- The walks of Count and Deep, the program's and the reference's. -/
import Derived.Test.YtecmjhohniipoaaT1
import Derived.Test.YtecmjhohniipoaaProg
set_option linter.unusedSimpArgs false
set_option linter.unusedVariables false
namespace Go.Proofs.Ytecmjhohniipoaa.Tr
open Go.RowKit
open Fl

theorem Rep.head {w : World} {d : Nd} {k r : Fo} {vs : List Value} (h : Rep w (.node d k r) vs) : ∃ v vs', vs = v :: vs' ∧ Rep w (.node d k .no) [v] ∧ Rep w r vs' := by
  unfold Rep at h
  obtain ⟨b, A, c, ks, vs', rfl, h2, h3, h4, h5⟩ := h
  exact ⟨_, _, rfl, ⟨b, A, c, ks, [], rfl, h2, h3, h4, rfl⟩, h5⟩
theorem Rep.one {w : World} {d : Nd} {k : Fo} {v : Value} (h : Rep w (.node d k .no) [v]) : ∃ b A c ks, v = .pointer (some ⟨b, 0, none⟩) ∧ At w b d (.slice A ks.length c) ∧ Reads w w.heap.size 1 A ks.length ks ∧ Rep w k ks := by
  unfold Rep at h
  obtain ⟨b, A, c, ks, vs', h1, h2, h3, h4, h5⟩ := h
  simp only [List.cons.injEq] at h1
  exact ⟨b, A, c, ks, h1.1, h2, h3, h4⟩
/-- At a place of a row that is not its end there is a tree. -/
theorem Rep.at_ {w : World} {f : Fo} {vs : List Value} {i : Nat} (h : Rep w f (vs.drop i)) (hi : i < vs.length) : ∃ d k r, f = .node d k r ∧ Rep w (.node d k .no) [vs[i]] ∧ Rep w r (vs.drop (i + 1)) := by
  cases f with
  | no => unfold Rep at h; simp at h; omega
  | node d k r =>
    obtain ⟨v, vs', e, h1, h2⟩ := h.head
    rw [List.drop_eq_getElem_cons hi] at e
    simp only [List.cons.injEq] at e
    obtain ⟨rfl, rfl⟩ := e
    exact ⟨d, k, r, rfl, h1, h2⟩
theorem Rep.end_ {w : World} {f : Fo} {vs : List Value} {i : Nat} (h : Rep w f (vs.drop i)) (hi : ¬ i < vs.length) : f = .no := by
  cases f with
  | no => rfl
  | node d k r =>
    obtain ⟨v, vs', e, h1, h2⟩ := h.head
    rw [List.drop_eq_nil_of_le (by omega)] at e
    cases e
theorem Reads.nth {w : World} {B : Nat} {A : Option Addr} {vs : List Value} {i : Nat} (h : Reads w B 1 A vs.length vs) (hi : i < vs.length) : ∃ b off, A = some ⟨b, off, none⟩ ∧ w.cell? ⟨b, off + i, none⟩ = some vs[i] := by
  obtain ⟨b, off, u, e, _, hx, hc⟩ := h.spot hi
  rw [List.getElem?_eq_getElem hi] at hx
  injection hx with hx
  subst hx
  exact ⟨b, off, e, hc⟩
theorem Reads.len_le {w : World} {B : Nat} {A : Option Addr} {f : Fo} {vs : List Value} (h : Rep w f vs) : vs.length ≤ f.count := by
  rw [h.len]
  clear h
  induction f with
  | no => simp [Fo.len]
  | node d k r ih1 ih2 => simp [Fo.len, Fo.count]; omega

theorem Fo.deep_le : ∀ f : Fo, f.deep ≤ f.count
  | .no => Nat.le_refl _
  | .node d k r => by
    have h1 := Fo.deep_le k
    have h2 := Fo.deep_le r
    simp only [Fo.deep, Fo.count]; omega

end Go.Proofs.Ytecmjhohniipoaa.Tr
