/- A node that is being built, kid by kid. -/
import Derived.Test.YtecmjhohniipoaaT5
set_option linter.unusedSimpArgs false
set_option linter.unusedVariables false
namespace Go.Proofs.Ytecmjhohniipoaa.Tr
open Go.RowKit
open Fl

/-- Where the kids of a node that is being built may lie. -/
def Apart (S : Nat → Prop) (w0 : World) (b : Nat) (sv : Value) : Nat → Prop := fun x => (S x ∨ w0.heap.size ≤ x) ∧ x ≠ b ∧ sv.ownBlock ≠ some x
/-- Since w0: a node's block b and its kids' row sv, with the kids xs so far. -/
def Bld (S : Nat → Prop) (w0 w : World) (b : Nat) (d : Nd) (sv : Value) (f : Fo) (xs : List Value) : Prop :=
  Blk w b 42 (cellsN d sv) ∧ w.ownsRow w0.heap.size 26 1 sv xs.length xs ∧ RepS (Apart S w0 b sv) w f xs ∧ w0.heap.size ≤ b ∧ Below w0.heap.size w0 w

theorem grown_below {w w' : World} (h : Below w.heap.size w w') (row : Option Nat) : w.grownBy w' row := ⟨h.os, h.tape, h.output, h.size, fun k hk _ => h.block k hk⟩
theorem Bld.below {S : Nat → Prop} {w0 w w' : World} {b : Nat} {d : Nd} {sv : Value} {f : Fo} {xs : List Value} (h : Bld S w0 w b d sv f xs) (hb : Below w.heap.size w w') : Bld S w0 w' b d sv f xs := by
  obtain ⟨h1, h2, h3, h4, h5⟩ := h
  refine ⟨h1.below hb h1.lt, h2.kept (grown_below hb none) ?_, h3.below hb, h4, h5.trans (hb.mono h5.size)⟩
  rcases h : sv.ownBlock with _ | g
  · exact .inl rfl
  · exact .inr (by simp)
theorem Bld.start {S : Nat → Prop} {w0 w : World} {b : Nat} {d : Nd} (h : Blk w b 42 (cellsN d (.slice none 0 0))) (hb : w0.heap.size ≤ b) (hw : Below w0.heap.size w0 w) : Bld S w0 w b d (.slice none 0 0) .no [] :=
  ⟨h, ⟨by simp, .inl ⟨rfl, rfl⟩⟩, by unfold RepS; rfl, hb, hw⟩
theorem Bld.sv {S : Nat → Prop} {w0 w : World} {b : Nat} {d : Nd} {sv : Value} {f : Fo} {xs : List Value} (h : Bld S w0 w b d sv f xs) : w.cell? ⟨b, 4, none⟩ = some sv ∧ w.frozen? ⟨b, 4, none⟩ = false ∧ b < w.heap.size := by
  obtain ⟨h1, h2, h3, h4, h5⟩ := h
  exact ⟨h1.cell 4, h1.frozen 4, h1.lt⟩
theorem setCell_grown (w : World) (p : Addr) (u : Value) : w.grownBy (w.setCell p u) (some p.block) :=
  ⟨rfl, rfl, rfl, by simp, fun k hk hne => Below.heap_setCell w p u k (fun e => hne (by rw [e]))⟩
theorem cellsN_set (d : Nd) (s s' : Value) : (cellsN d s).setIfInBounds 4 s' = cellsN d s' := rfl
/-- One kid more: an append, and the store of what it gives. W: the world in which the append was made. -/
theorem Bld.step {S : Nat → Prop} {w0 W w1 : World} {b g cap : Nat} {d dk : Nd} {sv v : Value} {f k : Fo} {xs : List Value} (h : Bld S w0 W b d sv f xs) (hk : RepS (Apart S w0 b sv) W (.node dk k .no) [v])
    (hown : w1.ownsRow w0.heap.size 26 1 (.slice (some ⟨g, 0, none⟩) (xs.length + 1) cap) (xs.length + 1) (xs ++ [v])) (hg : W.grownBy w1 sv.ownBlock) (hor : sv.ownBlock = some g ∨ g = W.heap.size) :
    Bld S w0 (w1.setCell ⟨b, 4, none⟩ (.slice (some ⟨g, 0, none⟩) (xs.length + 1) cap)) b d (.slice (some ⟨g, 0, none⟩) (xs.length + 1) cap) (f.snoc dk k) (xs ++ [v]) := by
  obtain ⟨h1, h2, h3, h4, h5⟩ := h
  have hlt := h1.lt
  have hne : sv.ownBlock ≠ some b := own_blk_ne h2 h1 (by decide)
  have hb1 : Blk w1 b 42 (cellsN d sv) := h1.grown hg (fun e => hne e.symm)
  have hgb : g ≠ b := by
    have := own_blk_ne hown hb1 (by decide)
    intro e; subst e; exact this rfl
  have hg0 : w0.heap.size ≤ g := (hown.lt g rfl).1
  have hb5 : Below w0.heap.size w0 w1 := h5.grown hg h5.size (fun k hk => (h2.lt k hk).1)
  refine ⟨?_, ?_, ?_, h4, hb5.setCell h4 _⟩
  · have := hb1.set_ 4 (.slice (some ⟨g, 0, none⟩) (xs.length + 1) cap)
    rwa [cellsN_set] at this
  · rw [List.length_append, List.length_singleton]
    exact hown.kept (setCell_grown _ _ _) (.inr (by show some g ≠ some b; simpa using hgb))
  · have hS : ∀ x, Apart S w0 b sv x → x < W.heap.size → Apart S w0 b (.slice (some ⟨g, 0, none⟩) (xs.length + 1) cap) x := by
      intro x hx hl
      obtain ⟨x1, x2, x3⟩ := hx
      refine ⟨x1, x2, ?_⟩
      show some g ≠ some x
      intro e
      injection e with e
      subst e
      rcases hor with hor | hor
      · exact x3 hor
      · omega
    have hkeep : ∀ x, Apart S w0 b sv x → x < W.heap.size → (w1.setCell ⟨b, 4, none⟩ (.slice (some ⟨g, 0, none⟩) (xs.length + 1) cap)).heap[x]? = W.heap[x]? := by
      intro x hx hl
      obtain ⟨x1, x2, x3⟩ := hx
      rw [Below.heap_setCell w1 ⟨b, 4, none⟩ _ x x2]
      exact hg.block x hl (fun e => x3 e.symm)
    exact RepS.snoc (hk.keep (by simp; exact hg.size) hkeep hS) (h3.keep (by simp; exact hg.size) hkeep hS)
/-- The node that was built, with its kids. -/
theorem Bld.done {S : Nat → Prop} {w0 w : World} {b : Nat} {d : Nd} {sv : Value} {f : Fo} {xs : List Value} (h : Bld S w0 w b d sv f xs) : RepS (fun x => S x ∨ w0.heap.size ≤ x) w (.node d f .no) [.pointer (some ⟨b, 0, none⟩)] := by
  obtain ⟨h1, h2, h3, h4, h5⟩ := h
  exact RepS.mk h1 h2 (h3.more fun x hx _ => hx.1) (.inr h4) (fun g hg => .inr (h2.lt g hg).1)
theorem Bld.own {S : Nat → Prop} {w0 w : World} {b : Nat} {d : Nd} {sv : Value} {f : Fo} {xs : List Value} (h : Bld S w0 w b d sv f xs) : w.ownsRow w0.heap.size 26 1 sv xs.length xs := by
  obtain ⟨_, h, _⟩ := h; exact h
theorem Bld.bel {S : Nat → Prop} {w0 w : World} {b : Nat} {d : Nd} {sv : Value} {f : Fo} {xs : List Value} (h : Bld S w0 w b d sv f xs) : Below w0.heap.size w0 w := by
  obtain ⟨_, _, _, _, h⟩ := h; exact h
theorem Bld.low {S : Nat → Prop} {w0 w : World} {b : Nat} {d : Nd} {sv : Value} {f : Fo} {xs : List Value} (h : Bld S w0 w b d sv f xs) : w0.heap.size ≤ b := by
  obtain ⟨_, _, _, h, _⟩ := h; exact h
/-- A tree that was made since w is apart from a node that was being built then. -/
theorem Bld.newer {S : Nat → Prop} {w0 w w' : World} {b : Nat} {d dk : Nd} {sv v : Value} {f k : Fo} {xs : List Value} (h : Bld S w0 w b d sv f xs) (hk : RepS (fun x => w.heap.size ≤ x) w' (.node dk k .no) [v]) : RepS (Apart S w0 b sv) w' (.node dk k .no) [v] := by
  obtain ⟨h1, h2, h3, h4, h5⟩ := h
  have hlt := h1.lt
  have hs := h5.size
  refine hk.more fun x hx _ => ⟨.inr (by omega), by omega, fun e => ?_⟩
  have := (h2.lt x e).2
  omega
/-- .. and so is one that was there ahead of w0. -/
theorem Bld.older {S : Nat → Prop} {w0 w w' : World} {b : Nat} {d dk : Nd} {sv v : Value} {f k : Fo} {xs : List Value} (h : Bld S w0 w b d sv f xs) (hk : RepS (fun x => S x ∧ x < w0.heap.size) w' (.node dk k .no) [v]) : RepS (Apart S w0 b sv) w' (.node dk k .no) [v] := by
  obtain ⟨h1, h2, h3, h4, h5⟩ := h
  refine hk.more fun x hx _ => ⟨.inl hx.1, by omega, fun e => ?_⟩
  have := (h2.lt x e).1
  omega
theorem info26 : (Try.prog.info? 26).map (fun i => (i.zero, i.size, i.bytes)) = some (some (.pointer none), 1, 8) := by kernel_rfl
/-- The node that stands where none was handed in. -/
def zeroN : Nd := ⟨0, (0, 0), ⟨#[]⟩, 0⟩
end Go.Proofs.Ytecmjhohniipoaa.Tr
