/- A reader's world: what stands while its block is written; a node that is being read. -/
import Derived.Test.YtdpdoigmjnkmdaaDoorT22
set_option linter.unusedSimpArgs false
set_option linter.unusedVariables false
namespace Go.Proofs.YtdpdoigmjnkmdaaDoor.Tr
open Go.RowKit
open Fl

theorem on_trans {a b c : World} {q : Option Nat} (h : a.grownBy b q) (k : b.grownBy c q) : a.grownBy c q :=
  ⟨k.os.trans h.os, k.tape.trans h.tape, k.output.trans h.output, Nat.le_trans h.size k.size, fun i hi hn => (k.block i (Nat.lt_of_lt_of_le hi h.size) hn).trans (h.block i hi hn)⟩
theorem on_set (w : World) (q i : Nat) (u : Value) : w.grownBy (w.setCell ⟨q, i, none⟩ u) (some q) := setCell_grown w ⟨q, i, none⟩ u
theorem on_drewN (w : World) (k : Nat) (q : Option Nat) : w.grownBy (w.drewN k) q := grown_below (below_drewN (Below.refl _ _) k) q
theorem on_new {a w w' : World} {q : Option Nat} {g : Nat} (h : a.grownBy w q) (k : w.grownBy w' (some g)) (hg : a.heap.size ≤ g) : a.grownBy w' q :=
  ⟨k.os.trans h.os, k.tape.trans h.tape, k.output.trans h.output, Nat.le_trans h.size k.size, fun i hi hn => (k.block i (Nat.lt_of_lt_of_le hi h.size) (fun e => by injection e with e; omega)).trans (h.block i hi hn)⟩

theorem var_on {w w' : World} {n : String} {cs : Array Value} {q : Nat} (h : w.var? Tryd.prog n = some cs) (hb : w.grownBy w' (some q)) (hq : ∀ g, Tryd.prog.globalNamed n = some g → g ≠ q) : w'.var? Tryd.prog n = some cs := by
  unfold World.var? at h ⊢
  cases hg : Tryd.prog.globalNamed n with
  | none => rw [hg] at h; exact h
  | some g =>
    rw [hg] at h
    simp only [Option.bind_some] at h ⊢
    cases hh : w.heap[g]? with
    | none => rw [hh] at h; simp at h
    | some o => rw [hb.block g (Array.getElem?_eq_some_iff.1 hh).1 (fun e => hq g hg (by injection e)), hh]; rw [hh] at h; exact h
theorem gn0 : Tryd.prog.globalNamed "internal/strconv.uint64pow10" = some 0 := by kernel_rfl
theorem gn2 : Tryd.prog.globalNamed "strconv.ErrSyntax" = some 2 := by kernel_rfl
theorem gn3 : Tryd.prog.globalNamed "strconv.ErrRange" = some 3 := by kernel_rfl
/-- The variables that a reader reads, and that its block is none of them. -/
structure Env (w : World) (q : Nat) : Prop where
  mx : Mx w
  tabs : Pl.Tabs w
  low : 6 ≤ q
theorem Env.keep {w w' : World} {q : Nat} (h : Env w q) (hg : w.grownBy w' (some q)) : Env w' q := by
  obtain ⟨⟨m, hm⟩, ⟨h1, ⟨t, p, h2⟩, t', p', h3⟩, hl⟩ := h
  refine ⟨⟨m, hg.cell hm (by simp; omega)⟩, ⟨?_, ⟨t, p, ?_⟩, t', p', ?_⟩, hl⟩
  · exact var_on h1 hg fun g e => by rw [gn0] at e; injection e with e; omega
  · exact var_on h2 hg fun g e => by rw [gn2] at e; injection e with e; omega
  · exact var_on h3 hg fun g e => by rw [gn3] at e; injection e with e; omega
theorem Rd.below {w w' : World} {b : Nat} {l : List UInt8} {n : Int} (h : Rd w b l n) (hb : Below w.heap.size w w') : Rd w' b l n := Blk.below h hb (Blk.lt h)
theorem Rd.far {w w' : World} {b g : Nat} {l : List UInt8} {n : Int} (h : Rd w b l n) (hb : w.grownBy w' (some g)) (hne : b ≠ g) : Rd w' b l n := Blk.grown h hb (by simpa using hne)

/-- Where the kids of a node that is being read may lie. -/
def ApartR (w0 : World) (b : Nat) (sv : Value) : Nat → Prop := fun x => w0.heap.size ≤ x ∧ x ≠ b ∧ sv.ownBlock ≠ some x
/-- Since w0, in which q is the reader's block: a node's block b and its kids' row sv, with the kids xs so far. -/
def BR (w0 w : World) (q b : Nat) (d : Nd) (sv : Value) (f : Fo) (xs : List Value) : Prop :=
  Blk w b 46 (cellsN d sv) ∧ w.ownsRow w0.heap.size 25 1 sv xs.length xs ∧ RepS (ApartR w0 b sv) w f xs ∧ w0.heap.size ≤ b ∧ q < w0.heap.size ∧ w0.grownBy w (some q)
theorem BR.start {w0 w : World} {q b : Nat} {d : Nd} (h : Blk w b 46 (cellsN d (.slice none 0 0))) (hb : w0.heap.size ≤ b) (hq : q < w0.heap.size) (hw : w0.grownBy w (some q)) : BR w0 w q b d (.slice none 0 0) .no [] :=
  ⟨h, ⟨by simp, .inl ⟨rfl, rfl⟩⟩, by unfold RepS; rfl, hb, hq, hw⟩
theorem BR.keep {w0 w w' : World} {q b : Nat} {d : Nd} {sv : Value} {f : Fo} {xs : List Value} (h : BR w0 w q b d sv f xs) (hg : w.grownBy w' (some q)) : BR w0 w' q b d sv f xs := by
  obtain ⟨h1, h2, h3, h4, h5, h6⟩ := h
  refine ⟨h1.grown hg (by simp; omega), h2.kept hg ?_, ?_, h4, h5, on_trans h6 hg⟩
  · rcases h : sv.ownBlock with _ | g
    · exact .inl rfl
    · have := (h2.lt g h).1
      exact .inr (by simp; omega)
  · refine h3.keep hg.size (fun x hx hl => ?_) (fun x hx _ => hx)
    obtain ⟨x1, x2, x3⟩ := hx
    exact hg.block x hl (by simp; omega)
theorem BR.sv {w0 w : World} {q b : Nat} {d : Nd} {sv : Value} {f : Fo} {xs : List Value} (h : BR w0 w q b d sv f xs) : w.cell? ⟨b, 4, none⟩ = some sv ∧ w.frozen? ⟨b, 4, none⟩ = false ∧ b < w.heap.size := by
  obtain ⟨h1, _⟩ := h
  exact ⟨h1.cell 4, h1.frozen 4, h1.lt⟩
theorem BR.own {w0 w : World} {q b : Nat} {d : Nd} {sv : Value} {f : Fo} {xs : List Value} (h : BR w0 w q b d sv f xs) : w.ownsRow w0.heap.size 25 1 sv xs.length xs := by
  obtain ⟨_, h, _⟩ := h; exact h
theorem BR.on {w0 w : World} {q b : Nat} {d : Nd} {sv : Value} {f : Fo} {xs : List Value} (h : BR w0 w q b d sv f xs) : w0.grownBy w (some q) := by
  obtain ⟨_, _, _, _, _, h⟩ := h; exact h
theorem BR.newer {w0 w w' : World} {q b : Nat} {d dk : Nd} {sv v : Value} {f k : Fo} {xs : List Value} (h : BR w0 w q b d sv f xs) (hk : RepS (fun x => w.heap.size ≤ x) w' (.node dk k .no) [v]) : RepS (ApartR w0 b sv) w' (.node dk k .no) [v] := by
  obtain ⟨h1, h2, h3, h4, h5, h6⟩ := h
  have hlt := h1.lt
  have hs := h6.size
  refine hk.more fun x hx _ => ⟨by omega, by omega, fun e => ?_⟩
  have := (h2.lt x e).2
  omega
/-- One kid more: an append, and the store of what it gives. W: the world in which the append was made. -/
theorem BR.step {w0 W w1 : World} {q b g cap : Nat} {d dk : Nd} {sv v : Value} {f k : Fo} {xs : List Value} (h : BR w0 W q b d sv f xs) (hk : RepS (ApartR w0 b sv) W (.node dk k .no) [v])
    (hown : w1.ownsRow w0.heap.size 25 1 (.slice (some ⟨g, 0, none⟩) (xs.length + 1) cap) (xs.length + 1) (xs ++ [v])) (hg : W.grownBy w1 sv.ownBlock) (hor : sv.ownBlock = some g ∨ g = W.heap.size) :
    BR w0 (w1.setCell ⟨b, 4, none⟩ (.slice (some ⟨g, 0, none⟩) (xs.length + 1) cap)) q b d (.slice (some ⟨g, 0, none⟩) (xs.length + 1) cap) (f.snoc dk k) (xs ++ [v]) := by
  obtain ⟨h1, h2, h3, h4, h5, h6⟩ := h
  have hlt := h1.lt
  have hne : sv.ownBlock ≠ some b := own_blk_ne h2 h1 (by decide)
  have hb1 : Blk w1 b 46 (cellsN d sv) := h1.grown hg (fun e => hne e.symm)
  have hgb : g ≠ b := by
    have := own_blk_ne hown hb1 (by decide)
    intro e; subst e; exact this rfl
  have hg0 : w0.heap.size ≤ g := (hown.lt g rfl).1
  have hon1 : w0.grownBy w1 (some q) := by
    rcases hs : sv.ownBlock with _ | g'
    · rw [hs] at hg
      exact ⟨hg.os.trans h6.os, hg.tape.trans h6.tape, hg.output.trans h6.output, Nat.le_trans h6.size hg.size, fun i hi hn => (hg.block i (Nat.lt_of_lt_of_le hi h6.size) (by simp)).trans (h6.block i hi hn)⟩
    · rw [hs] at hg
      exact on_new h6 hg (h2.lt g' hs).1
  refine ⟨?_, ?_, ?_, h4, h5, on_new hon1 (on_set w1 b 4 _) h4⟩
  · have := hb1.set_ 4 (.slice (some ⟨g, 0, none⟩) (xs.length + 1) cap)
    rwa [cellsN_set] at this
  · rw [List.length_append, List.length_singleton]
    exact hown.kept (setCell_grown _ _ _) (.inr (by show some g ≠ some b; simpa using hgb))
  · have hS : ∀ x, ApartR w0 b sv x → x < W.heap.size → ApartR w0 b (.slice (some ⟨g, 0, none⟩) (xs.length + 1) cap) x := by
      intro x hx hl
      obtain ⟨x1, x2, x3⟩ := hx
      refine ⟨x1, x2, ?_⟩
      show some g ≠ some x
      intro e
      injection e with e
      subst e
      rcases hor with hor | hor
      · exact x3 hor
      · omega
    have hkeep : ∀ x, ApartR w0 b sv x → x < W.heap.size → (w1.setCell ⟨b, 4, none⟩ (.slice (some ⟨g, 0, none⟩) (xs.length + 1) cap)).heap[x]? = W.heap[x]? := by
      intro x hx hl
      obtain ⟨x1, x2, x3⟩ := hx
      rw [Below.heap_setCell w1 ⟨b, 4, none⟩ _ x x2]
      exact hg.block x hl (fun e => x3 e.symm)
    exact RepS.snoc (hk.keep (by simp; exact hg.size) hkeep hS) (h3.keep (by simp; exact hg.size) hkeep hS)
/-- The node that was read, with its kids. -/
theorem BR.done {w0 w : World} {q b : Nat} {d : Nd} {sv : Value} {f : Fo} {xs : List Value} (h : BR w0 w q b d sv f xs) : RepS (fun x => w0.heap.size ≤ x) w (.node d f .no) [.pointer (some ⟨b, 0, none⟩)] := by
  obtain ⟨h1, h2, h3, h4, h5, h6⟩ := h
  exact RepS.mk h1 h2 (h3.more fun x hx _ => hx.1) h4 (fun g hg => (h2.lt g hg).1)
end Go.Proofs.YtdpdoigmjnkmdaaDoor.Tr
