/- Trees that are being built: which blocks a row of trees lies in; a block that is known whole. -/
import Derived.Test.YtecmjhohniipoaaT4
import Derived.Laws.Rows
set_option linter.unusedSimpArgs false
set_option linter.unusedVariables false
namespace Go.Proofs.Ytecmjhohniipoaa.Tr
open Go.RowKit
open Fl

/-- Block g is just the cells cs of element type t, none frozen. -/
def Blk (w : World) (g : Nat) (t : TypeId) (cs : Array Value) : Prop := w.heap[g]? = some (.cells cs t (0, 0))
section
variable {w w' : World} {g : Nat} {t : TypeId} {cs : Array Value}
theorem Blk.lt (h : Blk w g t cs) : g < w.heap.size := by
  rcases Nat.lt_or_ge g w.heap.size with hlt | hge
  · exact hlt
  · unfold Blk at h; rw [Array.getElem?_eq_none hge] at h; cases h
theorem Blk.cell (h : Blk w g t cs) (i : Nat) : w.cell? ⟨g, i, none⟩ = cs[i]? := cell_of_row w g i cs t (0, 0) h
theorem Blk.frozen (h : Blk w g t cs) (i : Nat) : w.frozen? ⟨g, i, none⟩ = false := by
  unfold Blk at h
  simp [World.frozen?, h]
theorem Blk.new (w : World) (t : TypeId) (cs : Array Value) : Blk (w.alloc (.cells cs t)) w.heap.size t cs := heap_alloc_new w _
theorem Blk.drew (h : Blk w g t cs) : Blk w.drew g t cs := h
theorem Blk.drewN (h : Blk w g t cs) (n : Nat) : Blk (w.drewN n) g t cs := h
theorem Blk.alloc (h : Blk w g t cs) (o : Obj) : Blk (w.alloc o) g t cs := (Below.heap_alloc w o g h.lt).trans h
theorem Blk.set_ (h : Blk w g t cs) (i : Nat) (u : Value) : Blk (w.setCell ⟨g, i, none⟩ u) g t (cs.setIfInBounds i u) := by
  unfold Blk at h ⊢
  simp [World.setCell, Array.getElem?_modify, h]
theorem Blk.far (h : Blk w g t cs) {p : Addr} (hp : g ≠ p.block) (u : Value) : Blk (w.setCell p u) g t cs := (Below.heap_setCell w p u g hp).trans h
theorem Blk.below {B : Nat} (h : Blk w g t cs) (hb : Below B w w') (hg : g < B) : Blk w' g t cs := (hb.block g hg).trans h
theorem Blk.grown {row : Option Nat} (h : Blk w g t cs) (hb : w.grownBy w' row) (hg : some g ≠ row) : Blk w' g t cs := (hb.block g h.lt hg).trans h
theorem Blk.ne_ {g' : Nat} {t' : TypeId} {cs' : Array Value} (h : Blk w g t cs) (h' : Blk w g' t' cs') (hne : t ≠ t') : g ≠ g' := by
  rintro rfl
  unfold Blk at h h'
  rw [h] at h'
  injection h' with h'
  injection h' with _ ht
  exact hne ht
theorem own_blk_ne {base : Nat} {e : TypeId} {size n : Nat} {v : Value} {xs : List Value} (h : w.ownsRow base e size v n xs) (hg : Blk w g t cs) (hne : e ≠ t) : v.ownBlock ≠ some g := by
  rcases h.2 with ⟨rfl, _⟩ | ⟨g', cap, cur, rfl, _, hh, _⟩
  · simp [Value.ownBlock]
  · intro he
    have : g' = g := by simpa [Value.ownBlock] using he
    subst this
    exact Blk.ne_ (t := e) hh hg hne rfl
end

/-- A node's block, whole. -/
def cellsN (d : Nd) (s : Value) : Array Value := #[.int .u8 d.kind, C d.pos, .string d.name, .int .i64 d.n, s]
theorem Blk.at_ {w : World} {b : Nat} {d : Nd} {s : Value} (h : Blk w b 42 (cellsN d s)) : At w b d s :=
  ⟨h.cell 0, h.cell 1, h.cell 2, h.cell 3, h.cell 4⟩

/-- .. and all of them lie in blocks of which S holds. -/
def RepS (S : Nat → Prop) (w : World) : Fo → List Value → Prop
  | .no, vs => vs = []
  | .node d k r, vs => ∃ b A c ks vs', vs = .pointer (some ⟨b, 0, none⟩) :: vs' ∧ S b ∧ At w b d (.slice A ks.length c) ∧ (0 < ks.length → ∃ g off, A = some ⟨g, off, none⟩ ∧ S g ∧ g < w.heap.size) ∧ Reads w w.heap.size 1 A ks.length ks ∧ RepS S w k ks ∧ RepS S w r vs'
theorem RepS.rep {S : Nat → Prop} {w : World} : ∀ {f : Fo} {vs : List Value}, RepS S w f vs → Rep w f vs
  | .no, vs, h => by unfold RepS at h; unfold Rep; exact h
  | .node d k r, vs, h => by
    unfold RepS at h; unfold Rep
    obtain ⟨b, A, c, ks, vs', h1, h2, h3, h4, h5, h6, h7⟩ := h
    exact ⟨b, A, c, ks, vs', h1, h3, h5, RepS.rep h6, RepS.rep h7⟩
theorem Rep.lt_ {w : World} : ∀ {f : Fo} {vs : List Value}, Rep w f vs → RepS (fun x => x < w.heap.size) w f vs
  | .no, vs, h => by unfold RepS; unfold Rep at h; exact h
  | .node d k r, vs, h => by
    unfold Rep at h; unfold RepS
    obtain ⟨b, A, c, ks, vs', h1, h3, h5, h6, h7⟩ := h
    refine ⟨b, A, c, ks, vs', h1, h3.lt, h3, fun h0 => ?_, h5, Rep.lt_ h6, Rep.lt_ h7⟩
    obtain ⟨g, off, u, e, hb, _⟩ := h5.spot h0
    exact ⟨g, off, e, hb, hb⟩
/-- A row of trees stands where each block of which S holds is as it was. -/
theorem RepS.keep {S S' : Nat → Prop} {w w' : World} (hsz : w.heap.size ≤ w'.heap.size) (hk : ∀ x, S x → x < w.heap.size → w'.heap[x]? = w.heap[x]?) (hS : ∀ x, S x → x < w.heap.size → S' x) : ∀ {f : Fo} {vs : List Value}, RepS S w f vs → RepS S' w' f vs
  | .no, vs, h => by unfold RepS at h ⊢; exact h
  | .node d k r, vs, h => by
    unfold RepS at h ⊢
    obtain ⟨b, A, c, ks, vs', h1, h2, h3, h4, h5, h6, h7⟩ := h
    have hb := hk b h2 h3.lt
    have hc : ∀ o, w'.cell? ⟨b, o, none⟩ = w.cell? ⟨b, o, none⟩ := fun o => World.cell?_of_block hb
    refine ⟨b, A, c, ks, vs', h1, hS b h2 h3.lt, ?_, fun h0 => ?_, ⟨h5.1, fun h0 => ?_⟩, RepS.keep hsz hk hS h6, RepS.keep hsz hk hS h7⟩
    · obtain ⟨a0, a1, a2, a3, a4⟩ := h3
      exact ⟨(hc 0).trans a0, (hc 1).trans a1, (hc 2).trans a2, (hc 3).trans a3, (hc 4).trans a4⟩
    · obtain ⟨g, off, e, hg, hl⟩ := h4 h0
      exact ⟨g, off, e, hS g hg hl, by omega⟩
    · obtain ⟨g, off, e, hg, hl⟩ := h4 h0
      obtain ⟨ad, e2, hlt, hcl⟩ := h5.2 h0
      rw [e] at e2
      injection e2 with e2
      subst e2
      refine ⟨_, e, by simp; omega, fun j u hu => ?_⟩
      rw [← hcl j u hu]
      refine World.cell?_of_block ?_
      rw [block_of_add]
      exact hk g hg hl
theorem RepS.below {S : Nat → Prop} {w w' : World} (hb : Below w.heap.size w w') {f : Fo} {vs : List Value} (h : RepS S w f vs) : RepS S w' f vs :=
  h.keep hb.size (fun x _ hx => hb.block x hx) (fun x hx _ => hx)
theorem RepS.more {S S' : Nat → Prop} {w : World} {f : Fo} {vs : List Value} (h : RepS S w f vs) (hS : ∀ x, S x → x < w.heap.size → S' x) : RepS S' w f vs :=
  h.keep (Nat.le_refl _) (fun _ _ _ => rfl) hS
def Fo.snoc : Fo → Nd → Fo → Fo
  | .no, d, k => .node d k .no
  | .node d' k' r, d, k => .node d' k' (r.snoc d k)
theorem RepS.snoc {S : Nat → Prop} {w : World} {d : Nd} {k : Fo} {v : Value} (h2 : RepS S w (.node d k .no) [v]) : ∀ {f : Fo} {vs : List Value}, RepS S w f vs → RepS S w (f.snoc d k) (vs ++ [v])
  | .no, vs, h => by unfold RepS at h; subst h; exact h2
  | .node d' k' r, vs, h => by
    unfold RepS at h
    obtain ⟨b, A, c, ks, vs', rfl, g2, g3, g4, g5, g6, g7⟩ := h
    show RepS S w (.node d' k' (r.snoc d k)) _
    unfold RepS
    exact ⟨b, A, c, ks, vs' ++ [v], rfl, g2, g3, g4, g5, g6, RepS.snoc h2 g7⟩
/-- A node's block and its kids make a tree. -/
theorem RepS.mk {S : Nat → Prop} {w : World} {b base : Nat} {d : Nd} {s : Value} {f : Fo} {xs : List Value} (hb : Blk w b 42 (cellsN d s)) (hown : w.ownsRow base 26 1 s xs.length xs) (hk : RepS S w f xs) (hSb : S b) (hSr : ∀ g, s.ownBlock = some g → S g) :
    RepS S w (.node d f .no) [.pointer (some ⟨b, 0, none⟩)] := by
  obtain ⟨A, c, rfl, hR⟩ := own_form hown
  unfold RepS
  refine ⟨b, A, c, xs, [], rfl, hSb, hb.at_, fun h0 => ?_, hR, hk, rfl⟩
  obtain ⟨g, cap, hv, _, hlt⟩ := hown.form h0
  have hA : A = some ⟨g, 0, none⟩ := by injection hv
  subst hA
  exact ⟨g, 0, rfl, hSr g rfl, hlt⟩
end Go.Proofs.Ytecmjhohniipoaa.Tr
