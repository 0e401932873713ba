/- Tokens; the walk of the reference's plain. -/
import Derived.Test.YtkiedbanobjmlaaDoorR2
import Derived.Laws.Rows
set_option linter.unusedSimpArgs false
set_option linter.unusedVariables false
namespace Go.Proofs.YtkiedbanobjmlaaDoor.Lx
open Go.RowKit
open Pl Fl

/-- Block g is just the cells cs of element type t, none frozen. -/
def Blk (w : World) (g : Nat) (t : TypeId) (cs : Array Value) : Prop := w.heap[g]? = some (.cells cs t (0, 0))
section
variable {w w' : World} {g : Nat} {t : TypeId} {cs : Array Value}
theorem Blk.lt (h : Blk w g t cs) : g < w.heap.size := by
  rcases Nat.lt_or_ge g w.heap.size with hlt | hge
  · exact hlt
  · unfold Blk at h; rw [Array.getElem?_eq_none hge] at h; cases h
theorem Blk.cell (h : Blk w g t cs) (i : Nat) : w.cell? ⟨g, i, none⟩ = cs[i]? := cell_of_row w g i cs t (0, 0) h
theorem Blk.frozen (h : Blk w g t cs) (i : Nat) : w.frozen? ⟨g, i, none⟩ = false := by
  unfold Blk at h
  simp [World.frozen?, h]
theorem Blk.new (w : World) (t : TypeId) (cs : Array Value) : Blk (w.alloc (.cells cs t)) w.heap.size t cs := heap_alloc_new w _
theorem Blk.drewN (h : Blk w g t cs) (n : Nat) : Blk (w.drewN n) g t cs := h
theorem Blk.alloc (h : Blk w g t cs) (o : Obj) : Blk (w.alloc o) g t cs := (Below.heap_alloc w o g h.lt).trans h
theorem Blk.set_ (h : Blk w g t cs) (i : Nat) (u : Value) : Blk (w.setCell ⟨g, i, none⟩ u) g t (cs.setIfInBounds i u) := by
  unfold Blk at h ⊢
  simp [World.setCell, Array.getElem?_modify, h]
theorem Blk.far (h : Blk w g t cs) {p : Addr} (hp : g ≠ p.block) (u : Value) : Blk (w.setCell p u) g t cs := (Below.heap_setCell w p u g hp).trans h
theorem Blk.below {B : Nat} (h : Blk w g t cs) (hb : Below B w w') (hg : g < B) : Blk w' g t cs := (hb.block g hg).trans h
theorem Blk.grown {row : Option Nat} (h : Blk w g t cs) (hb : w.grownBy w' row) (hg : some g ≠ row) : Blk w' g t cs := (hb.block g h.lt hg).trans h
end

/-- A token, without its places. -/
structure Tk where
  kind : Nat
  text : ByteArray
  n : Int
/-- Its cells, with its places. -/
def Tk.vals (t : Tk) (p q : Nat × Nat) : List Value := [.int .u8 t.kind, C p, C q, .string t.text, .int .i64 t.n]
def Tk.val (t : Tk) (p q : Nat × Nat) : Value := .agg (t.vals p q).toArray
def noTk : Tk := ⟨0, ⟨#[]⟩, 0⟩
theorem tok_load {w : World} {b : Nat} {v0 v1 v2 v3 v4 : Value} (h : Blk w b 35 #[v0, v1, v2, v3, v4]) : (loadVar 35 ⟨b, 0, none⟩).run Tryd.prog w = .ok (.agg #[v0, v1, v2, v3, v4]) w := by
  have hl : (loadCells ⟨b, 0, none⟩ 5).run Tryd.prog w = .ok #[v0, v1, v2, v3, v4] w :=
    run_loadCells_list (P := Tryd.prog) w ⟨b, 0, none⟩ [v0, v1, v2, v3, v4] (fun j v hv => by
      have := h.cell j
      have e : (⟨b, 0, none⟩ : Addr).add j = ⟨b, j, none⟩ := by
        unfold Addr.add
        by_cases h0 : j = 0
        · subst h0; rfl
        · rw [if_neg h0]; simp
      rw [e, this]
      simpa using hv)
  simp [loadVar, Sem.run_bind, Tryd.isAgg35, Tryd.sizeOf35, hl]
theorem tok_ret1 {fn : Func} {p : Tmp} (h : fn.results = #[.cell p 35]) (tmps : Array Value) (w : World) (b : Nat) (v0 v1 v2 v3 v4 : Value) (hp : tmps.getD p undef = .pointer (some ⟨b, 0, none⟩)) (hb : Blk w b 35 #[v0, v1, v2, v3, v4]) :
    (results fn tmps).run Tryd.prog w = .ok (.agg #[v0, v1, v2, v3, v4]) w := by
  have hp' : tmps[p]?.getD undef = .pointer (some ⟨b, 0, none⟩) := by simpa using hp
  simp [results, h, hp', asAddr, tok_load hb]
theorem tok_ret2 {fn : Func} {p q : Tmp} (h : fn.results = #[.cell p 35, .tmp q]) (tmps : Array Value) (w : World) (b : Nat) (v0 v1 v2 v3 v4 : Value) (hp : tmps.getD p undef = .pointer (some ⟨b, 0, none⟩)) (hb : Blk w b 35 #[v0, v1, v2, v3, v4]) :
    (results fn tmps).run Tryd.prog w = .ok (.tuple #[.agg #[v0, v1, v2, v3, v4], tmps.getD q undef]) w := by
  have hp' : tmps[p]?.getD undef = .pointer (some ⟨b, 0, none⟩) := by simpa using hp
  simp [results, h, hp', asAddr, tok_load hb, Sem.run_bind]
theorem tok_ret3 {fn : Func} {p q r : Tmp} (h : fn.results = #[.cell p 35, .tmp q, .tmp r]) (tmps : Array Value) (w : World) (b : Nat) (v0 v1 v2 v3 v4 : Value) (hp : tmps.getD p undef = .pointer (some ⟨b, 0, none⟩)) (hb : Blk w b 35 #[v0, v1, v2, v3, v4]) :
    (results fn tmps).run Tryd.prog w = .ok (.tuple #[.agg #[v0, v1, v2, v3, v4], tmps.getD q undef, tmps.getD r undef]) w := by
  have hp' : tmps[p]?.getD undef = .pointer (some ⟨b, 0, none⟩) := by simpa using hp
  simp [results, h, hp', asAddr, tok_load hb, Sem.run_bind]
def plainT (s : ByteArray) : Tk := if s.data.toList = [60, 62] then ⟨5, ⟨#[35]⟩, 0⟩ else if s.data.toList = [38] then ⟨6, ⟨#[65, 78, 68]⟩, 0⟩ else if s.data.toList = [126] then ⟨6, ⟨#[78, 79, 84]⟩, 0⟩ else ⟨5, s, 0⟩
theorem run_store_complexL {P : Program} {w : World} {a : Addr} {m : Mode} (k : FloatKind) (x y : Nat) : (store a (.complex k x y) m).run P w = stored P w a (.complex k x y) m := run_store P w a _ m rfl
attribute [local go_sem] run_store_complexL

set_option maxHeartbeats 1600000 in
theorem plain_any (s : ByteArray) (w : World) : Calls Tryd.prog 51 #[.string s] w fun e w' => e = .returned ((plainT s).val (0, 0) (0, 0)) ∧ Below w.heap.size w w' := by
  go_enter Tryd.func51, Tryd.ntmps51
  have hl : s.toList = s.data.toList := ByteArray.toList_eq s
  by_cases h1 : s.data.toList = [60, 62]
  · have b0 : (s.toList == [60, 62]) = true := by rw [hl, h1]; rfl
    have HP := Lib.hid (show plainT s = ⟨5, ⟨#[35]⟩, 0⟩ by unfold plainT; rw [if_pos h1])
    clear hl
    go_wp2
    refine bodyPost_ret (tok_ret1 rfl _ _ w.heap.size _ _ _ _ _ rfl (Blk.new _ _ _)) rfl ?_
    exact ⟨by rw [HP.out]; simp [Tk.val, Tk.vals, C, fl_0], (Below.refl _ _).alloc (Nat.le_refl _) _⟩
  have b0 : (s.toList == [60, 62]) = false := by rw [hl]; simpa using h1
  by_cases h2 : s.data.toList = [38]
  · have b1 : (s.toList == [38]) = true := by rw [hl, h2]; rfl
    have HP := Lib.hid (show plainT s = ⟨6, ⟨#[65, 78, 68]⟩, 0⟩ by unfold plainT; rw [if_neg h1, if_pos h2])
    clear hl
    go_wp2
    refine bodyPost_ret (tok_ret1 rfl _ _ w.heap.size _ _ _ _ _ rfl (Blk.new _ _ _)) rfl ?_
    exact ⟨by rw [HP.out]; simp [Tk.val, Tk.vals, C, fl_0], (Below.refl _ _).alloc (Nat.le_refl _) _⟩
  have b1 : (s.toList == [38]) = false := by rw [hl]; simpa using h2
  by_cases h3 : s.data.toList = [126]
  · have b2 : (s.toList == [126]) = true := by rw [hl, h3]; rfl
    have HP := Lib.hid (show plainT s = ⟨6, ⟨#[78, 79, 84]⟩, 0⟩ by unfold plainT; rw [if_neg h1, if_neg h2, if_pos h3])
    clear hl
    go_wp2
    refine bodyPost_ret (tok_ret1 rfl _ _ w.heap.size _ _ _ _ _ rfl (Blk.new _ _ _)) rfl ?_
    exact ⟨by rw [HP.out]; simp [Tk.val, Tk.vals, C, fl_0], (Below.refl _ _).alloc (Nat.le_refl _) _⟩
  have b2 : (s.toList == [126]) = false := by rw [hl]; simpa using h3
  have HP := Lib.hid (show plainT s = ⟨5, s, 0⟩ by unfold plainT; rw [if_neg h1, if_neg h2, if_neg h3])
  clear hl
  go_wp2
  refine bodyPost_ret (tok_ret1 rfl _ _ w.heap.size _ _ _ _ _ rfl (Blk.new _ _ _)) rfl ?_
  exact ⟨by rw [HP.out]; simp [Tk.val, Tk.vals, C, fl_0], (Below.refl _ _).alloc (Nat.le_refl _) _⟩
end Go.Proofs.YtkiedbanobjmlaaDoor.Lx
