/- An env in memory; made, Deep, top. -/
import Derived.Test.YtibpekgmgidebaaC2
import Derived.Test.YtibpekgmgidebaaL3
import Derived.Laws.Rows
import Derived.RegionTactic
import Derived.Test.YtibpekgmgidebaaDrawn
set_option linter.unusedSimpArgs false
set_option linter.unusedVariables false
namespace Go.Proofs.Ytibpekgmgidebaa.Sc
open Go.RowKit
open Od

/-- An entry. -/
structure Ent where
  name : Nm
  kind : Nat
  type : Int
  v : Value
  level : Int
  at_ : Int
  module : ByteArray
def Ent.cells (e : Ent) : List Value := [.string (S e.name), .int .u8 e.kind, .int .i64 e.type, e.v, .int .i64 e.level, .int .i64 e.at_, .string e.module]
def Ent.val (e : Ent) : Value := .agg #[.string (S e.name), .int .u8 e.kind, .int .i64 e.type, e.v, .int .i64 e.level, .int .i64 e.at_, .string e.module]
def Ent.item (e : Ent) (x : Value) : Value := .agg #[.string (S e.name), .int .u8 e.kind, .int .i64 e.type, e.v, .int .i64 e.level, .int .i64 e.at_, .string e.module, x]
def itm (x : Ent × Value) : Value := x.1.item x.2
def updI (f : Nm → Ent × Value) (m : Nm) (x : Ent × Value) : Nm → Ent × Value := fun n => if n = m then x else f n
theorem itm_upd (f : Nm → Ent × Value) (m : Nm) (x : Ent × Value) : updV (fun k => itm (f k)) m (itm x) = fun k => itm (updI f m x k) := by
  funext n
  unfold updV updI
  split <;> rfl
/-- A scope: closed?, its map's block, its names, what each means. -/
structure Lvl where
  cl : Bool
  b : Nat
  ks : List Nm
  f : Nm → Ent × Value
def rowL (ls : List Lvl) : List Value := ls.flatMap fun l => [.bool l.cl, .map (some l.b)]
theorem rowL_len (ls : List Lvl) : (rowL ls).length = ls.length * 2 := by
  induction ls with
  | nil => rfl
  | cons l ls ih => unfold rowL at ih ⊢; rw [List.flatMap_cons, List.length_append, ih]; simp; omega
theorem rowL_at (ls : List Lvl) {i : Nat} (h : i < ls.length) : (rowL ls)[i * 2]? = some (.bool ls[i].cl) ∧ (rowL ls)[i * 2 + 1]? = some (.map (some ls[i].b)) := by
  induction ls generalizing i with
  | nil => simp at h
  | cons l ls ih =>
    have e : rowL (l :: ls) = [.bool l.cl, .map (some l.b)] ++ rowL ls := by unfold rowL; rw [List.flatMap_cons]
    rw [e]
    rcases i with _ | i
    · exact ⟨rfl, rfl⟩
    · have := ih (i := i) (by simpa using h)
      rw [List.getElem?_append_right (by simp; omega), List.getElem?_append_right (by simp; omega)]
      simp only [List.length_cons, List.length_nil, List.getElem_cons_succ]
      rw [show (i + 1) * 2 - (0 + 1 + 1) = i * 2 by omega, show (i + 1) * 2 + 1 - (0 + 1 + 1) = i * 2 + 1 by omega]
      exact this
/-- The env's block, its row of scopes, their maps: all of it lies from B on. -/
structure EnvAt (w : World) (B vb : Nat) (ls : List Lvl) : Prop where
  lo : B ≤ vb
  blk : ∃ g cap, w.heap[vb]? = some (.cells #[.slice (some ⟨g, 0, none⟩) ls.length cap] 48 (0, 0)) ∧ w.ownsRow B 45 2 (.slice (some ⟨g, 0, none⟩) ls.length cap) ls.length (rowL ls) ∧ g ≠ vb
  ne : ls ≠ []
  maps : ∀ l ∈ ls, B ≤ l.b ∧ IsM w l.b l.ks (fun k => itm (l.f k))
  one : ∀ l ∈ ls, ∀ k ∈ l.ks, (l.f k).1.v.oneCell' = true ∧ (l.f k).2.oneCell' = true
  nd : (ls.map (·.b)).Nodup
theorem own_kept {w w' : World} {B g n cap : Nat} {e : TypeId} {size : Nat} {xs : List Value} (h : w.ownsRow B e size (.slice (some ⟨g, 0, none⟩) n cap) n xs) (hk : w'.heap[g]? = w.heap[g]?) : w'.ownsRow B e size (.slice (some ⟨g, 0, none⟩) n cap) n xs := by
  obtain ⟨h1, h2⟩ := h
  refine ⟨h1, ?_⟩
  rcases h2 with ⟨h2, h3⟩ | ⟨g', cap', cur, h2, h3, h4, h5⟩
  · cases h2
  · injection h2 with h2 h6 h7
    injection h2 with h2
    injection h2 with h2
    subst h2
    exact .inr ⟨g, cap', cur, by rw [h7], h3, hk.trans h4, h5⟩
theorem own_max {w : World} {B g n cap : Nat} {e : TypeId} {size : Nat} {xs : List Value} (h : w.ownsRow B e size (.slice (some ⟨g, 0, none⟩) n cap) n xs) : n ≤ 9223372036854775807 := by
  obtain ⟨h1, h2⟩ := h
  rcases h2 with ⟨h2, h3⟩ | ⟨g', cap', cur, h2, h3, h4, h5, h6, _⟩
  · cases h2
  · unfold maxLen at h6; omega
theorem own_blk {w : World} {B g n cap : Nat} {e : TypeId} {size : Nat} {xs : List Value} (h : w.ownsRow B e size (.slice (some ⟨g, 0, none⟩) n cap) n xs) : ∃ cur, B ≤ g ∧ w.heap[g]? = some (.cells cur e (0, 0)) ∧ cur.toList.take (n * size) = xs := by
  obtain ⟨h1, h2⟩ := h
  rcases h2 with ⟨h2, h3⟩ | ⟨g', cap', cur, h2, h3, h4, _, _, _, h5⟩
  · cases h2
  · injection h2 with h2 h6 h7
    injection h2 with h2
    injection h2 with h2
    subst h2
    exact ⟨cur, h3, h4, h5⟩
/-- Each of its blocks is as it was. -/
theorem EnvAt.kept {w w' : World} {B vb : Nat} {ls : List Lvl} (h : EnvAt w B vb ls) (hk : ∀ k, B ≤ k → k < w.heap.size → w'.heap[k]? = w.heap[k]?) : EnvAt w' B vb ls := by
  obtain ⟨lo, ⟨g, cap, h1, h2, h3⟩, ne, maps, one, nd⟩ := h
  obtain ⟨cur, b1, b2, _⟩ := own_blk h2
  refine ⟨lo, ⟨g, cap, (hk vb lo (Array.getElem?_eq_some_iff.1 h1).1).trans h1, own_kept h2 (hk g b1 (Array.getElem?_eq_some_iff.1 b2).1), h3⟩, ne, fun l hl => ?_, one, nd⟩
  obtain ⟨m1, m2⟩ := maps l hl
  exact ⟨m1, m2.kept (hk _ m1 m2.lt)⟩
theorem EnvAt.grown {w w' : World} {B vb : Nat} {ls : List Lvl} (h : EnvAt w B vb ls) (hg : w.grownBy w' none) : EnvAt w' B vb ls :=
  h.kept fun k _ hk => hg.block k hk (by simp)
theorem EnvAt.max {w : World} {B vb : Nat} {ls : List Lvl} (h : EnvAt w B vb ls) : ls.length ≤ 9223372036854775807 := by
  obtain ⟨lo, ⟨g, cap, h1, h2, h3⟩, ne, maps, one, nd⟩ := h
  exact own_max h2
theorem EnvAt.spots {w : World} {B vb : Nat} {ls : List Lvl} (h : EnvAt w B vb ls) : vb < w.heap.size ∧ ∃ g cap, g < w.heap.size ∧ w.cell? ⟨vb, 0, none⟩ = some (.slice (some ⟨g, 0, none⟩) ls.length cap) ∧ w.frozen? ⟨vb, 0, none⟩ = false ∧
    ∀ i (h : i < ls.length), w.cell? ⟨g, i * 2, none⟩ = some (.bool ls[i].cl) ∧ w.cell? ⟨g, i * 2 + 1, none⟩ = some (.map (some ls[i].b)) := by
  obtain ⟨lo, ⟨g, cap, h1, h2, h3⟩, ne, maps, one, nd⟩ := h
  obtain ⟨cur, b1, b2, b3⟩ := own_blk h2
  refine ⟨(Array.getElem?_eq_some_iff.1 h1).1, g, cap, (Array.getElem?_eq_some_iff.1 b2).1, ?_, ?_, fun i hi => ?_⟩
  · rw [cell_of_row _ _ _ _ _ _ h1]; rfl
  · simp [World.frozen?, h1]
  · obtain ⟨r1, r2⟩ := rowL_at ls hi
    rw [← b3, List.getElem?_take, if_pos (by omega)] at r1
    rw [← b3, List.getElem?_take, if_pos (by omega)] at r2
    rw [cell_of_row _ _ _ _ _ _ b2, cell_of_row _ _ _ _ _ _ b2]
    exact ⟨by simpa using r1, by simpa using r2⟩
set_option maxHeartbeats 1600000 in
theorem made_any {w : World} {B vb : Nat} {ls : List Lvl} (H : EnvAt w B vb ls) : Calls Try.prog 18 #[.pointer (some ⟨vb, 0, none⟩)] w fun e w' => e = .returned (.bool true) ∧ w' = w := by
  obtain ⟨h0, g, cap, h1, h2, h3, h4⟩ := H.spots
  have hn : 0 < ls.length := List.length_pos_iff.2 H.ne
  have x0 : (0 : Int) < (ls.length : Int) := by omega
  clear h4 H
  go_enter Try.func18, Try.ntmps18
  go_wp2
  go_ret
  exact ⟨rfl, rfl⟩
set_option maxHeartbeats 1600000 in
theorem deep_any {w : World} {B vb : Nat} {ls : List Lvl} (H : EnvAt w B vb ls) : Calls Try.prog 16 #[.pointer (some ⟨vb, 0, none⟩)] w fun e w' => e = .returned (.int .i64 ls.length) ∧ w' = w := by
  obtain ⟨h0, g, cap, h1, h2, h3, h4⟩ := H.spots
  clear h4 H
  go_enter Try.func16, Try.ntmps16
  go_wp2
  go_ret
  exact ⟨rfl, rfl⟩
theorem lvl_load {w : World} {b : Nat} {v0 v1 : Value} (h : w.heap[b]? = some (.cells #[v0, v1] 45 (0, 0))) : (loadVar 45 ⟨b, 0, none⟩).run Try.prog w = .ok (.agg #[v0, v1]) w := by
  have hl : (loadCells ⟨b, 0, none⟩ 2).run Try.prog w = .ok #[v0, v1] w :=
    run_loadCells_list (P := Try.prog) w ⟨b, 0, none⟩ [v0, v1] (fun j v hv => by
      have := cell_of_row w b j _ _ _ h
      have e : (⟨b, 0, none⟩ : Addr).add j = ⟨b, j, none⟩ := by
        unfold Addr.add
        by_cases h0 : j = 0
        · subst h0; rfl
        · rw [if_neg h0]; simp
      rw [e, this]
      simpa using hv)
  simp [loadVar, Sem.run_bind, Try.isAgg45, Try.sizeOf45, hl]
theorem lvl_ret1 {fn : Func} {p : Tmp} (h : fn.results = #[.cell p 45]) (tmps : Array Value) (w : World) (b : Nat) (v0 v1 : Value) (hp : tmps.getD p undef = .pointer (some ⟨b, 0, none⟩)) (hb : w.heap[b]? = some (.cells #[v0, v1] 45 (0, 0))) :
    (results fn tmps).run Try.prog w = .ok (.agg #[v0, v1]) w := by
  have hp' : tmps[p]?.getD undef = .pointer (some ⟨b, 0, none⟩) := by simpa using hp
  simp [results, h, hp', asAddr, lvl_load hb]
set_option maxHeartbeats 1600000 in
theorem top_any {w : World} {B vb : Nat} {ls : List Lvl} {l : Lvl} (H : EnvAt w B vb (ls ++ [l])) : Calls Try.prog 22 #[.pointer (some ⟨vb, 0, none⟩)] w fun e w' => e = .returned (.agg #[.bool l.cl, .map (some l.b)]) ∧ w.grownBy w' none := by
  obtain ⟨h0, g, cap, h1, h2, h3, h4⟩ := H.spots
  obtain ⟨q0, q1⟩ := h4 ls.length (by simp)
  rw [List.getElem_append_right (Nat.le_refl _)] at q0 q1
  simp only [Nat.sub_self, List.getElem_cons_zero, List.length_append, List.length_singleton] at q0 q1 h2
  have x1 : ((ls.length + 1 : Nat) : Int) - 1 = (ls.length : Nat) := by omega
  have x2 : ((ls.length : Int) + 1) - 1 = (ls.length : Nat) := by omega
  have x3 : (ls.length : Int) < ((ls.length + 1 : Nat) : Int) := by omega
  have hmx := H.max
  rw [List.length_append, List.length_singleton] at hmx
  have x4 : wrap64 (ls.length : Int) = (ls.length : Int) := by unfold wrap64; omega
  clear h4 H
  generalize ls.length = n at *
  go_enter Try.func22, Try.ntmps22
  go_wp2
  have hnb := heap_alloc_new w (.cells #[.bool false, .map none] 45)
  go_region
  try go_frame
  go_wp2
  refine bodyPost_ret (lvl_ret1 rfl _ _ w.heap.size _ _ rfl (heap_alloc_new w (.cells #[.bool l.cl, .map (some l.b)] 45))) rfl ?_
  have hg := World.grownBy_alloc w (.cells #[.bool l.cl, .map (some l.b)] 45) none
  exact ⟨rfl, hg.os, hg.tape, hg.output, hg.size, hg.block⟩
end Go.Proofs.Ytibpekgmgidebaa.Sc
