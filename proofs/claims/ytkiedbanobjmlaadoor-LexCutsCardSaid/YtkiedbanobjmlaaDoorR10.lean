/- The walk of the reference's Scan. -/
import Derived.Test.YtkiedbanobjmlaaDoorR9
import Derived.Deep.RegionLaw
import Derived.Deep.AppendLies
import Derived.Deep.DrawnRows
set_option linter.unusedSimpArgs false
set_option linter.unusedVariables false
namespace Go.Proofs.YtkiedbanobjmlaaDoor.Lx
open Go.RowKit
open Pl Fl
attribute [local go_sem] run_store_complexL

theorem ofN_nat {p : Nat × Nat} (h : isN p = true) : ofN (p.1 : Nat) (p.2 : Nat) = p := by
  have := isN_bd h
  rw [ofN_in (isR_mk (by omega) (by omega) (by omega) (by omega))]
  rfl
/-- The place behind some bytes more. -/
theorem beh_at {p q : Nat × Nat} (x : ByteArray) (hp : isN p = true) (hx : behN p x.data.toList = q) (hs : x.size ≤ 9223372036854775806) (w : World) :
    Calls Tryd.prog 30 #[.agg #[.int .i64 p.1, .int .i64 p.2], .string x] w fun e w' => e = .returned (.agg #[.int .i64 q.1, .int .i64 q.2]) ∧ Below w.heap.size w w' := by
  refine (rBehind_any (p.1 : Nat) (p.2 : Nat) x w hs).mono fun e w' ⟨h1, h2⟩ => ⟨?_, h2⟩
  rw [h1, ofN_nat hp, hx]
  rfl
theorem pos_at {q : Nat × Nat} (hq : isN q = true) (w : World) :
    Calls Tryd.prog 27 #[.agg #[.int .i64 q.1, .int .i64 q.2]] w fun e w' => e = .returned (.complex .f64 (fl q.1) (fl q.2)) ∧ Below w.heap.size w w' := by
  refine (rPos_any (q.1 : Nat) (q.2 : Nat) w).mono fun e w' ⟨h1, h2⟩ => ⟨?_, h2⟩
  rw [h1, ofN_nat hq]
  rfl
/-- What Scan hands back. -/
def scanEnd (W : World) (src : List UInt8) (r : Except (Nat × Nat) (List Tok)) (e : Ending) (w' : World) : Prop := match r with
  | .error (i, k) => e = .returned (.tuple #[.slice none 0 0, .complex .f64 (fl (at_ src i).1) (fl (at_ src i).2), .int .i64 k]) ∧ Below W.heap.size W w'
  | .ok l => ∃ g cap, e = .returned (.tuple #[.slice (some ⟨g, 0, none⟩) l.length cap, .complex .f64 0 0, .int .i64 0]) ∧ w'.ownsRow W.heap.size 35 5 (.slice (some ⟨g, 0, none⟩) l.length cap) l.length (flat src l) ∧ Below W.heap.size W w'
def strLen : Value → Nat
  | .string s => s.size
  | _ => 0
theorem own_mono {w : World} {b b' : Nat} {e : TypeId} {size : Nat} {v : Value} {n : Nat} {xs : List Value} (h : w.ownsRow b e size v n xs) (hb : b' ≤ b) : w.ownsRow b' e size v n xs := by
  obtain ⟨h1, h2⟩ := h
  refine ⟨h1, ?_⟩
  rcases h2 with ⟨rfl, rfl⟩ | ⟨g, cap, cur, e1, h3, h4⟩
  · exact .inl ⟨rfl, rfl⟩
  · exact .inr ⟨g, cap, cur, e1, by omega, h4⟩
theorem info35 : (Tryd.prog.info? 35).map (fun i => (i.zero, i.size, i.bytes)) = some (some (.agg #[.int .u8 0, .complex .f64 0 0, .complex .f64 0 0, .string ⟨#[]⟩, .int .i64 0]), 5, 64) := by kernel_rfl
theorem pos_one (w : World) : Calls Tryd.prog 27 #[.agg #[.int .i64 1, .int .i64 1]] w fun e w' => e = .returned (.complex .f64 (fl 1) (fl 1)) ∧ Below w.heap.size w w' := pos_at (q := (1, 1)) rfl w
section
variable {w wx wy : World} {b pl pc : Nat} {v0 v1 v2 v3 v4 lv : Value} {n base : Nat} {xs : List Value}
theorem own_below {e : TypeId} {size : Nat} (h : wx.ownsRow base e size lv n xs) (hb : Below wx.heap.size wx wy) : wy.ownsRow base e size lv n xs :=
  h.kept (row := none) ⟨hb.os, hb.tape, hb.output, hb.size, fun k hk _ => hb.block k hk⟩ (by cases lv.ownBlock <;> simp)
theorem below_grown {B : Nat} {row : Option Nat} (h : Below B w wx) (hg : wx.grownBy wy row) (hr : ∀ k, row = some k → B ≤ k) (hB : B ≤ wx.heap.size) : Below B w wy :=
  ⟨hg.os.trans h.os, hg.tape.trans h.tape, hg.output.trans h.output, Nat.le_trans h.size hg.size, fun k hk => (hg.block k (by omega) (fun e => by have := hr k e.symm; omega)).trans (h.block k hk)⟩
/-- What stands in memory while Scan goes on: the place, the row of tokens. -/
structure PS (w wx : World) (pl pc : Nat) (lv : Value) (n : Nat) (xs : List Value) : Prop where
  pos : Blk wx w.heap.size 50 #[.int .i64 pl, .int .i64 pc]
  own : wx.ownsRow (w.heap.size + 1) 35 5 lv n xs
  bel : Below w.heap.size w wx
/-- .. and the token that is being made. -/
structure RS (w wx : World) (b : Nat) (pl pc : Nat) (v0 v1 v2 v3 v4 lv : Value) (n : Nat) (xs : List Value) : Prop extends PS w wx pl pc lv n xs where
  tok : Blk wx b 35 #[v0, v1, v2, v3, v4]
  far : w.heap.size < b
  sep : lv.ownBlock ≠ some b
theorem PS.below (h : PS w wx pl pc lv n xs) (hb : Below wx.heap.size wx wy) : PS w wy pl pc lv n xs :=
  ⟨h.pos.below hb h.pos.lt, own_below h.own hb, h.bel.trans (hb.mono h.bel.size)⟩
theorem PS.drew (h : PS w wx pl pc lv n xs) : PS w wx.drew pl pc lv n xs := h.below (below_drewN (Below.refl _ _) 1)
theorem PS.lt (h : PS w wx pl pc lv n xs) : w.heap.size < wx.heap.size := h.pos.lt
theorem RS.below (h : RS w wx b pl pc v0 v1 v2 v3 v4 lv n xs) (hb : Below wx.heap.size wx wy) : RS w wy b pl pc v0 v1 v2 v3 v4 lv n xs :=
  ⟨h.toPS.below hb, h.tok.below hb h.tok.lt, h.far, h.sep⟩
theorem RS.drew (h : RS w wx b pl pc v0 v1 v2 v3 v4 lv n xs) : RS w wx.drew b pl pc v0 v1 v2 v3 v4 lv n xs := h.below (below_drewN (Below.refl _ _) 1)
theorem PS.tok (h : PS w wx pl pc lv n xs) (v0 v1 v2 v3 v4 : Value) : RS w (wx.alloc (.cells #[v0, v1, v2, v3, v4] 35)) wx.heap.size pl pc v0 v1 v2 v3 v4 lv n xs :=
  ⟨h.below ((Below.refl _ _).alloc (Nat.le_refl _) _), Blk.new _ _ _, h.lt, fun e => by have := (h.own.lt _ e).2; omega⟩
theorem grown_set (wx : World) (b i : Nat) (u : Value) : wx.grownBy (wx.setCell ⟨b, i, none⟩ u) (some b) :=
  ⟨rfl, rfl, rfl, by rw [World.size_setCell]; exact Nat.le_refl _, fun k _ hk => Below.heap_setCell wx _ u k (fun e => hk (by rw [e]))⟩
theorem RS.set_ (h : RS w wx b pl pc v0 v1 v2 v3 v4 lv n xs) (i : Nat) (u : Value) :
    PS w (wx.setCell ⟨b, i, none⟩ u) pl pc lv n xs :=
  ⟨h.pos.far (Nat.ne_of_lt h.far) u, h.own.kept (grown_set wx b i u) (.inr h.sep), h.bel.setCell (Nat.le_of_lt h.far) u⟩
theorem RS.set1 (h : RS w wx b pl pc v0 v1 v2 v3 v4 lv n xs) (u : Value) : RS w (wx.setCell ⟨b, 1, none⟩ u) b pl pc v0 u v2 v3 v4 lv n xs :=
  ⟨h.set_ 1 u, by have := h.tok.set_ 1 u; simpa using this, h.far, h.sep⟩
theorem RS.set2 (h : RS w wx b pl pc v0 v1 v2 v3 v4 lv n xs) (u : Value) : RS w (wx.setCell ⟨b, 2, none⟩ u) b pl pc v0 v1 u v3 v4 lv n xs :=
  ⟨h.set_ 2 u, by have := h.tok.set_ 2 u; simpa using this, h.far, h.sep⟩
theorem PS.setPos (h : PS w wx pl pc lv n xs) (ql qc : Nat) : PS w ((wx.setCell ⟨w.heap.size, 0, none⟩ (.int .i64 ql)).setCell ⟨w.heap.size, 1, none⟩ (.int .i64 qc)) ql qc lv n xs := by
  have hs : lv.ownBlock ≠ some w.heap.size := fun e => by have := (h.own.lt _ e).1; omega
  refine ⟨?_, ?_, (h.bel.setCell (Nat.le_refl _) _).setCell (Nat.le_refl _) _⟩
  · have := (h.pos.set_ 0 (.int .i64 ql)).set_ 1 (.int .i64 qc)
    simpa using this
  · exact (h.own.kept (grown_set _ _ _ _) (.inr hs)).kept (grown_set _ _ _ _) (.inr hs)
/-- What an append of one token asks. -/
theorem app_facts {k : Nat} {a1 b1 a2 b2 : Nat} {t : ByteArray} {m : Int} (h : PS w wx pl pc lv n xs) (hn : n ≤ 1000000) (cs : Array Value) (hcs : cs = #[.int .u8 k, .complex .f64 a1 b1, .complex .f64 a2 b2, .string t, .int .i64 m]) :
    Hid ((∀ i v, cs.toList[i]? = some v → (wx.alloc (.cells cs 35)).cell? ((⟨wx.heap.size, 0, none⟩ : Addr).add i) = some v) ∧ (∀ v ∈ cs.toList, v.oneCell' = true) ∧ n + 1 ≤ maxLen ∧ w.heap.size + 1 ≤ (wx.alloc (.cells cs 35)).heap.size ∧ (wx.alloc (.cells cs 35)).ownsRow (w.heap.size + 1) 35 5 lv n xs) := by
  refine Lib.hid ⟨World.news_of_block (heap_alloc_new wx _), fun v hv => ?_, by unfold maxLen; omega, ?_, h.own.alloc _⟩
  · subst hcs
    simp only [List.mem_cons, List.not_mem_nil, or_false] at hv
    rcases hv with rfl | rfl | rfl | rfl | rfl <;> rfl
  · have := h.lt; rw [World.size_alloc]; omega
/-- Behind an append. -/
theorem PS.appended {cs : Array Value} {w1 : World} {v' : Value} {m : Nat} {ys : List Value} (h : PS w wx pl pc lv n xs) (hown : w1.ownsRow (w.heap.size + 1) 35 5 v' m ys) (hg : (wx.alloc (.cells cs 35)).grownBy w1 lv.ownBlock) : PS w w1 pl pc v' m ys := by
  have hr : ∀ k, lv.ownBlock = some k → w.heap.size + 1 ≤ k := fun k e => (h.own.lt _ e).1
  refine ⟨(h.pos.alloc _).grown hg (fun e => ?_), hown, below_grown (h.bel.alloc h.bel.size _) hg (fun k e => ?_) ?_⟩
  · have := hr _ e.symm; omega
  · have := hr k e; omega
  · have := h.lt; rw [World.size_alloc]; omega
theorem PS.facts (h : PS w wx pl pc lv n xs) : wx.cell? ⟨w.heap.size, 0, none⟩ = some (.int .i64 pl) ∧ wx.cell? ⟨w.heap.size, 1, none⟩ = some (.int .i64 pc) ∧ wx.frozen? ⟨w.heap.size, 0, none⟩ = false ∧ wx.frozen? ⟨w.heap.size, 1, none⟩ = false :=
  ⟨h.pos.cell 0, h.pos.cell 1, h.pos.frozen 0, h.pos.frozen 1⟩
end

theorem u8_eq (c : UInt8) (k : Nat) (h : k < 256) : ((c.toNat : Int) == (k : Int)) = (c == UInt8.ofNat k) := by
  rw [Bool.eq_iff_iff, beq_iff_eq, beq_iff_eq]
  constructor
  · intro e; apply UInt8.toNat_inj.1; rw [UInt8.toNat_ofNat']; omega
  · intro e; rw [e, UInt8.toNat_ofNat']; omega
end Go.Proofs.YtkiedbanobjmlaaDoor.Lx
