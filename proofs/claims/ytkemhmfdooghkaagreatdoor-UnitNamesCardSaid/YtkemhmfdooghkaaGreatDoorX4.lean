import Derived.Test.YtkemhmfdooghkaaGreatDoorX3
import Derived.Deep.RegionLaw
import Derived.Deep.AppendLies
import Derived.Deep.DrawnRows
import Derived.WalkSpells
import Derived.Deep.Draws
import Derived.Test.YtkemhmfdooghkaaGreatDoorProg
import Derived.Deep.QuietTactic
set_option linter.unusedSimpArgs false
set_option linter.unusedVariables false
set_option maxRecDepth 100000
set_option maxHeartbeats 6400000
namespace Go.Proofs.YtkemhmfdooghkaaGreatDoor
namespace Lx
open Go.RowKit
open Pl Fl
attribute [local go_sem] run_store_complexL
theorem ofN_nat {p : Nat × Nat} (h : isN p = true) : ofN (p.1 : Nat) (p.2 : Nat) = p := by
 have := isN_bd h
 rw [ofN_in (isR_mk (by omega) (by omega) (by omega) (by omega))]
 rfl
theorem beh_at {p q : Nat × Nat} (x : ByteArray) (hp : isN p = true) (hx : behN p x.data.toList = q) (hs : x.size ≤ 9223372036854775806) (w : World) :
 Calls Tryz.prog 24 #[.agg #[.int .i64 p.1, .int .i64 p.2], .string x] w fun e w' => e = .returned (.agg #[.int .i64 q.1, .int .i64 q.2]) ∧ Below w.heap.size w w' := by
 refine (rBehind_any (p.1 : Nat) (p.2 : Nat) x w hs).mono fun e w' ⟨h1, h2⟩ => ⟨?_, h2⟩
 rw [h1, ofN_nat hp, hx]
 rfl
theorem pos_at {q : Nat × Nat} (hq : isN q = true) (w : World) :
 Calls Tryz.prog 16 #[.agg #[.int .i64 q.1, .int .i64 q.2]] w fun e w' => e = .returned (.complex .f64 (fl q.1) (fl q.2)) ∧ Below w.heap.size w w' := by
 refine (rPos_any (q.1 : Nat) (q.2 : Nat) w).mono fun e w' ⟨h1, h2⟩ => ⟨?_, h2⟩
 rw [h1, ofN_nat hq]
 rfl
def scanEnd (W : World) (src : List UInt8) (r : Except (Nat × Nat) (List Tok)) (e : Ending) (w' : World) : Prop := match r with
 | .error (i, k) => e = .returned (.tuple #[.slice none 0 0, .complex .f64 (fl (at_ src i).1) (fl (at_ src i).2), .int .i64 k]) ∧ Below W.heap.size W w'
 | .ok l => ∃ g cap, e = .returned (.tuple #[.slice (some ⟨g, 0, none⟩) l.length cap, .complex .f64 0 0, .int .i64 0]) ∧ w'.ownsRow W.heap.size 40 5 (.slice (some ⟨g, 0, none⟩) l.length cap) l.length (flat src l) ∧ Below W.heap.size W w'
def strLen : Value → Nat
 | .string s => s.size
 | _ => 0
theorem own_mono {w : World} {b b' : Nat} {e : TypeId} {size : Nat} {v : Value} {n : Nat} {xs : List Value} (h : w.ownsRow b e size v n xs) (hb : b' ≤ b) : w.ownsRow b' e size v n xs := by
 obtain ⟨h1, h2⟩ := h
 refine ⟨h1, ?_⟩
 rcases h2 with ⟨rfl, rfl⟩ | ⟨g, cap, cur, e1, h3, h4⟩
 ·exact .inl ⟨rfl, rfl⟩
 ·exact .inr ⟨g, cap, cur, e1, by omega, h4⟩
theorem info40 : (Tryz.prog.info? 40).map (fun i => (i.zero, i.size, i.bytes)) = some (some (.agg #[.int .u8 0, .complex .f64 0 0, .complex .f64 0 0, .string ⟨#[]⟩, .int .i64 0]), 5, 64) := by kernel_rfl
theorem pos_one (w : World) : Calls Tryz.prog 16 #[.agg #[.int .i64 1, .int .i64 1]] w fun e w' => e = .returned (.complex .f64 (fl 1) (fl 1)) ∧ Below w.heap.size w w' := pos_at (q := (1, 1)) rfl w
section
variable {w wx wy : World} {b pl pc : Nat} {v0 v1 v2 v3 v4 lv : Value} {n base : Nat} {xs : List Value}
theorem own_below {e : TypeId} {size : Nat} (h : wx.ownsRow base e size lv n xs) (hb : Below wx.heap.size wx wy) : wy.ownsRow base e size lv n xs :=
 h.kept (row := none) ⟨hb.os, hb.tape, hb.output, hb.size, fun k hk _ => hb.block k hk⟩ (by cases lv.ownBlock <;> simp)
theorem below_grown {B : Nat} {row : Option Nat} (h : Below B w wx) (hg : wx.grownBy wy row) (hr : ∀ k, row = some k → B ≤ k) (hB : B ≤ wx.heap.size) : Below B w wy :=
 ⟨hg.os.trans h.os, hg.tape.trans h.tape, hg.output.trans h.output, Nat.le_trans h.size hg.size, fun k hk => (hg.block k (by omega) (fun e => by have := hr k e.symm; omega)).trans (h.block k hk)⟩
structure PS (w wx : World) (pl pc : Nat) (lv : Value) (n : Nat) (xs : List Value) : Prop where
 pos : Blk wx w.heap.size 56 #[.int .i64 pl, .int .i64 pc]
 own : wx.ownsRow (w.heap.size + 1) 40 5 lv n xs
 bel : Below w.heap.size w wx
structure RS (w wx : World) (b : Nat) (pl pc : Nat) (v0 v1 v2 v3 v4 lv : Value) (n : Nat) (xs : List Value) : Prop extends PS w wx pl pc lv n xs where
 tok : Blk wx b 40 #[v0, v1, v2, v3, v4]
 far : w.heap.size < b
 sep : lv.ownBlock ≠ some b
theorem PS.below (h : PS w wx pl pc lv n xs) (hb : Below wx.heap.size wx wy) : PS w wy pl pc lv n xs :=
 ⟨h.pos.below hb h.pos.lt, own_below h.own hb, h.bel.trans (hb.mono h.bel.size)⟩
theorem PS.drew (h : PS w wx pl pc lv n xs) : PS w wx.drew pl pc lv n xs := h.below (below_drewN (Below.refl _ _) 1)
theorem PS.lt (h : PS w wx pl pc lv n xs) : w.heap.size < wx.heap.size := h.pos.lt
theorem RS.below (h : RS w wx b pl pc v0 v1 v2 v3 v4 lv n xs) (hb : Below wx.heap.size wx wy) : RS w wy b pl pc v0 v1 v2 v3 v4 lv n xs :=
 ⟨h.toPS.below hb, h.tok.below hb h.tok.lt, h.far, h.sep⟩
theorem RS.drew (h : RS w wx b pl pc v0 v1 v2 v3 v4 lv n xs) : RS w wx.drew b pl pc v0 v1 v2 v3 v4 lv n xs := h.below (below_drewN (Below.refl _ _) 1)
theorem PS.tok (h : PS w wx pl pc lv n xs) (v0 v1 v2 v3 v4 : Value) : RS w (wx.alloc (.cells #[v0, v1, v2, v3, v4] 40)) wx.heap.size pl pc v0 v1 v2 v3 v4 lv n xs :=
 ⟨h.below ((Below.refl _ _).alloc nl _), Blk.new _ _ _, h.lt, fun e => by have := (h.own.lt _ e).2; omega⟩
theorem grown_set (wx : World) (b i : Nat) (u : Value) : wx.grownBy (wx.setCell ⟨b, i, none⟩ u) (some b) :=
 ⟨rfl, rfl, rfl, by rw [World.size_setCell]; exact Nat.le_refl _, fun k _ hk => Below.heap_setCell wx _ u k (fun e => hk (by rw [e]))⟩
theorem RS.set_ (h : RS w wx b pl pc v0 v1 v2 v3 v4 lv n xs) (i : Nat) (u : Value) :
 PS w (wx.setCell ⟨b, i, none⟩ u) pl pc lv n xs :=
 ⟨h.pos.far (Nat.ne_of_lt h.far) u, h.own.kept (grown_set wx b i u) (.inr h.sep), h.bel.setCell (Nat.le_of_lt h.far) u⟩
theorem RS.set1 (h : RS w wx b pl pc v0 v1 v2 v3 v4 lv n xs) (u : Value) : RS w (wx.setCell ⟨b, 1, none⟩ u) b pl pc v0 u v2 v3 v4 lv n xs :=
 ⟨h.set_ 1 u, by have := h.tok.set_ 1 u; simpa using this, h.far, h.sep⟩
theorem RS.set2 (h : RS w wx b pl pc v0 v1 v2 v3 v4 lv n xs) (u : Value) : RS w (wx.setCell ⟨b, 2, none⟩ u) b pl pc v0 v1 u v3 v4 lv n xs :=
 ⟨h.set_ 2 u, by have := h.tok.set_ 2 u; simpa using this, h.far, h.sep⟩
theorem PS.setPos (h : PS w wx pl pc lv n xs) (ql qc : Nat) : PS w ((wx.setCell ⟨w.heap.size, 0, none⟩ (.int .i64 ql)).setCell ⟨w.heap.size, 1, none⟩ (.int .i64 qc)) ql qc lv n xs := by
 have hs : lv.ownBlock ≠ some w.heap.size := fun e => by have := (h.own.lt _ e).1; omega
 refine ⟨?_, ?_, (h.bel.setCell nl _).setCell nl _⟩
 ·have := (h.pos.set_ 0 (.int .i64 ql)).set_ 1 (.int .i64 qc)
  simpa using this
 ·exact (h.own.kept (grown_set _ _ _ _) (.inr hs)).kept (grown_set _ _ _ _) (.inr hs)
theorem app_facts {k : Nat} {a1 b1 a2 b2 : Nat} {t : ByteArray} {m : Int} (h : PS w wx pl pc lv n xs) (hn : n ≤ 1000000) (cs : Array Value) (hcs : cs = #[.int .u8 k, .complex .f64 a1 b1, .complex .f64 a2 b2, .string t, .int .i64 m]) :
 Hid ((∀ i v, cs.toList[i]? = some v → (wx.alloc (.cells cs 40)).cell? ((⟨wx.heap.size, 0, none⟩ : Addr).add i) = some v) ∧ (∀ v ∈ cs.toList, v.oneCell' = true) ∧ n + 1 ≤ maxLen ∧ w.heap.size + 1 ≤ (wx.alloc (.cells cs 40)).heap.size ∧ (wx.alloc (.cells cs 40)).ownsRow (w.heap.size + 1) 40 5 lv n xs) := by
 refine qh ⟨World.news_of_block (heap_alloc_new wx _), fun v hv => ?_, by unfold maxLen; omega, ?_, h.own.alloc _⟩
 ·subst hcs
  simp only [List.mem_cons, List.not_mem_nil, or_false] at hv
  rcases hv with rfl | rfl | rfl | rfl | rfl <;> rfl
 ·have := h.lt; rw [World.size_alloc]; omega
theorem PS.appended {cs : Array Value} {w1 : World} {v' : Value} {m : Nat} {ys : List Value} (h : PS w wx pl pc lv n xs) (hown : w1.ownsRow (w.heap.size + 1) 40 5 v' m ys) (hg : (wx.alloc (.cells cs 40)).grownBy w1 lv.ownBlock) : PS w w1 pl pc v' m ys := by
 have hr : ∀ k, lv.ownBlock = some k → w.heap.size + 1 ≤ k := fun k e => (h.own.lt _ e).1
 refine ⟨(h.pos.alloc _).grown hg (fun e => ?_), hown, below_grown (h.bel.alloc h.bel.size _) hg (fun k e => ?_) ?_⟩
 ·have := hr _ e.symm; omega
 ·have := hr k e; omega
 ·have := h.lt; rw [World.size_alloc]; omega
theorem PS.facts (h : PS w wx pl pc lv n xs) : wx.cell? ⟨w.heap.size, 0, none⟩ = some (.int .i64 pl) ∧ wx.cell? ⟨w.heap.size, 1, none⟩ = some (.int .i64 pc) ∧ wx.frozen? ⟨w.heap.size, 0, none⟩ = false ∧ wx.frozen? ⟨w.heap.size, 1, none⟩ = false :=
 ⟨h.pos.cell 0, h.pos.cell 1, h.pos.frozen 0, h.pos.frozen 1⟩
end
theorem u8_eq (c : UInt8) (k : Nat) (h : k < 256) : ((c.toNat : Int) == (k : Int)) = (c == UInt8.ofNat k) := by
 rw [Bool.eq_iff_iff, beq_iff_eq, beq_iff_eq]
 constructor
 ·intro e; apply UInt8.toNat_inj.1; rw [UInt8.toNat_ofNat']; omega
 ·intro e; rw [e, UInt8.toNat_ofNat']; omega
end Lx
end Go.Proofs.YtkemhmfdooghkaaGreatDoor
namespace Go.Proofs.YtkemhmfdooghkaaGreatDoor
open Go.RowKit
theorem ret_bool {a b : Bool} (h : a = b) : Ending.returned (.bool a) = .returned (.bool b) := by rw [h]
theorem block_of_add (a : Addr) (n : Nat) : (a.add n).block = a.block := by unfold Addr.add; split <;> rfl
theorem add_of_add (a : Addr) (i j : Nat) : (a.add i).add j = a.add (i + j) := by
 unfold Addr.add
 by_cases hi : i = 0 <;> by_cases hj : j = 0 <;> simp [hi, hj, Nat.add_assoc]
def Reads (w : World) (B size : Nat) (A : Option Addr) (n : Nat) (xs : List Value) : Prop :=
 xs.length = n * size ∧ (0 < n → ∃ ad, A = some ad ∧ ad.block < B ∧ ∀ j u, xs[j]? = some u → w.cell? (ad.add j) = some u)
section
variable {w w' : World} {B B' size n : Nat} {A : Option Addr} {xs : List Value}
theorem Reads.none_ : Reads w B size A 0 [] := ⟨by simp, fun h => absurd h (by omega)⟩
theorem Reads.at_ {k : Nat} (h : Reads w B 1 A n xs) (hk : k < n) : ∃ ad u, A = some ad ∧ ad.block < B ∧ xs[k]? = some u ∧ w.cell? (ad.add k) = some u := by
 obtain ⟨ad, e, hb, hc⟩ := h.2 (by omega)
 have hl : k < xs.length := by have := h.1; omega
 exact ⟨ad, xs[k], e, hb, List.getElem?_eq_getElem hl, hc k _ (List.getElem?_eq_getElem hl)⟩
theorem Reads.spot {k : Nat} (h : Reads w B 1 A n xs) (hk : k < n) : ∃ b off u, A = some ⟨b, off, none⟩ ∧ b < B ∧ xs[k]? = some u ∧ w.cell? ⟨b, off + k, none⟩ = some u := by
 obtain ⟨⟨b, off, sp⟩, u, e, hb, hx, hc⟩ := h.at_ hk
 have hs : sp = none := by
  obtain ⟨ad, u0, e0, _, _, hc0⟩ := h.at_ (k := 0) (by omega)
  rw [e] at e0
  injection e0 with e0
  subst e0
  have := World.cell?_spot hc0
  simpa [Addr.add] using this
 subst hs
 refine ⟨b, off, u, e, hb, hx, ?_⟩
 have : (⟨b, off, none⟩ : Addr).add k = ⟨b, off + k, none⟩ := by unfold Addr.add; split <;> simp_all
 rwa [this] at hc
theorem Reads.keep (h : Reads w B size A n xs) (hk : ∀ p : Addr, p.block < B → w'.cell? p = w.cell? p) : Reads w' B size A n xs :=
 ⟨h.1, fun hn => by
   obtain ⟨ad, e, hb, hc⟩ := h.2 hn
   exact ⟨ad, e, hb, fun j u hu => (hk _ (by rw [block_of_add]; exact hb)).trans (hc j u hu)⟩⟩
theorem Reads.more (h : Reads w B size A n xs) (hB : B ≤ B') : Reads w B' size A n xs :=
 ⟨h.1, fun hn => by
   obtain ⟨ad, e, hb, hc⟩ := h.2 hn
   exact ⟨ad, e, by omega, hc⟩⟩
theorem Reads.below (h : Reads w B size A n xs) (hb : Below B w w') : Reads w' B size A n xs := h.keep fun _ hp => hb.cell hp
theorem Reads.alloc (h : Reads w B size A n xs) (hB : B ≤ w.heap.size) (o : Obj) : Reads (w.alloc o) B size A n xs := h.keep fun p hp => World.cell?_alloc_lt w o p (by omega)
theorem Reads.setCell (h : Reads w B size A n xs) {p : Addr} (hB : B ≤ p.block) (u : Value) : Reads (w.setCell p u) B size A n xs :=
 h.keep fun q hq => World.cell?_setCell_other w p q u (fun e => by subst e; omega)
theorem Reads.of_own {base : Nat} {e : TypeId} {c : Nat} (h : w.ownsRow base e size (.slice A n c) n xs) : Reads w w.heap.size size A n xs := by
 refine ⟨h.1, fun hn => ?_⟩
 obtain ⟨g, cap, hv, _, hlt⟩ := h.form hn
 have hA : A = some ⟨g, 0, none⟩ := by injection hv
 subst hA
 exact ⟨_, rfl, hlt, h.cells (g := g) rfl⟩
end
theorem own_form {w : World} {base : Nat} {e : TypeId} {size : Nat} {v : Value} {n : Nat} {xs : List Value} (h : w.ownsRow base e size v n xs) : ∃ A c, v = .slice A n c ∧ Reads w w.heap.size size A n xs := by
 have h0 := h
 rcases h.2 with ⟨rfl, rfl⟩ | ⟨g, cap, cur, rfl, _⟩
 ·exact ⟨none, 0, rfl, h0.1, fun h => absurd h (by omega)⟩
 ·exact ⟨_, _, rfl, Reads.of_own h0⟩
end Go.Proofs.YtkemhmfdooghkaaGreatDoor
namespace Go.Proofs.YtkemhmfdooghkaaGreatDoor
namespace Tr
open Go.RowKit
open Fl
structure Nd where
 kind : Nat
 pos : Nat × Nat
 name : ByteArray
 n : Int
inductive Fo where
 | no : Fo
 | node (d : Nd) (kids rest : Fo) : Fo
def Fo.len : Fo → Nat
 | .no => 0
 | .node _ _ r => r.len + 1
def Fo.count : Fo → Nat
 | .no => 0
 | .node _ k r => 1 + k.count + r.count
def Fo.same : Fo → Fo → Bool
 | .no, .no => true
 | .node d k r, .node d' k' r' => decide (d.kind = d'.kind) && decide (d.name = d'.name) && decide (d.n = d'.n) && k.same k' && r.same r'
 | _, _ => false
def Fo.exact : Fo → Fo → Bool
 | .no, .no => true
 | .node d k r, .node d' k' r' => decide (d.kind = d'.kind) && decide (d.name = d'.name) && decide (d.n = d'.n) && decide (d.pos = d'.pos) && k.exact k' && r.exact r'
 | _, _ => false
def C (p : Nat × Nat) : Value := .complex .f64 (fl p.1) (fl p.2)
def At (w : World) (b : Nat) (d : Nd) (s : Value) : Prop :=
 w.cell? ⟨b, 0, none⟩ = some (.int .u8 d.kind) ∧ w.cell? ⟨b, 1, none⟩ = some (C d.pos) ∧ w.cell? ⟨b, 2, none⟩ = some (.string d.name) ∧ w.cell? ⟨b, 3, none⟩ = some (.int .i64 d.n) ∧ w.cell? ⟨b, 4, none⟩ = some s
def Rep (w : World) : Fo → List Value → Prop
 | .no, vs => vs = []
 | .node d k r, vs => ∃ b A c ks vs', vs = .pointer (some ⟨b, 0, none⟩) :: vs' ∧ At w b d (.slice A ks.length c) ∧ Reads w w.heap.size 1 A ks.length ks ∧ Rep w k ks ∧ Rep w r vs'
theorem cell_lt {w : World} {b o : Nat} {v : Value} (h : w.cell? ⟨b, o, none⟩ = some v) : b < w.heap.size := by
 rcases Nat.lt_or_ge b w.heap.size with h1 | h1
 ·exact h1
 ·unfold World.cell? at h
  simp [Array.getElem?_eq_none h1] at h
theorem At.lt {w : World} {b : Nat} {d : Nd} {s : Value} (h : At w b d s) : b < w.heap.size := cell_lt h.1
theorem Rep.head {w : World} {d : Nd} {k r : Fo} {vs : List Value} (h : Rep w (.node d k r) vs) : ∃ v vs', vs = v :: vs' ∧ Rep w (.node d k .no) [v] ∧ Rep w r vs' := by
 unfold Rep at h
 obtain ⟨b, A, c, ks, vs', rfl, h2, h3, h4, h5⟩ := h
 exact ⟨_, _, rfl, ⟨b, A, c, ks, [], rfl, h2, h3, h4, rfl⟩, h5⟩
theorem Rep.one {w : World} {d : Nd} {k : Fo} {v : Value} (h : Rep w (.node d k .no) [v]) : ∃ b A c ks, v = .pointer (some ⟨b, 0, none⟩) ∧ At w b d (.slice A ks.length c) ∧ Reads w w.heap.size 1 A ks.length ks ∧ Rep w k ks := by
 unfold Rep at h
 obtain ⟨b, A, c, ks, vs', h1, h2, h3, h4, h5⟩ := h
 simp only [List.cons.injEq] at h1
 exact ⟨b, A, c, ks, h1.1, h2, h3, h4⟩
theorem Reads.nth {w : World} {B : Nat} {A : Option Addr} {vs : List Value} {i : Nat} (h : Reads w B 1 A vs.length vs) (hi : i < vs.length) : ∃ b off, A = some ⟨b, off, none⟩ ∧ w.cell? ⟨b, off + i, none⟩ = some vs[i] := by
 obtain ⟨b, off, u, e, _, hx, hc⟩ := h.spot hi
 rw [List.getElem?_eq_getElem hi] at hx
 injection hx with hx
 subst hx
 exact ⟨b, off, e, hc⟩
def Blk (w : World) (g : Nat) (t : TypeId) (cs : Array Value) : Prop := w.heap[g]? = some (.cells cs t (0, 0))
section
variable {w w' : World} {g : Nat} {t : TypeId} {cs : Array Value}
theorem Blk.lt (h : Blk w g t cs) : g < w.heap.size := by
 rcases Nat.lt_or_ge g w.heap.size with hlt | hge
 ·exact hlt
 ·unfold Blk at h; rw [Array.getElem?_eq_none hge] at h; cases h
theorem Blk.cell (h : Blk w g t cs) (i : Nat) : w.cell? ⟨g, i, none⟩ = cs[i]? := cell_of_row w g i cs t (0, 0) h
theorem Blk.frozen (h : Blk w g t cs) (i : Nat) : w.frozen? ⟨g, i, none⟩ = false := by
 unfold Blk at h
 simp [World.frozen?, h]
theorem Blk.new (w : World) (t : TypeId) (cs : Array Value) : Blk (w.alloc (.cells cs t)) w.heap.size t cs := heap_alloc_new w _
theorem Blk.alloc (h : Blk w g t cs) (o : Obj) : Blk (w.alloc o) g t cs := (Below.heap_alloc w o g h.lt).trans h
theorem Blk.set_ (h : Blk w g t cs) (i : Nat) (u : Value) : Blk (w.setCell ⟨g, i, none⟩ u) g t (cs.setIfInBounds i u) := by
 unfold Blk at h ⊢
 simp [World.setCell, Array.getElem?_modify, h]
theorem Blk.below {B : Nat} (h : Blk w g t cs) (hb : Below B w w') (hg : g < B) : Blk w' g t cs := (hb.block g hg).trans h
theorem Blk.grown {row : Option Nat} (h : Blk w g t cs) (hb : w.grownBy w' row) (hg : some g ≠ row) : Blk w' g t cs := (hb.block g h.lt hg).trans h
theorem Blk.ne_ {g' : Nat} {t' : TypeId} {cs' : Array Value} (h : Blk w g t cs) (h' : Blk w g' t' cs') (hne : t ≠ t') : g ≠ g' := by
 rintro rfl
 unfold Blk at h h'
 rw [h] at h'
 injection h' with h'
 injection h' with _ ht
 exact hne ht
theorem own_blk_ne {base : Nat} {e : TypeId} {size n : Nat} {v : Value} {xs : List Value} (h : w.ownsRow base e size v n xs) (hg : Blk w g t cs) (hne : e ≠ t) : v.ownBlock ≠ some g := by
 rcases h.2 with ⟨rfl, _⟩ | ⟨g', cap, cur, rfl, _, hh, _⟩
 ·simp [Value.ownBlock]
 ·intro he
  have : g' = g := by simpa [Value.ownBlock] using he
  subst this
  exact Blk.ne_ (t := e) hh hg hne rfl
end
def cellsN (d : Nd) (s : Value) : Array Value := #[.int .u8 d.kind, C d.pos, .string d.name, .int .i64 d.n, s]
theorem Blk.at_ {w : World} {b : Nat} {d : Nd} {s : Value} (h : Blk w b 38 (cellsN d s)) : At w b d s :=
 ⟨h.cell 0, h.cell 1, h.cell 2, h.cell 3, h.cell 4⟩
def RepS (S : Nat → Prop) (w : World) : Fo → List Value → Prop
 | .no, vs => vs = []
 | .node d k r, vs => ∃ b A c ks vs', vs = .pointer (some ⟨b, 0, none⟩) :: vs' ∧ S b ∧ At w b d (.slice A ks.length c) ∧ (0 < ks.length → ∃ g off, A = some ⟨g, off, none⟩ ∧ S g ∧ g < w.heap.size) ∧ Reads w w.heap.size 1 A ks.length ks ∧ RepS S w k ks ∧ RepS S w r vs'
theorem RepS.rep {S : Nat → Prop} {w : World} : ∀ {f : Fo} {vs : List Value}, RepS S w f vs → Rep w f vs
 | .no, vs, h => by unfold RepS at h; unfold Rep; exact h
 | .node d k r, vs, h => by
   unfold RepS at h; unfold Rep
   obtain ⟨b, A, c, ks, vs', h1, h2, h3, h4, h5, h6, h7⟩ := h
   exact ⟨b, A, c, ks, vs', h1, h3, h5, RepS.rep h6, RepS.rep h7⟩
theorem RepS.keep {S S' : Nat → Prop} {w w' : World} (hsz : w.heap.size ≤ w'.heap.size) (hk : ∀ x, S x → x < w.heap.size → w'.heap[x]? = w.heap[x]?) (hS : ∀ x, S x → x < w.heap.size → S' x) : ∀ {f : Fo} {vs : List Value}, RepS S w f vs → RepS S' w' f vs
 | .no, vs, h => by unfold RepS at h ⊢; exact h
 | .node d k r, vs, h => by
   unfold RepS at h ⊢
   obtain ⟨b, A, c, ks, vs', h1, h2, h3, h4, h5, h6, h7⟩ := h
   have hb := hk b h2 h3.lt
   have hc : ∀ o, w'.cell? ⟨b, o, none⟩ = w.cell? ⟨b, o, none⟩ := fun o => World.cell?_of_block hb
   refine ⟨b, A, c, ks, vs', h1, hS b h2 h3.lt, ?_, fun h0 => ?_, ⟨h5.1, fun h0 => ?_⟩, RepS.keep hsz hk hS h6, RepS.keep hsz hk hS h7⟩
   ·obtain ⟨a0, a1, a2, a3, a4⟩ := h3
    exact ⟨(hc 0).trans a0, (hc 1).trans a1, (hc 2).trans a2, (hc 3).trans a3, (hc 4).trans a4⟩
   ·obtain ⟨g, off, e, hg, hl⟩ := h4 h0
    exact ⟨g, off, e, hS g hg hl, by omega⟩
   ·obtain ⟨g, off, e, hg, hl⟩ := h4 h0
    obtain ⟨ad, e2, hlt, hcl⟩ := h5.2 h0
    rw [e] at e2
    injection e2 with e2
    subst e2
    refine ⟨_, e, by simp; omega, fun j u hu => ?_⟩
    rw [← hcl j u hu]
    refine World.cell?_of_block ?_
    rw [block_of_add]
    exact hk g hg hl
theorem RepS.below {S : Nat → Prop} {w w' : World} (hb : Below w.heap.size w w') {f : Fo} {vs : List Value} (h : RepS S w f vs) : RepS S w' f vs :=
 h.keep hb.size (fun x _ hx => hb.block x hx) (fun x hx _ => hx)
theorem RepS.more {S S' : Nat → Prop} {w : World} {f : Fo} {vs : List Value} (h : RepS S w f vs) (hS : ∀ x, S x → x < w.heap.size → S' x) : RepS S' w f vs :=
 h.keep nl (fun _ _ _ => rfl) hS
def Fo.snoc : Fo → Nd → Fo → Fo
 | .no, d, k => .node d k .no
 | .node d' k' r, d, k => .node d' k' (r.snoc d k)
theorem RepS.snoc {S : Nat → Prop} {w : World} {d : Nd} {k : Fo} {v : Value} (h2 : RepS S w (.node d k .no) [v]) : ∀ {f : Fo} {vs : List Value}, RepS S w f vs → RepS S w (f.snoc d k) (vs ++ [v])
 | .no, vs, h => by unfold RepS at h; subst h; exact h2
 | .node d' k' r, vs, h => by
   unfold RepS at h
   obtain ⟨b, A, c, ks, vs', rfl, g2, g3, g4, g5, g6, g7⟩ := h
   show RepS S w (.node d' k' (r.snoc d k)) _
   unfold RepS
   exact ⟨b, A, c, ks, vs' ++ [v], rfl, g2, g3, g4, g5, g6, RepS.snoc h2 g7⟩
theorem RepS.mk {S : Nat → Prop} {w : World} {b base : Nat} {d : Nd} {s : Value} {f : Fo} {xs : List Value} (hb : Blk w b 38 (cellsN d s)) (hown : w.ownsRow base 31 1 s xs.length xs) (hk : RepS S w f xs) (hSb : S b) (hSr : ∀ g, s.ownBlock = some g → S g) :
 RepS S w (.node d f .no) [.pointer (some ⟨b, 0, none⟩)] := by
 obtain ⟨A, c, rfl, hR⟩ := own_form hown
 unfold RepS
 refine ⟨b, A, c, xs, [], rfl, hSb, hb.at_, fun h0 => ?_, hR, hk, rfl⟩
 obtain ⟨g, cap, hv, _, hlt⟩ := hown.form h0
 have hA : A = some ⟨g, 0, none⟩ := by injection hv
 subst hA
 exact ⟨g, 0, rfl, hSr g rfl, hlt⟩
def Apart (S : Nat → Prop) (w0 : World) (b : Nat) (sv : Value) : Nat → Prop := fun x => (S x ∨ w0.heap.size ≤ x) ∧ x ≠ b ∧ sv.ownBlock ≠ some x
def Bld (S : Nat → Prop) (w0 w : World) (b : Nat) (d : Nd) (sv : Value) (f : Fo) (xs : List Value) : Prop :=
 Blk w b 38 (cellsN d sv) ∧ w.ownsRow w0.heap.size 31 1 sv xs.length xs ∧ RepS (Apart S w0 b sv) w f xs ∧ w0.heap.size ≤ b ∧ Below w0.heap.size w0 w
theorem grown_below {w w' : World} (h : Below w.heap.size w w') (row : Option Nat) : w.grownBy w' row := ⟨h.os, h.tape, h.output, h.size, fun k hk _ => h.block k hk⟩
theorem Bld.below {S : Nat → Prop} {w0 w w' : World} {b : Nat} {d : Nd} {sv : Value} {f : Fo} {xs : List Value} (h : Bld S w0 w b d sv f xs) (hb : Below w.heap.size w w') : Bld S w0 w' b d sv f xs := by
 obtain ⟨h1, h2, h3, h4, h5⟩ := h
 refine ⟨h1.below hb h1.lt, h2.kept (grown_below hb none) ?_, h3.below hb, h4, h5.trans (hb.mono h5.size)⟩
 rcases h : sv.ownBlock with _ | g
 ·exact .inl rfl
 ·exact .inr (by simp)
theorem Bld.start {S : Nat → Prop} {w0 w : World} {b : Nat} {d : Nd} (h : Blk w b 38 (cellsN d (.slice none 0 0))) (hb : w0.heap.size ≤ b) (hw : Below w0.heap.size w0 w) : Bld S w0 w b d (.slice none 0 0) .no [] :=
 ⟨h, ⟨by simp, .inl ⟨rfl, rfl⟩⟩, by unfold RepS; rfl, hb, hw⟩
theorem Bld.sv {S : Nat → Prop} {w0 w : World} {b : Nat} {d : Nd} {sv : Value} {f : Fo} {xs : List Value} (h : Bld S w0 w b d sv f xs) : w.cell? ⟨b, 4, none⟩ = some sv ∧ w.frozen? ⟨b, 4, none⟩ = false ∧ b < w.heap.size := by
 obtain ⟨h1, h2, h3, h4, h5⟩ := h
 exact ⟨h1.cell 4, h1.frozen 4, h1.lt⟩
theorem setCell_grown (w : World) (p : Addr) (u : Value) : w.grownBy (w.setCell p u) (some p.block) :=
 ⟨rfl, rfl, rfl, by simp, fun k hk hne => Below.heap_setCell w p u k (fun e => hne (by rw [e]))⟩
theorem cellsN_set (d : Nd) (s s' : Value) : (cellsN d s).setIfInBounds 4 s' = cellsN d s' := rfl
theorem Bld.step {S : Nat → Prop} {w0 W w1 : World} {b g cap : Nat} {d dk : Nd} {sv v : Value} {f k : Fo} {xs : List Value} (h : Bld S w0 W b d sv f xs) (hk : RepS (Apart S w0 b sv) W (.node dk k .no) [v])
 (hown : w1.ownsRow w0.heap.size 31 1 (.slice (some ⟨g, 0, none⟩) (xs.length + 1) cap) (xs.length + 1) (xs ++ [v])) (hg : W.grownBy w1 sv.ownBlock) (hor : sv.ownBlock = some g ∨ g = W.heap.size) :
 Bld S w0 (w1.setCell ⟨b, 4, none⟩ (.slice (some ⟨g, 0, none⟩) (xs.length + 1) cap)) b d (.slice (some ⟨g, 0, none⟩) (xs.length + 1) cap) (f.snoc dk k) (xs ++ [v]) := by
 obtain ⟨h1, h2, h3, h4, h5⟩ := h
 have hlt := h1.lt
 have hne : sv.ownBlock ≠ some b := own_blk_ne h2 h1 (by decide)
 have hb1 : Blk w1 b 38 (cellsN d sv) := h1.grown hg (fun e => hne e.symm)
 have hgb : g ≠ b := by
  have := own_blk_ne hown hb1 (by decide)
  intro e; subst e; exact this rfl
 have hg0 : w0.heap.size ≤ g := (hown.lt g rfl).1
 have hb5 : Below w0.heap.size w0 w1 := h5.grown hg h5.size (fun k hk => (h2.lt k hk).1)
 refine ⟨?_, ?_, ?_, h4, hb5.setCell h4 _⟩
 ·have := hb1.set_ 4 (.slice (some ⟨g, 0, none⟩) (xs.length + 1) cap)
  rwa [cellsN_set] at this
 ·rw [List.length_append, List.length_singleton]
  exact hown.kept (setCell_grown _ _ _) (.inr (by show some g ≠ some b; simpa using hgb))
 ·have hS : ∀ x, Apart S w0 b sv x → x < W.heap.size → Apart S w0 b (.slice (some ⟨g, 0, none⟩) (xs.length + 1) cap) x := by
   intro x hx hl
   obtain ⟨x1, x2, x3⟩ := hx
   refine ⟨x1, x2, ?_⟩
   show some g ≠ some x
   intro e
   injection e with e
   subst e
   rcases hor with hor | hor
   ·exact x3 hor
   ·omega
  have hkeep : ∀ x, Apart S w0 b sv x → x < W.heap.size → (w1.setCell ⟨b, 4, none⟩ (.slice (some ⟨g, 0, none⟩) (xs.length + 1) cap)).heap[x]? = W.heap[x]? := by
   intro x hx hl
   obtain ⟨x1, x2, x3⟩ := hx
   rw [Below.heap_setCell w1 ⟨b, 4, none⟩ _ x x2]
   exact hg.block x hl (fun e => x3 e.symm)
  exact RepS.snoc (hk.keep (by simp; exact hg.size) hkeep hS) (h3.keep (by simp; exact hg.size) hkeep hS)
theorem Bld.done {S : Nat → Prop} {w0 w : World} {b : Nat} {d : Nd} {sv : Value} {f : Fo} {xs : List Value} (h : Bld S w0 w b d sv f xs) : RepS (fun x => S x ∨ w0.heap.size ≤ x) w (.node d f .no) [.pointer (some ⟨b, 0, none⟩)] := by
 obtain ⟨h1, h2, h3, h4, h5⟩ := h
 exact RepS.mk h1 h2 (h3.more fun x hx _ => hx.1) (.inr h4) (fun g hg => .inr (h2.lt g hg).1)
theorem Bld.own {S : Nat → Prop} {w0 w : World} {b : Nat} {d : Nd} {sv : Value} {f : Fo} {xs : List Value} (h : Bld S w0 w b d sv f xs) : w.ownsRow w0.heap.size 31 1 sv xs.length xs := by
 obtain ⟨_, h, _⟩ := h; exact h
theorem Bld.bel {S : Nat → Prop} {w0 w : World} {b : Nat} {d : Nd} {sv : Value} {f : Fo} {xs : List Value} (h : Bld S w0 w b d sv f xs) : Below w0.heap.size w0 w := by
 obtain ⟨_, _, _, _, h⟩ := h; exact h
theorem Bld.newer {S : Nat → Prop} {w0 w w' : World} {b : Nat} {d dk : Nd} {sv v : Value} {f k : Fo} {xs : List Value} (h : Bld S w0 w b d sv f xs) (hk : RepS (fun x => w.heap.size ≤ x) w' (.node dk k .no) [v]) : RepS (Apart S w0 b sv) w' (.node dk k .no) [v] := by
 obtain ⟨h1, h2, h3, h4, h5⟩ := h
 have hlt := h1.lt
 have hs := h5.size
 refine hk.more fun x hx _ => ⟨.inr (by omega), by omega, fun e => ?_⟩
 have := (h2.lt x e).2
 omega
theorem Bld.older {S : Nat → Prop} {w0 w w' : World} {b : Nat} {d dk : Nd} {sv v : Value} {f k : Fo} {xs : List Value} (h : Bld S w0 w b d sv f xs) (hk : RepS (fun x => S x ∧ x < w0.heap.size) w' (.node dk k .no) [v]) : RepS (Apart S w0 b sv) w' (.node dk k .no) [v] := by
 obtain ⟨h1, h2, h3, h4, h5⟩ := h
 refine hk.more fun x hx _ => ⟨.inl hx.1, by omega, fun e => ?_⟩
 have := (h2.lt x e).1
 omega
theorem info31 : (Tryz.prog.info? 31).map (fun i => (i.zero, i.size, i.bytes)) = some (some (.pointer none), 1, 8) := by kernel_rfl
def zeroN : Nd := ⟨0, (0, 0), ⟨#[]⟩, 0⟩
end Tr
end Go.Proofs.YtkemhmfdooghkaaGreatDoor
