/- A part of the proof: C2, N15, UCard0, N16. -/
import Derived.Test.YtkemhmfdooghkaaGreatDoorZ1
import Derived.Test.YtkemhmfdooghkaaGreatDoorZ39
import Derived.Maps.RangeWalk
import Derived.BigQuiet
import Derived.Test.YtkemhmfdooghkaaGreatDoorCards
import Derived.Test.YtkemhmfdooghkaaGreatDoorTie
import Derived.Lib.LaidTab
import Derived.Stop.LaidErr
import Derived.ChangeSlices
import Derived.OpenShut
set_option linter.unusedSimpArgs false
set_option linter.unusedVariables false

section
namespace Go.Proofs.YtkemhmfdooghkaaGreatDoor.Od
open Go.RowKit
open Go.ChangeMaps (setBlock)
def IterM (w : World) (r b : Nat) (ks : List Nm) (f : Nm → Value) (left : List Nm) : Prop :=
 ∃ es clock since seen c0, w.heap[b]? = some (.map es clock) ∧ (∀ x ∈ es.toList, x.born < clock) ∧ (es.toList.map (·.born)).Nodup ∧ es.toList.map (fun e => (e.key, e.val)) = ks.map (fun k => (Value.string (S k), f k)) ∧ ks.Nodup ∧
  w.heap[r]? = some (.mapIter (some b) since seen c0) ∧ (∀ x ∈ es.toList, x.born < since) ∧ since ≤ c0 ∧ since ≤ clock ∧ (es.toList.filter fun e => !seen.contains e.born).map (·.key) = left.map (fun k => Value.string (S k))
section
variable {w w' : World} {r b : Nat} {ks left : List Nm} {f : Nm → Value}
theorem IterM.isM (h : IterM w r b ks f left) : IsM w b ks f := by
 obtain ⟨es, clock, since, seen, c0, h1, h2, h3, h4, h5, _⟩ := h
 exact ⟨es, clock, h1, h2, h3, h4, h5⟩
theorem IterM.lt (h : IterM w r b ks f left) : r < w.heap.size := by
 obtain ⟨es, clock, since, seen, c0, _, _, _, _, _, h6, _⟩ := h
 exact (Array.getElem?_eq_some_iff.1 h6).1
theorem IterM.ne (h : IterM w r b ks f left) : r ≠ b := by
 obtain ⟨es, clock, since, seen, c0, h1, _, _, _, _, h6, _⟩ := h
 intro e
 rw [e, h1] at h6
 cases h6
theorem IterM.kept (h : IterM w r b ks f left) (hb : w'.heap[b]? = w.heap[b]?) (hr : w'.heap[r]? = w.heap[r]?) : IterM w' r b ks f left := by
 obtain ⟨es, clock, since, seen, c0, h1, h2, h3, h4, h5, h6, h7⟩ := h
 exact ⟨es, clock, since, seen, c0, hb.trans h1, h2, h3, h4, h5, hr.trans h6, h7⟩
theorem IterM.grown {row : Option Nat} (h : IterM w r b ks f left) (hg : w.grownBy w' row) (hb : some b ≠ row) (hr : some r ≠ row) : IterM w' r b ks f left :=
 h.kept (hg.block b h.isM.lt hb) (hg.block r h.lt hr)
theorem IterM.alloc (h : IterM w r b ks f left) (o : Obj) : IterM (w.alloc o) r b ks f left := h.kept (heap_alloc_old w o h.isM.lt) (heap_alloc_old w o h.lt)
theorem IterM.setCell (h : IterM w r b ks f left) {a : Addr} (hb : b ≠ a.block) (hr : r ≠ a.block) (u : Value) : IterM (w.setCell a u) r b ks f left := by
 refine h.kept ?_ ?_ <;> (unfold World.setCell; simp [Array.getElem?_modify, Ne.symm hb, Ne.symm hr])
theorem keys_inj {es : List MapEntry} {ks : List Nm} {f : Nm → Value} (h : es.map (fun e => (e.key, e.val)) = ks.map (fun k => (Value.string (S k), f k))) {e : MapEntry} (he : e ∈ es) : ∃ k ∈ ks, e.key = .string (S k) ∧ e.val = f k := by
 have : (e.key, e.val) ∈ ks.map (fun k => (Value.string (S k), f k)) := h ▸ List.mem_map.2 ⟨e, he, rfl⟩
 obtain ⟨k, hk, e1⟩ := List.mem_map.1 this
 injection e1 with e1 e2
 exact ⟨k, hk, e1.symm, e2.symm⟩
theorem born_key : ∀ {es : List MapEntry} {ks : List Nm} {f : Nm → Value}, es.map (fun e => (e.key, e.val)) = ks.map (fun k => (Value.string (S k), f k)) → ks.Nodup → (es.map (·.born)).Nodup → ∀ {x e : MapEntry}, x ∈ es → e ∈ es → (x.key = e.key ↔ x.born = e.born) := by
 intro es ks f h hk hb x e hx he
 constructor
 ·intro hke
  obtain ⟨i, hi⟩ := List.mem_iff_getElem?.1 hx
  obtain ⟨j, hj⟩ := List.mem_iff_getElem?.1 he
  have e1 := congrArg (fun l : List (Value × Value) => l[i]?) h
  have e2 := congrArg (fun l : List (Value × Value) => l[j]?) h
  simp only [List.getElem?_map, hi, hj, Option.map_some] at e1 e2
  cases hki : ks[i]? with
  | none => rw [hki] at e1; cases e1
  | some k1 =>
    cases hkj : ks[j]? with
    | none => rw [hkj] at e2; cases e2
    | some k2 =>
      rw [hki] at e1
      rw [hkj] at e2
      simp only [Option.map_some, Option.some.injEq, Prod.mk.injEq] at e1 e2
      have : k1 = k2 := by
       have := e1.1.symm.trans (hke.trans e2.1)
       injection this with this
       exact S_inj.1 this
      subst this
      have := nd_inj hk hki hkj
      subst this
      rw [hi] at hj
      injection hj with hj
      rw [hj]
 ·intro hbe
  rw [born_inj hb hx he hbe]
variable {P : Program}
theorem IterM.next (h : IterM w r b ks f left) (ty : TypeId) :
 (left = [] ∧ (Instr.next (.pointer (some ⟨r, 0, none⟩)) false ty).run P w = .ok (.tuple #[.bool false]) w) ∨
 ∃ k w', k ∈ left ∧ k ∈ ks ∧ (Instr.next (.pointer (some ⟨r, 0, none⟩)) false ty).run P w = .ok (.tuple #[.bool true, .string (S k), f k]) w' ∧ IterM w' r b ks f (left.filter (fun x => !decide (x = k))) ∧ w.grownBy w' (some r) ∧ w'.heap.size = w.heap.size ∧
  (Instr.entry (.pointer (some ⟨r, 0, none⟩))).run P w' = .ok (.tuple #[.string (S k), f k]) w' := by
 have hne := h.ne
 obtain ⟨es, clock, since, seen, c0, hb, h2, h3, h4, h5, hr, hold, hsc, hsk, hl⟩ := h
 rcases run_next_at (P := P) w ty r b since c0 seen es clock hr hb hold hsc with ⟨h0, hrun⟩ | ⟨e, he, w1, hal, hrun⟩
 ·refine .inl ⟨?_, hrun⟩
  have : (es.toList.filter fun e => !seen.contains e.born) = [] := by
   refine List.eq_nil_of_length_eq_zero ?_
   unfold leftOf at h0
   rw [← Array.length_toList] at h0
   simpa using h0
  rw [this] at hl
  simpa using hl.symm
 ·obtain ⟨hem, hes⟩ := mem_left he
  obtain ⟨k, hk, e1, e2⟩ := keys_inj h4 hem
  have hkl : k ∈ left := by
   have hm : e.key ∈ (es.toList.filter fun e => !seen.contains e.born).map (·.key) := List.mem_map.2 ⟨e, List.mem_filter.2 ⟨hem, by rw [hes]; rfl⟩, rfl⟩
   rw [hl, e1] at hm
   obtain ⟨k', hk', e3⟩ := List.mem_map.1 hm
   injection e3 with e3
   exact S_inj.1 e3 ▸ hk'
  have hr1 : w1.heap[r]? = some (.mapIter (some b) since seen c0) := by rcases hal with rfl | rfl <;> exact hr
  have hb1 : w1.heap[b]? = some (.map es clock) := by rcases hal with rfl | rfl <;> exact hb
  have hset := MapKept.heap_set (o' := .mapIter (some b) since (seen.push e.born) clock) hr1
  have hb' : (setBlock w1 r (.mapIter (some b) since (seen.push e.born) clock)).heap[b]? = some (.map es clock) := (hset.2 b (fun q => hne q.symm)).trans hb1
  rw [e1, e2] at hrun
  refine .inr ⟨k, _, hkl, hk, hrun, ⟨es, clock, since, seen.push e.born, clock, hb', h2, h3, h4, h5, hset.1, hold, hsk, hsk, ?_⟩, ?_, ?_, ?_⟩
  ·have e3 : (es.toList.filter fun x => !(seen.push e.born).contains x.born) = (es.toList.filter fun x => !seen.contains x.born).filter fun x => !(x.born == e.born) := by
    rw [List.filter_filter]
    refine List.filter_congr fun x _ => ?_
    rw [contains_push]
    cases seen.contains x.born <;> cases (x.born == e.born) <;> rfl
   rw [e3]
   have e4 : ((es.toList.filter fun x => !seen.contains x.born).filter fun x => !(x.born == e.born)) = (es.toList.filter fun x => !seen.contains x.born).filter fun x => !(match x.key with | .string s => s == S k | _ => false) := by
    refine List.filter_congr fun x hx => ?_
    have hxm : x ∈ es.toList := (List.mem_filter.1 hx).1
    have := born_key h4 h5 h3 hxm hem
    obtain ⟨k2, _, e5, _⟩ := keys_inj h4 hxm
    rw [e5, e1] at this
    rw [e5]
    simp only [S_beq]
    congr 1
    rw [Bool.eq_iff_iff, beq_iff_eq, decide_eq_true_eq, ← this]
    constructor
    ·intro q; injection q with q; exact S_inj.1 q
    ·intro q; rw [q]
   rw [e4]
   have e5 : ∀ (l : List MapEntry) (q : List Nm), l.map (·.key) = q.map (fun k => Value.string (S k)) → (l.filter fun x => !(match x.key with | .string s => s == S k | _ => false)).map (·.key) = (q.filter fun x => !decide (x = k)).map (fun k => Value.string (S k)) := by
    intro l
    induction l with
    | nil => intro q h; cases q with
      | nil => rfl
      | cons a q => simp at h
    | cons x l ih =>
      intro q h
      cases q with
      | nil => simp at h
      | cons a q =>
        simp only [List.map_cons, List.cons.injEq] at h
        have := ih q h.2
        rw [List.filter_cons, List.filter_cons, h.1]
        simp only [S_beq]
        by_cases hak : a = k
        ·subst hak
         simpa using this
        ·simp only [hak, decide_false, Bool.not_false, if_true, List.map_cons, h.1]
         rw [this]
   exact e5 _ _ hl
  ·rcases hal with rfl | rfl <;> exact ⟨rfl, rfl, rfl, by simp [setBlock], fun i _ hi => hset.2 i (fun q => hi (by rw [q]))⟩
  ·rcases hal with rfl | rfl <;> simp [setBlock]
  ·have := run_entry_at (P := P) _ r b since seen es clock e hset.1 hb' hem h3
   rw [e1, e2] at this
   exact this
end
section
variable {P : Program} (w : World) {ops : Array Oper} {rest : List Oper} {o : Oper} {a : Act} {Q : Exit → Act → World → Prop}
end
end Go.Proofs.YtkemhmfdooghkaaGreatDoor.Od
end

section
namespace Go.Proofs.YtkemhmfdooghkaaGreatDoor.Un
open Go.RowKit
open Tr (Nd Fo RepS RepN Rep cellsN)
open Lx (Tk noTk Blk run_store_complexL TokAt scanL scanF flat scanEnd at_ lex EnvS)
open Fl
open Ex
open Od (Nm S IsM updV)
structure Bs (w : World) (A : Option Addr) (c : Nat) (l : List Nat) : Prop where
 at_ : Reads w w.heap.size 1 A l.length (l.map fun x => Value.int .u8 (x : Nat))
 small : ∀ x ∈ l, x < 256
 len : l.length ≤ 9223372036854775807
structure Ts (w : World) (A : Option Addr) (c : Nat) (l : List Bool) : Prop where
 at_ : Reads w w.heap.size 1 A l.length (l.map fun x => Value.bool x)
 len : l.length ≤ 9223372036854775807
theorem row_cell {w : World} {A : Option Addr} {n : Nat} {vs : List Value} (h : Reads w w.heap.size 1 A n vs) (hn : vs.length = n) {i : Nat} {v : Value} (hi : vs[i]? = some v) : ∃ g off, A = some ⟨g, off, none⟩ ∧ w.cell? ⟨g, off + i, none⟩ = some v := by
 have hlt := (List.getElem?_eq_some_iff.1 hi).1
 obtain ⟨⟨g, off, sp⟩, e, _, hc⟩ := h.2 (by omega)
 have h1 := hc i v hi
 have hs : sp = none := by
  have := World.cell?_spot (hc 0 (vs[0]'(by omega)) (List.getElem?_eq_getElem (by omega)))
  simpa [Addr.add] using this
 subst hs
 refine ⟨g, off, e, ?_⟩
 rwa [show (⟨g, off, none⟩ : Addr).add i = ⟨g, off + i, none⟩ by unfold Addr.add; split <;> simp_all] at h1
def imP (xs : List Nat) (ys : List Bool) (i : Nat) : Im := ((ys[i]?).getD false, UInt8.ofNat (65 + ((xs[i]?).getD 0) % 8))
def psI (xs : List Nat) (ys : List Bool) (n : Nat) : List Im := (List.range n).map (imP xs ys)
theorem psI_ok (xs : List Nat) (ys : List Bool) (n : Nat) : ∀ p ∈ psI xs ys n, OKc p.2 := fun p hp => by
 obtain ⟨i, _, rfl⟩ := List.mem_map.1 hp
 exact ⟨((xs[i]?).getD 0) % 8, Nat.mod_lt _ (by omega), rfl⟩
theorem psI_len (xs : List Nat) (ys : List Bool) (n : Nat) : (psI xs ys n).length = n := by unfold psI; simp
theorem psI_succ (xs : List Nat) (ys : List Bool) (n : Nat) : psI xs ys (n + 1) = psI xs ys n ++ [imP xs ys n] := by unfold psI; rw [List.range_succ, List.map_append]; rfl
theorem textI_snoc (ps : List Im) (p : Im) : textI (ps ++ [p]) = textI ps ++ (chunkB p ++ [32]) := by unfold textI; simp
theorem wantP_snoc (acc : List ByteArray) (ps : List Im) (p : Im) : wantP acc (ps ++ [p]) = addU (wantP acc ps) (one p.2) := by unfold wantP; rw [List.foldl_append]; rfl
theorem addU_S (W : List Nm) (m : Nm) : addU (W.map S) (S m) = (if m ∈ W then W else W ++ [m]).map S := by
 unfold addU
 by_cases h : m ∈ W
 ·rw [if_pos h, if_pos (hasB_iff.2 (List.mem_map.2 ⟨m, h, rfl⟩))]
 ·rw [if_neg h, if_neg (fun e => ?_)]
  ·rw [List.map_append]; rfl
  ·obtain ⟨x, hx, e⟩ := List.mem_map.1 (hasB_iff.1 e)
   rw [Od.S_inj] at e
   exact h (e ▸ hx)
theorem app_data (a b : ByteArray) : (a ++ b).data.toList = a.data.toList ++ b.data.toList := by
 simp
theorem conv_m (W : World) (x : Nat) : (convert 22 9 (.slice (some ⟨W.heap.size, 0, none⟩) 1 1)).run Tryz.prog (W.alloc (.cells #[.int .u8 (65 + (x : Int) % 8)] 5)) = .ok (.string ⟨#[UInt8.ofNat (65 + x % 8)]⟩) (W.alloc (.cells #[.int .u8 (65 + (x : Int) % 8)] 5)) := by
 rw [run_convert_bytes_string _ _ _ _ _ _ _ Tryz.underlying22 Tryz.underlying5 Tryz.underlying9]
 rw [run_bytesToString _ _ _ _ [65 + (x : Int) % 8] (by simp [loadCells, loadCellsFrom, go_sem, Addr.add])]
 rw [show (UInt8.ofNat (65 + x % 8)) = UInt8.ofNat (65 + (x : Int) % 8).toNat by congr 1]
 rfl
abbrev one1 : Nm → Value := fun _ => .int .i64 1
theorem upd_one (m : Nm) : updV one1 m (.int .i64 1) = one1 := by funext n; unfold updV; split <;> rfl
set_option maxRecDepth 100000 in set_option maxHeartbeats 6400000 in
theorem law_walk {w : World} {A1 A2 : Option Addr} {c1 c2 : Nat} {xs : List Nat} {ys : List Bool} (hx : Bs w A1 c1 xs) (hy : Ts w A2 c2 ys) (E : EnvS w) :
 Calls Tryz.prog 6 #[.slice A1 xs.length c1, .slice A2 ys.length c2] w fun e w' => e = .returned (.bool true) ∧ Below w.heap.size w w' := by
 have HE := qh E
 have HX := qh hx
 have HY := qh hy
 have hxl := hx.len
 have hyl := hy.len
 have HWK := qh (works_any E)
 clear hx hy E
 by_cases hbx : 60 < xs.length
 ·have x0 : (60 : Int) < (xs.length : Int) := by omega
  go_enter Tryz.func6, Tryz.ntmps6
  go_wp2_with fail
  ((with_reducible refine HWK.out.mono ?_); rintro e w1 ⟨rfl, hb⟩)
  have HB := qh hb
  clear hb
  go_wp2
  go_ret
  exact ⟨rfl, HB.out⟩
 have x0 : ¬ (60 : Int) < (xs.length : Int) := by omega
 by_cases hby : 60 < ys.length
 ·have y0 : (60 : Int) < (ys.length : Int) := by omega
  go_enter Tryz.func6, Tryz.ntmps6
  go_wp2_with fail
  ((with_reducible refine HWK.out.mono ?_); rintro e w1 ⟨rfl, hb⟩)
  have HB := qh hb
  clear hb
  go_wp2
  go_ret
  exact ⟨rfl, HB.out⟩
 have y0 : ¬ (60 : Int) < (ys.length : Int) := by omega
 have HM := qh (IsM.made w one1)
 have HB := qh (show Below w.heap.size w (w.alloc (.map #[] 0)) from (Below.refl _ _).alloc (Nat.le_refl _) _)
 have hmm := @run_makeMap Tryz.prog
 go_enter Tryz.func6, Tryz.ntmps6
 go_wp2_with fail
 go_loopg [5, 6, 8] xs.length (fun gh sv wv iv wr => ∃ (i : Nat) (sB : ByteArray) (lv : Value) (W : List Nm), sv = .string sB ∧ lv = wv ∧ iv = .int .i64 (i : Nat) ∧ i ≤ xs.length ∧ xs.length - i ≤ gh ∧ W.length ≤ i ∧ Hid (sB.data.toList = hdB ++ textI (psI xs ys i)) ∧ Hid (wantP [] (psI xs ys i) = W.map S) ∧ Hid (OwnB (w.heap.size + 1) wr lv (W.map S)) ∧ Hid (IsM wr w.heap.size W one1) ∧ Hid (Below w.heap.size w wr))
 case atStart => exact ⟨0, _, _, [], rfl, rfl, rfl, by omega, by omega, by simp, qh rfl, qh rfl, qh OwnB.nil, HM, HB⟩
 case round =>
  clear HM HB
  obtain ⟨i, sB, lv, W, rfl, rfl, rfl, hi, hgh, hWl, HS, HWT, HO, HM, HB⟩ := hrel
  by_cases hlt : i < xs.length
  ·have x1 : (i : Int) < (xs.length : Int) := by omega
   obtain ⟨x, hx⟩ : ∃ x, xs[i]? = some x := ⟨_, List.getElem?_eq_getElem hlt⟩
   have hxs : x < 256 := HX.out.small x (List.mem_of_getElem? hx)
   obtain ⟨g, off, rfl, zx⟩ := row_cell HX.out.at_ (by simp) (i := i) (v := .int .u8 (x : Nat)) (by rw [List.getElem?_map, hx]; rfl)
   replace zx := car HB.out zx
   have hcv := conv_m wr x
   have hss : sB.size ≤ 2000 := by
    have h1 : sB.data.toList.length = sB.size := by simp
    have h2 := textI_len (psI xs ys i)
    rw [psI_len] at h2
    rw [HS.out] at h1
    simp only [List.length_append, show hdB.length = 10 from rfl] at h1
    omega
   obtain ⟨cb, hcb⟩ : ∃ cb, cb = UInt8.ofNat (65 + x % 8) := ⟨_, rfl⟩
   rw [← hcb] at hcv
   have HM2 := qh (show IsM (wr.alloc (.cells #[.int .u8 (65 + (x : Int) % 8)] 5)) w.heap.size W one1 from HM.out.alloc _)
   obtain ⟨nm, hnm⟩ : ∃ nm : Nm, nm = [cb] := ⟨_, rfl⟩
   have hSn : S nm = ⟨#[cb]⟩ := by rw [hnm]; rfl
   by_cases hly : i < ys.length
   ·have y1 : (i : Int) < (ys.length : Int) := by omega
    obtain ⟨yb, hyb⟩ : ∃ yb, ys[i]? = some yb := ⟨_, List.getElem?_eq_getElem hly⟩
    obtain ⟨g2, off2, rfl, zy⟩ := row_cell HY.out.at_ (by simp) (i := i) (v := .bool yb) (by rw [List.getElem?_map, hyb]; rfl)
    have zy2 := car (HB.out.alloc HB.out.size (.cells #[.int .u8 (65 + (x : Int) % 8)] 5)) zy
    replace zy := car HB.out zy
    have hg2l := World.block_lt_of_cell? wr _ zy
    have HIM := qh (show imP xs ys i = (yb, cb) from by unfold imP; rw [hx, hyb, hcb]; rfl)
    clear hx hyb hcb
    cases yb with
    | true =>
      have HS := qh (show (sB ++ ⟨#[70, 82, 79, 77, 32]⟩ ++ ⟨#[cb]⟩ ++ ⟨#[32, 73, 77, 80, 79, 82, 84, 32, 120, 44, 32, 121, 59, 32]⟩ : ByteArray).data.toList = hdB ++ textI (psI xs ys (i + 1)) from by
       simp only [app_data]
       rw [HS.out, psI_succ, textI_snoc, HIM.out]
       simp [chunkB])
      have HWT := qh (show wantP [] (psI xs ys (i + 1)) = (if nm ∈ W then W else W ++ [nm]).map S from by
       rw [psI_succ, wantP_snoc, HIM.out, HWT.out, ← addU_S, hSn]; rfl)
      by_cases hin : nm ∈ W
      ·have hlk := HM2.out.look_in Tryz.underlying52 Tryz.underlying9 hin false
       rw [if_neg (by decide)] at hlk
       have HWT := qh (HWT.out.trans (by rw [if_pos hin]))
       obtain ⟨w7, hrun, hp, hg7⟩ := HM2.out.put Tryz.underlying52 Tryz.underlying9 nm (.int .i64 1)
       rw [upd_one, if_pos hin] at hp
       rw [hSn] at hlk hrun
       have HO3 := qh ((HO.out.below ((Below.refl _ _).alloc (Nat.le_refl _) _)).kept hg7 (.inr fun e => by have := (World.ownsRow.lt HO.out _ e).1; omega))
       have HB3 := qh ((HB.out.alloc HB.out.size _).grown hg7 (HB.out.alloc HB.out.size _).size (fun k e => by injection e with e; omega))
       have HM3 := qh hp
       clear hp hg7
       go_wp2
       go_roundg (xs.length - i - 1)
       case rel => exact ⟨i + 1, _, lv, W, by rfl, by rfl, by rfl, by omega, by omega, by omega, HS, HWT, HO3, HM3, HB3⟩
       case measure => omega
      ·have hlk := HM2.out.look_out Tryz.underlying52 Tryz.underlying9 hin (show (zeroValue 3).run Tryz.prog (wr.alloc (.cells #[.int .u8 (65 + (x : Int) % 8)] 5)) = .ok (.int .i64 0) (wr.alloc (.cells #[.int .u8 (65 + (x : Int) % 8)] 5)) by kernel_rfl) false
       rw [if_neg (by decide)] at hlk
       have HWT := qh (HWT.out.trans (by rw [if_neg hin]))
       rw [hSn] at hlk
       go_wp2_with (at_builtin; refine wpList_push (wr.alloc (.cells #[.int .u8 (65 + (x : Int) % 8)] 5)) rfl _ _ rfl (w.heap.size + 1) lv (W.map S) rfl (HO.out.below ((Below.refl _ _).alloc (Nat.le_refl _) _)) (by rw [List.length_map]; omega) (by rw [World.size_alloc]; have := HB.out.size; omega) (one (cb)) (wr.heap.size + 1) rfl (World.size_alloc _ _) ?_; rintro lv' w5 ⟨g5, cap5, rfl⟩ hown hgrow hor; have HM5 := qh (HM2.out.grown hgrow (fun e => by have := (World.ownsRow.lt HO.out _ e.symm).1; omega)); obtain ⟨w7, hrun, hp, hg7⟩ := HM5.out.put Tryz.underlying52 Tryz.underlying9 nm (.int .i64 1); rw [hSn] at hrun)
       rw [upd_one, if_neg hin] at hp
       have HO3 := qh (show OwnB (w.heap.size + 1) w7 (.slice (some ⟨g5, 0, none⟩) (W.length + 1) cap5) ((W ++ [nm]).map S) from by
        have h := hown.kept hg7 (.inr fun e => by have := (World.ownsRow.lt hown _ e).1; omega)
        rw [List.length_map] at h
        rw [List.map_append, List.map_singleton, hSn]
        exact h)
       have HB3 := qh (((HB.out.alloc HB.out.size _).grown hgrow (HB.out.alloc HB.out.size _).size (fun k e => by have := (World.ownsRow.lt HO.out k e).1; omega)).grown hg7 (Nat.le_trans (HB.out.alloc HB.out.size _).size hgrow.size) (fun k e => by injection e with e; omega))
       have HM3 := qh hp
       clear hp hg7 hown hgrow hor
       go_wp2
       go_roundg (xs.length - i - 1)
       case rel => exact ⟨i + 1, _, _, W ++ [nm], by rfl, by rfl, by rfl, by omega, by omega, by simp only [List.length_append, List.length_cons, List.length_nil]; omega, HS, HWT, HO3, HM3, HB3⟩
       case measure => omega
    | false =>
      have HS := qh (show (sB ++ ⟨#[73, 77, 80, 79, 82, 84, 32]⟩ ++ ⟨#[cb]⟩ ++ ⟨#[44, 32]⟩ ++ ⟨#[cb]⟩ ++ ⟨#[59, 32]⟩ : ByteArray).data.toList = hdB ++ textI (psI xs ys (i + 1)) from by
       simp only [app_data]
       rw [HS.out, psI_succ, textI_snoc, HIM.out]
       simp [chunkB])
      have HWT := qh (show wantP [] (psI xs ys (i + 1)) = (if nm ∈ W then W else W ++ [nm]).map S from by
       rw [psI_succ, wantP_snoc, HIM.out, HWT.out, ← addU_S, hSn]; rfl)
      by_cases hin : nm ∈ W
      ·have hlk := HM2.out.look_in Tryz.underlying52 Tryz.underlying9 hin false
       rw [if_neg (by decide)] at hlk
       have HWT := qh (HWT.out.trans (by rw [if_pos hin]))
       obtain ⟨w7, hrun, hp, hg7⟩ := HM2.out.put Tryz.underlying52 Tryz.underlying9 nm (.int .i64 1)
       rw [upd_one, if_pos hin] at hp
       rw [hSn] at hlk hrun
       have HO3 := qh ((HO.out.below ((Below.refl _ _).alloc (Nat.le_refl _) _)).kept hg7 (.inr fun e => by have := (World.ownsRow.lt HO.out _ e).1; omega))
       have HB3 := qh ((HB.out.alloc HB.out.size _).grown hg7 (HB.out.alloc HB.out.size _).size (fun k e => by injection e with e; omega))
       have HM3 := qh hp
       clear hp hg7
       go_wp2
       go_roundg (xs.length - i - 1)
       case rel => exact ⟨i + 1, _, lv, W, by rfl, by rfl, by rfl, by omega, by omega, by omega, HS, HWT, HO3, HM3, HB3⟩
       case measure => omega
      ·have hlk := HM2.out.look_out Tryz.underlying52 Tryz.underlying9 hin (show (zeroValue 3).run Tryz.prog (wr.alloc (.cells #[.int .u8 (65 + (x : Int) % 8)] 5)) = .ok (.int .i64 0) (wr.alloc (.cells #[.int .u8 (65 + (x : Int) % 8)] 5)) by kernel_rfl) false
       rw [if_neg (by decide)] at hlk
       have HWT := qh (HWT.out.trans (by rw [if_neg hin]))
       rw [hSn] at hlk
       go_wp2_with (at_builtin; refine wpList_push (wr.alloc (.cells #[.int .u8 (65 + (x : Int) % 8)] 5)) rfl _ _ rfl (w.heap.size + 1) lv (W.map S) rfl (HO.out.below ((Below.refl _ _).alloc (Nat.le_refl _) _)) (by rw [List.length_map]; omega) (by rw [World.size_alloc]; have := HB.out.size; omega) (one (cb)) (wr.heap.size + 1) rfl (World.size_alloc _ _) ?_; rintro lv' w5 ⟨g5, cap5, rfl⟩ hown hgrow hor; have HM5 := qh (HM2.out.grown hgrow (fun e => by have := (World.ownsRow.lt HO.out _ e.symm).1; omega)); obtain ⟨w7, hrun, hp, hg7⟩ := HM5.out.put Tryz.underlying52 Tryz.underlying9 nm (.int .i64 1); rw [hSn] at hrun)
       rw [upd_one, if_neg hin] at hp
       have HO3 := qh (show OwnB (w.heap.size + 1) w7 (.slice (some ⟨g5, 0, none⟩) (W.length + 1) cap5) ((W ++ [nm]).map S) from by
        have h := hown.kept hg7 (.inr fun e => by have := (World.ownsRow.lt hown _ e).1; omega)
        rw [List.length_map] at h
        rw [List.map_append, List.map_singleton, hSn]
        exact h)
       have HB3 := qh (((HB.out.alloc HB.out.size _).grown hgrow (HB.out.alloc HB.out.size _).size (fun k e => by have := (World.ownsRow.lt HO.out k e).1; omega)).grown hg7 (Nat.le_trans (HB.out.alloc HB.out.size _).size hgrow.size) (fun k e => by injection e with e; omega))
       have HM3 := qh hp
       clear hp hg7 hown hgrow hor
       go_wp2
       go_roundg (xs.length - i - 1)
       case rel => exact ⟨i + 1, _, _, W ++ [nm], by rfl, by rfl, by rfl, by omega, by omega, by simp only [List.length_append, List.length_cons, List.length_nil]; omega, HS, HWT, HO3, HM3, HB3⟩
       case measure => omega
   ·have y1 : ¬ (i : Int) < (ys.length : Int) := by omega
    have HIM := qh (show imP xs ys i = (false, cb) from by unfold imP; rw [hx, List.getElem?_eq_none (by omega), hcb]; rfl)
    clear hx hcb
    have HS := qh (show (sB ++ ⟨#[73, 77, 80, 79, 82, 84, 32]⟩ ++ ⟨#[cb]⟩ ++ ⟨#[44, 32]⟩ ++ ⟨#[cb]⟩ ++ ⟨#[59, 32]⟩ : ByteArray).data.toList = hdB ++ textI (psI xs ys (i + 1)) from by
     simp only [app_data]
     rw [HS.out, psI_succ, textI_snoc, HIM.out]
     simp [chunkB])
    have HWT := qh (show wantP [] (psI xs ys (i + 1)) = (if nm ∈ W then W else W ++ [nm]).map S from by
     rw [psI_succ, wantP_snoc, HIM.out, HWT.out, ← addU_S, hSn]; rfl)
    by_cases hin : nm ∈ W
    ·have hlk := HM2.out.look_in Tryz.underlying52 Tryz.underlying9 hin false
     rw [if_neg (by decide)] at hlk
     have HWT := qh (HWT.out.trans (by rw [if_pos hin]))
     obtain ⟨w7, hrun, hp, hg7⟩ := HM2.out.put Tryz.underlying52 Tryz.underlying9 nm (.int .i64 1)
     rw [upd_one, if_pos hin] at hp
     rw [hSn] at hlk hrun
     have HO3 := qh ((HO.out.below ((Below.refl _ _).alloc (Nat.le_refl _) _)).kept hg7 (.inr fun e => by have := (World.ownsRow.lt HO.out _ e).1; omega))
     have HB3 := qh ((HB.out.alloc HB.out.size _).grown hg7 (HB.out.alloc HB.out.size _).size (fun k e => by injection e with e; omega))
     have HM3 := qh hp
     clear hp hg7
     go_wp2
     go_roundg (xs.length - i - 1)
     case rel => exact ⟨i + 1, _, lv, W, by rfl, by rfl, by rfl, by omega, by omega, by omega, HS, HWT, HO3, HM3, HB3⟩
     case measure => omega
    ·have hlk := HM2.out.look_out Tryz.underlying52 Tryz.underlying9 hin (show (zeroValue 3).run Tryz.prog (wr.alloc (.cells #[.int .u8 (65 + (x : Int) % 8)] 5)) = .ok (.int .i64 0) (wr.alloc (.cells #[.int .u8 (65 + (x : Int) % 8)] 5)) by kernel_rfl) false
     rw [if_neg (by decide)] at hlk
     have HWT := qh (HWT.out.trans (by rw [if_neg hin]))
     rw [hSn] at hlk
     go_wp2_with (at_builtin; refine wpList_push (wr.alloc (.cells #[.int .u8 (65 + (x : Int) % 8)] 5)) rfl _ _ rfl (w.heap.size + 1) lv (W.map S) rfl (HO.out.below ((Below.refl _ _).alloc (Nat.le_refl _) _)) (by rw [List.length_map]; omega) (by rw [World.size_alloc]; have := HB.out.size; omega) (one (cb)) (wr.heap.size + 1) rfl (World.size_alloc _ _) ?_; rintro lv' w5 ⟨g5, cap5, rfl⟩ hown hgrow hor; have HM5 := qh (HM2.out.grown hgrow (fun e => by have := (World.ownsRow.lt HO.out _ e.symm).1; omega)); obtain ⟨w7, hrun, hp, hg7⟩ := HM5.out.put Tryz.underlying52 Tryz.underlying9 nm (.int .i64 1); rw [hSn] at hrun)
     rw [upd_one, if_neg hin] at hp
     have HO3 := qh (show OwnB (w.heap.size + 1) w7 (.slice (some ⟨g5, 0, none⟩) (W.length + 1) cap5) ((W ++ [nm]).map S) from by
      have h := hown.kept hg7 (.inr fun e => by have := (World.ownsRow.lt hown _ e).1; omega)
      rw [List.length_map] at h
      rw [List.map_append, List.map_singleton, hSn]
      exact h)
     have HB3 := qh (((HB.out.alloc HB.out.size _).grown hgrow (HB.out.alloc HB.out.size _).size (fun k e => by have := (World.ownsRow.lt HO.out k e).1; omega)).grown hg7 (Nat.le_trans (HB.out.alloc HB.out.size _).size hgrow.size) (fun k e => by injection e with e; omega))
     have HM3 := qh hp
     clear hp hg7 hown hgrow hor
     go_wp2
     go_roundg (xs.length - i - 1)
     case rel => exact ⟨i + 1, _, _, W ++ [nm], by rfl, by rfl, by rfl, by omega, by omega, by simp only [List.length_append, List.length_cons, List.length_nil]; omega, HS, HWT, HO3, HM3, HB3⟩
     case measure => omega
  ·have x1 : ¬ (i : Int) < (xs.length : Int) := by omega
   have hie : i = xs.length := by omega
   subst hie
   have hss : sB.size ≤ 2000 := by
    have h1 : sB.data.toList.length = sB.size := by simp
    have h2 := textI_len (psI xs ys xs.length)
    rw [psI_len] at h2
    rw [HS.out] at h1
    simp only [List.length_append, show hdB.length = 10 from rfl] at h1
    omega
   have HR := qh (read_law (w := wr) (psI_ok xs ys xs.length) (by rw [psI_len]; omega) (sB ++ ⟨#[69, 78, 68, 32, 77, 46]⟩) (by rw [app_data, HS.out, List.append_assoc]; rfl) (HE.out.below (Nat.le_refl _) HB.out))
   clear HS HM
   go_wp2_with fail
   ((with_reducible refine HR.out.mono ?_); rintro e w1 ⟨b, d, l, rfl, hd, hrep, hll, hkk, him, hb⟩)
   have HB1 := qh (HB.out.trans (hb.mono HB.out.size))
   have HO1 := qh (HO.out.below hb)
   have HI := qh (Imports_any hrep (by omega) (by omega) (by omega) hkk)
   have HIM := qh (him.trans HWT.out)
   clear hrep hkk him hb HB HO HR
   go_wp2_with fail
   ((with_reducible refine HI.out.mono ?_); rintro e w2 ⟨gv, rfl, ho, hb⟩)
   have HB2 := qh (HB1.out.trans (hb.mono HB1.out.size))
   have HO2 := qh (HO1.out.below hb)
   rw [HIM.out] at ho
   have HG := qh ho
   clear ho hb HB1 HO1 HI
   obtain ⟨Aw, cw, rfl, hfw⟩ := HO2.out.form
   obtain ⟨Ag, cg, rfl, hfg⟩ := HG.out.form
   have hZl : (W.map S).length ≤ 60 := by rw [List.length_map]; omega
   generalize W.map S = Z at *
   go_wp2
   go_loopg [14] Z.length (fun gh iv wr => ∃ i : Nat, iv = .int .i64 (i : Nat) ∧ i ≤ Z.length ∧ Z.length - i ≤ gh ∧ Hid (∀ a : Addr, wr.cell? a = w2.cell? a) ∧ Hid (w2.heap.size ≤ wr.heap.size) ∧ Hid (Below w.heap.size w wr))
   case atStart => exact ⟨0, rfl, by omega, by omega, qh fun _ => rfl, qh (Nat.le_refl _), HB2⟩
   case round =>
    clear HB2
    obtain ⟨i, rfl, hi2, hgh2, HC, HZ2, HB2⟩ := hrel
    by_cases hlt2 : i < Z.length
    ·have x2 : (i : Int) < (Z.length : Int) := by omega
     have x3 : ¬ (Z.length : Int) ≤ (i : Int) := by omega
     have x3n : ¬ Z.length ≤ i := by omega
     have x3p : decide (Z.length ≤ i) = false := decide_eq_false x3n
     have x3o : decide ((Z.length : Int) ≤ (i : Int)) = false := decide_eq_false x3
     obtain ⟨gw, rfl, _, _, hcw⟩ := hfw (by omega)
     obtain ⟨gg, rfl, _, _, hcg⟩ := hfg (by omega)
     have q1 := (HC.out _).trans (hcw i hlt2)
     have q2 := (HC.out _).trans (hcg i hlt2)
     simp only [Nat.zero_add] at q1 q2
     clear hcw hcg
     generalize Z.getD i ByteArray.empty = zz at *
     go_wp2
     go_big_quiet (fail)
     clear x3 x3n x3p x3o q1 q2
     go_wp2
     go_roundg (Z.length - i - 1)
     case rel => exact ⟨i + 1, by rfl, by omega, by omega, qh (fun a => HC.out a), qh HZ2.out, qh (Lx.below_drewN HB2.out nq)⟩
     case measure => omega
    ·have x2 : ¬ (i : Int) < (Z.length : Int) := by omega
     have HWK2 := qh (works_any (HE.out.below (Nat.le_refl _) HB2.out))
     go_wp2_with fail
     ((with_reducible refine HWK2.out.mono ?_); rintro e w9 ⟨rfl, hb⟩)
     have HB9 := qh (HB2.out.trans (hb.mono HB2.out.size))
     clear hb
     go_wp2
     go_ret
     exact ⟨rfl, HB9.out⟩
end Go.Proofs.YtkemhmfdooghkaaGreatDoor.Un
end

section
namespace Go.Proofs.YtkemhmfdooghkaaGreatDoor.Un
open Go.RowKit
open Lx (EnvS)
theorem gSyn : Tryz.prog.globalNamed "strconv.ErrSyntax" = some 0 := by kernel_rfl
theorem gSynType : (Tryz.prog.globals[0]?).map (·.type) = some 128 := by kernel_rfl
theorem gRan : Tryz.prog.globalNamed "strconv.ErrRange" = some 1 := by kernel_rfl
theorem gRanType : (Tryz.prog.globals[1]?).map (·.type) = some 128 := by kernel_rfl
theorem cellsErr : Tryz.prog.cellsOf 171 = 1 := by kernel_rfl
theorem cellsStr : Tryz.prog.cellsOf 9 = 1 := by kernel_rfl
theorem star : "*" ++ "errors.errorString" = "*errors.errorString" := by decide
theorem rowErr (u : TypeId) (h : Tryz.prog.typeName? 3 u = some "*errors.errorString") : u = 169 :=
 typeName_ptr_named (nm := "errors.errorString") (by rw [star]; kernel_rfl) (by kernel_rfl) (by decide) u (by rw [star]; exact h)
theorem cell_of_var {P : Program} {w : World} {name : String} {g : Nat} {v : Value} (hg : P.globalNamed name = some g) (h : w.var? P name = some #[v]) : w.cell? ⟨g, 0, none⟩ = some v := by
 unfold World.var? at h
 rw [hg] at h
 simp only [Option.bind_some] at h
 unfold World.cell?
 split at h
 ·rename_i cs t fz hb
  injection h with h
  subst h
  rw [hb]
  rfl
 ·cases h
theorem envS {W : World} (h : laidMetH Tryz.prog Rows.unitImportsRow.laid W) (hS : W.ShapedOpen Tryz.prog) : EnvS W := by
 have h' : laidMet Tryz.prog [("math/bits.deBruijn32tab", Rows.laid_math_bits_deBruijn32tab), ("math/bits.deBruijn64tab", Rows.laid_math_bits_deBruijn64tab), ("internal/strconv.uint64pow10", Rows.laid_internal_strconv_uint64pow10), ("strconv.ErrRange", Rows.laid_strconv_ErrRange), ("strconv.ErrSyntax", Rows.laid_strconv_ErrSyntax)] W := h
 have h3 := h'.tail.tail
 obtain ⟨a, s, ha, _⟩ := laid_sentinel h3.tail gRan gRanType Tryz.underlying128 rowErr Tryz.underlying169 Tryz.underlying171 rfl rfl Tryz.underlying9 cellsErr cellsStr
 obtain ⟨b, s', hb, _⟩ := laid_sentinel h3.tail.tail gSyn gSynType Tryz.underlying128 rowErr Tryz.underlying169 Tryz.underlying171 rfl rfl Tryz.underlying9 cellsErr cellsStr
 exact ⟨Tryz.laysM144.s1_3 W hS, ⟨_, _, cell_of_var gSyn hb⟩, ⟨_, _, cell_of_var gRan ha⟩⟩
def litCells : DataW Unit → Array Value
 | .agg l => (l.map fun | .lit (.int k z) => Value.int k z | _ => .bool false).toArray
 | _ => #[]
def put (cs : Array Value) : Obj → Obj
 | .cells _ t frozen => .cells cs t frozen
 | o => o
noncomputable def low : Nat := (World.holding Tryz.prog default ⟨#[], #[], []⟩).heap.size
def dtxt : DataW Unit → ByteArray
 | .iface _ (.ptr (.agg [.lit (.string l)])) => ⟨l.toArray⟩
 | _ => ⟨#[]⟩
noncomputable def witBlocks : Array Obj := #[.cells #[.string (dtxt Rows.laid_strconv_ErrSyntax)] 171, .cells #[.string (dtxt Rows.laid_strconv_ErrRange)] 171]
noncomputable def laidWorld (os : Os) : World :=
 { World.holding Tryz.prog os ⟨witBlocks, #[], []⟩ with heap := (((((World.holding Tryz.prog os ⟨witBlocks, #[], []⟩).heap.modify 0 (put #[.iface 169 (.pointer (some ⟨low, 0, none⟩))])).modify 1 (put #[.iface 169 (.pointer (some ⟨low + 1, 0, none⟩))])).modify 3 (put (litCells Rows.laid_internal_strconv_uint64pow10))).modify 4 (put (litCells Rows.laid_math_bits_deBruijn32tab))).modify 5 (put (litCells Rows.laid_math_bits_deBruijn64tab)) }
theorem laid_met (os : Os) (args : Array Value) : laidMet Tryz.prog Rows.unitImportsRow.laid ((laidWorld os).forCall (fun _ _ => 0) ⟨#[], args, []⟩).memory :=
 laidMet_of_run' 8 (by kernel_rfl) (by kernel_rfl)
end Go.Proofs.YtkemhmfdooghkaaGreatDoor.Un
end

section
namespace Go.Proofs.YtkemhmfdooghkaaGreatDoor.Un
open Go.RowKit Go.ChangeShapes Go.WideShapes
theorem bnd_u8 {n : Int} (h : (Lit.int .u8 n).wf = true) : 0 ≤ n ∧ n < 256 := by
 have := bounds_u8 h
 omega
theorem open_bytes {H : Type} {enc : TypeId × Value → H} {W : World} {v : Value} {d : DataW H} {p : List MemPlace} (h : DataW.Trod enc Tryz.prog W 0 (fun _ => true) true 22 v d p) (hone1 : ∃ A n c, v = .slice A n c) :
 ∃ A c l, v = .slice A l.length c ∧ Bs W A c l := by
 obtain ⟨A0, n0, c0, rfl⟩ := hone1
 obtain ⟨fuel, hf⟩ := h
 rcases open_ints Tryz.underlying22 Tryz.underlying5 (by kernel_rfl) hf with ⟨hcs, _⟩ | ⟨a, n, c, zs, hcs, _, hl, hm, hz, _, hcell, hwz⟩
 ·simp [Value.cells] at hcs
  obtain ⟨rfl, rfl, rfl⟩ := hcs
  exact ⟨none, 0, [], rfl, ⟨by simp, fun h => absurd h (by simp)⟩, fun x hx => by simp at hx, by simp⟩
 ·simp [Value.cells] at hcs
  obtain ⟨rfl, rfl, rfl⟩ := hcs
  rw [if_pos rfl] at hz
  have hbn : ∀ z ∈ zs, 0 ≤ z ∧ z < 256 := fun z hz => bnd_u8 (hwz z hz)
  have hll : ((zs.take n0).map Int.toNat).length = n0 := by rw [List.length_map, List.length_take]; omega
  refine ⟨some a, c0, (zs.take n0).map Int.toNat, by rw [hll], ⟨by simp, fun h0 => ?_⟩, ?_, by rw [hll]; unfold maxLen at hm; omega⟩
  ·rw [hll] at h0
   refine ⟨a, rfl, ?_, fun j u hu => ?_⟩
   ·have := World.block_lt_of_cell? W _ (hcell 0 (by omega))
    rwa [block_of_add] at this
   ·have hj : j < n0 := by
     have := (List.getElem?_eq_some_iff.1 hu).1
     rw [List.length_map, hll] at this; exact this
    have hjz : j < zs.length := by omega
    rw [hcell j hjz, ← hu]
    rw [List.getElem?_map, List.getElem?_map, List.getElem?_take, if_pos hj, List.getElem?_eq_getElem hjz, List.getD_eq_getElem?_getD, List.getElem?_eq_getElem hjz]
    have := hbn zs[j] (List.getElem_mem _)
    simp only [Option.map_some, Option.getD_some]
    rw [Int.toNat_of_nonneg this.1]
  ·intro x hx
   obtain ⟨z, hz2, rfl⟩ := List.mem_map.1 hx
   have := hbn z (List.mem_of_mem_take hz2)
   omega
def boolOf {H : Type} (y : DataW H × List MemPlace) : Bool := match y.1 with | .lit (.bool b) => b | _ => false
theorem open_bools {H : Type} {enc : TypeId × Value → H} {W : World} {v : Value} {d : DataW H} {p : List MemPlace} (h : DataW.Trod enc Tryz.prog W 0 (fun _ => true) true 51 v d p) (hone1 : ∃ A n c, v = .slice A n c) :
 ∃ A c l, v = .slice A l.length c ∧ Ts W A c l := by
 obtain ⟨A0, n0, c0, rfl⟩ := hone1
 obtain ⟨fuel, hf⟩ := h
 rcases DataW.trod_slice Tryz.underlying51 hf with ⟨hcs, _⟩ | ⟨a, n, c, elems, rest, k, _, hcs, _, _, hl, hm, hlen, hel, _, _⟩
 ·simp [Value.cells] at hcs
  obtain ⟨rfl, rfl, rfl⟩ := hcs
  exact ⟨none, 0, [], rfl, ⟨by simp, fun h => absurd h (by simp)⟩, by simp⟩
 ·simp [Value.cells] at hcs
  obtain ⟨rfl, rfl, rfl⟩ := hcs
  have each : ∀ i (hi : i < n0), W.cell? (a.add i) = some (.bool (boolOf (elems[i]'(by omega)))) := by
   intro i hi
   have h1 := hel i hi
   rw [show Tryz.prog.cellsOf 4 = 1 by kernel_rfl, Nat.mul_one, List.getElem?_eq_getElem (by omega : i < elems.length), Option.bind_eq_some_iff] at h1
   obtain ⟨cs', hcs, hy⟩ := h1
   obtain ⟨b, rfl, e⟩ := DataW.trod_bool Tryz.underlying4 hy
   rw [show boolOf (elems[i]'(by omega)) = b by rw [e]; rfl]
   exact cell_of_cells?_one hcs
  have hll : (elems.map boolOf).length = n0 := by rw [List.length_map]; exact hlen
  refine ⟨some a, c0, elems.map boolOf, by rw [hll], ⟨by simp, fun h0 => ?_⟩, by rw [hll]; unfold maxLen at hm; omega⟩
  rw [hll] at h0
  refine ⟨a, rfl, ?_, fun j u hu => ?_⟩
  ·have := World.block_lt_of_cell? W _ (each 0 h0)
   rwa [block_of_add] at this
  ·have hj : j < n0 := by
    have := (List.getElem?_eq_some_iff.1 hu).1
    rw [List.length_map, hll] at this; exact this
   rw [each j hj, ← hu]
   rw [List.getElem?_map, List.getElem?_map, List.getElem?_eq_getElem (by omega : j < elems.length)]
   rfl
end Go.Proofs.YtkemhmfdooghkaaGreatDoor.Un
end
