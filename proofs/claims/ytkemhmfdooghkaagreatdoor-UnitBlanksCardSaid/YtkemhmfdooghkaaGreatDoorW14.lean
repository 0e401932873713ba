/- A part of the proof: T7, E1. -/
import Derived.Test.YtkemhmfdooghkaaGreatDoorW1
import Derived.Test.YtkemhmfdooghkaaGreatDoorW13
import Derived.Test.YtkemhmfdooghkaaGreatDoorW8
set_option linter.unusedSimpArgs false
set_option linter.unusedVariables false
set_option maxRecDepth 100000
set_option maxHeartbeats 6400000
namespace Go.Proofs.YtkemhmfdooghkaaGreatDoor.Tr
open Go.RowKit
open Fl
def RepN (S : Nat → Prop) (w : World) : Fo → List Value → Prop
 | .no, vs => vs = []
 | .node d k r, vs => ∃ v vs', vs = v :: vs' ∧ ((v = .pointer none ∧ d = zeroN ∧ k = .no) ∨ RepS S w (.node d k .no) [v]) ∧ RepN S w r vs'
theorem RepN.below {S : Nat → Prop} {w w' : World} (hb : Below w.heap.size w w') : ∀ {f : Fo} {vs : List Value}, RepN S w f vs → RepN S w' f vs
 | .no, vs, h => by unfold RepN at h ⊢; exact h
 | .node d k r, vs, h => by
   unfold RepN at h ⊢
   obtain ⟨v, vs', h1, h2, h3⟩ := h
   exact ⟨v, vs', h1, h2.imp id (fun h => h.below hb), RepN.below hb h3⟩
theorem RepN.more {S S' : Nat → Prop} {w : World} (hS : ∀ x, S x → x < w.heap.size → S' x) : ∀ {f : Fo} {vs : List Value}, RepN S w f vs → RepN S' w f vs
 | .no, vs, h => by unfold RepN at h ⊢; exact h
 | .node d k r, vs, h => by
   unfold RepN at h ⊢
   obtain ⟨v, vs', h1, h2, h3⟩ := h
   exact ⟨v, vs', h1, h2.imp id (fun h => h.more hS), RepN.more hS h3⟩
theorem RepN.keep {S : Nat → Prop} {w w' : World} (hsz : w.heap.size ≤ w'.heap.size) (hk : ∀ x, S x → x < w.heap.size → w'.heap[x]? = w.heap[x]?) : ∀ {f : Fo} {vs : List Value}, RepN S w f vs → RepN S w' f vs
 | .no, vs, h => by unfold RepN at h ⊢; exact h
 | .node d k r, vs, h => by
   unfold RepN at h ⊢
   obtain ⟨v, vs', h1, h2, h3⟩ := h
   exact ⟨v, vs', h1, h2.imp id (fun h => h.keep hsz hk (fun _ h _ => h)), RepN.keep hsz hk h3⟩
theorem RepN.at_ {S : Nat → Prop} {w : World} {f : Fo} {vs : List Value} {i : Nat} (h : RepN S w f (vs.drop i)) (hi : i < vs.length) : ∃ d k r, f = .node d k r ∧ ((vs[i] = .pointer none ∧ d = zeroN ∧ k = .no) ∨ RepS S w (.node d k .no) [vs[i]]) ∧ RepN S w r (vs.drop (i + 1)) := by
 cases f with
 | no => unfold RepN at h; simp at h; omega
 | node d k r =>
   unfold RepN at h
   obtain ⟨v, vs', e, h1, h2⟩ := h
   rw [List.drop_eq_getElem_cons hi] at e
   simp only [List.cons.injEq] at e
   obtain ⟨rfl, rfl⟩ := e
   exact ⟨d, k, r, rfl, h1, h2⟩
theorem RepN.end_ {S : Nat → Prop} {w : World} {f : Fo} {vs : List Value} {i : Nat} (h : RepN S w f (vs.drop i)) (hi : ¬ i < vs.length) : f = .no := by
 cases f with
 | no => rfl
 | node d k r =>
   unfold RepN at h
   obtain ⟨v, vs', e, h1, h2⟩ := h
   rw [List.drop_eq_nil_of_le (by omega)] at e
   cases e
def Fo.app : Fo → Fo → Fo
 | .no, g => g
 | .node d k r, g => .node d k (r.app g)
theorem Fo.snoc_app : ∀ (f : Fo) (d : Nd) (k r : Fo), (f.snoc d k).app r = f.app (.node d k r)
 | .no, _, _, _ => rfl
 | .node d' k' r', d, k, r => by simp [Fo.snoc, Fo.app, Fo.snoc_app r' d k r]
theorem Fo.app_no : ∀ f : Fo, f.app .no = f
 | .no => rfl
 | .node d k r => by simp [Fo.app, Fo.app_no r]
theorem zero_rep {S : Nat → Prop} (w : World) (hS : S w.heap.size) : RepS S (w.alloc (.cells #[.int .u8 0, .complex .f64 0 0, .string ⟨#[]⟩, .int .i64 0, .slice none 0 0] 38)) (.node zeroN .no .no) [.pointer (some ⟨w.heap.size, 0, none⟩)] := by
 have hb := Blk.new w 38 #[.int .u8 0, .complex .f64 0 0, .string ⟨#[]⟩, .int .i64 0, .slice none 0 0]
 have he : (#[.int .u8 0, .complex .f64 0 0, .string ⟨#[]⟩, .int .i64 0, .slice none 0 0] : Array Value) = cellsN zeroN (.slice none 0 0) := by
  unfold cellsN zeroN C; simp [fl_0]
 rw [he] at hb ⊢
 unfold RepS
 exact ⟨_, none, 0, [], [], rfl, hS, hb.at_, fun h => absurd h (by simp), Reads.none_, by unfold RepS; rfl, by unfold RepS; rfl⟩
theorem Bld.after {S : Nat → Prop} {w0 w w1 : World} {b : Nat} {d : Nd} {sv : Value} {f : Fo} {xs : List Value} {o : Obj} (h : Bld S w0 w b d sv f xs) (hg : (w.alloc o).grownBy w1 sv.ownBlock) : w1.cell? ⟨b, 4, none⟩ = some sv ∧ w1.frozen? ⟨b, 4, none⟩ = false := by
 obtain ⟨h1, h2, h3, h4, h5⟩ := h
 have h6 := (h1.alloc o).grown hg (fun e => own_blk_ne h2 h1 (by decide) e.symm)
 exact ⟨h6.cell 4, h6.frozen 4⟩
theorem keep_old {S : Nat → Prop} {w0 w w1 : World} {b : Nat} {d : Nd} {sv u : Value} {f : Fo} {xs : List Value} {o : Obj} (h : Bld S w0 w b d sv f xs) (hg : (w.alloc o).grownBy w1 sv.ownBlock) {x : Nat} (hx : x < w0.heap.size) (hl : x < w.heap.size) : (w1.setCell ⟨b, 4, none⟩ u).heap[x]? = w.heap[x]? := by
 obtain ⟨h1, h2, h3, h4, h5⟩ := h
 rw [Below.heap_setCell w1 ⟨b, 4, none⟩ u x (by simp; omega), hg.block x (by simp; omega) (fun e => by have := (h2.lt x e.symm).1; omega)]
 exact Below.heap_alloc w o x hl
theorem new_any (S : Nat → Prop) (kind p1 p2 : Nat) (name : ByteArray) (n : Int) (A : Option Addr) (c : Nat) (vs : List Value) (f : Fo) (w : World) (hv : vs.length ≤ 1000000) (hA : Reads w w.heap.size 1 A vs.length vs) (hk : RepN S w f vs) :
 Calls Tryz.prog 33 #[.int .u8 kind, .complex .f64 (fl p1) (fl p2), .string name, .int .i64 n, .slice A vs.length c] w fun e w' => ∃ u, e = .returned u ∧ Below w.heap.size w w' ∧ RepS (fun x => S x ∨ w.heap.size ≤ x) w' (.node ⟨kind, (p1, p2), name, n⟩ f .no) [u] := by
 have hk0 : RepN (fun x => S x ∧ x < w.heap.size) w f vs := hk.more fun x h hl => ⟨h, hl⟩
 have HA := qh hA
 have HK := qh hk0
 obtain ⟨i0, hi, hz0, hz1, hz2⟩ := info_parts info31
 clear hk hk0 hA
 go_enter Tryz.func33, Tryz.ntmps33
 go_wp2
 go_loopw [22] (fun i wr => ∃ (j : Nat) (sv : Value) (g r : Fo) (xs : List Value), j ≤ vs.length ∧ i = .int .i64 j ∧ xs.length = j ∧ Hid (Bld S w wr w.heap.size ⟨kind, (p1, p2), name, n⟩ sv g xs) ∧ Hid (f = g.app r) ∧ Hid (RepN (fun x => S x ∧ x < w.heap.size) wr r (vs.drop j)) ∧ Hid (Reads wr w.heap.size 1 A vs.length vs)) (fun i _ => vs.length - (intOf i).toNat)
 case atStart =>
  exact ⟨0, .slice none 0 0, .no, f, [], Nat.zero_le _, rfl, rfl, qh (Bld.start (Blk.new w 38 _) (Nat.le_refl _) ((Below.refl _ _).alloc (Nat.le_refl _) _)), qh rfl, qh (RepN.below ((Below.refl _ _).alloc (Nat.le_refl _) _) HK.out), qh (HA.out.alloc (Nat.le_refl _) _)⟩
 case round =>
  obtain ⟨j, sv, g, r, xs, hj, rfl, hxs, HB, HF, HR, HR2⟩ := hrel
  obtain ⟨m4, m4f, hbl⟩ := HB.out.sv
  by_cases hlt : j < vs.length
  ·obtain ⟨d1, k1, r1, rfl, g1, g2⟩ := HR.out.at_ hlt
   obtain ⟨b1, off, rfl, hcell⟩ := Reads.nth HR2.out hlt
   rcases g1 with ⟨g1, rfl, rfl⟩ | g1
   ·rw [g1] at hcell
    have hbel : Below wr.heap.size wr (wr.alloc (.cells #[.int .u8 0, .complex .f64 0 0, .string ⟨#[]⟩, .int .i64 0, .slice none 0 0] 38)) := (Below.refl _ _).alloc (Nat.le_refl _) _
    have HB' := HB.out.below hbel
    have G1 := qh (HB.out.newer (zero_rep (S := fun x => wr.heap.size ≤ x) wr (Nat.le_refl _)))
    have G2 := qh (g2.below hbel)
    have HR3 := qh (HR2.out.alloc (by omega) (.cells #[.int .u8 0, .complex .f64 0 0, .string ⟨#[]⟩, .int .i64 0, .slice none 0 0] 38))
    obtain ⟨z4, z4f, _⟩ := HB'.sv
    clear g1 g2 HR hbel
    have hown := HB'.own
    rw [hxs] at hown
    have q1 := World.news_of_block (cs := #[.pointer (some ⟨wr.heap.size, 0, none⟩)]) (t := 31) (fr := (0, 0)) (heap_alloc_new (wr.alloc (.cells #[.int .u8 0, .complex .f64 0 0, .string ⟨#[]⟩, .int .i64 0, .slice none 0 0] 38)) _)
    rw [show (wr.alloc (.cells #[.int .u8 0, .complex .f64 0 0, .string ⟨#[]⟩, .int .i64 0, .slice none 0 0] 38)).heap.size = wr.heap.size + 1 by simp] at q1
    have q2 : ∀ u ∈ [Value.pointer (some ⟨wr.heap.size, 0, none⟩)], u.oneCell' = true := by simp [Value.oneCell']
    have q3 : j + 1 ≤ maxLen := by unfold maxLen; omega
    have q5 : w.heap.size ≤ ((wr.alloc (.cells #[.int .u8 0, .complex .f64 0 0, .string ⟨#[]⟩, .int .i64 0, .slice none 0 0] 38)).alloc (.cells #[.pointer (some ⟨wr.heap.size, 0, none⟩)] 31)).heap.size := by simp; omega
    have hown2 := hown.alloc (.cells #[.pointer (some ⟨wr.heap.size, 0, none⟩)] 31)
    have Q := qh (And.intro q1 (And.intro q2 (And.intro q3 (And.intro q5 hown2))))
    clear q1 q2 q3 q5 hown2 hown
    have HBH := qh HB'
    clear HB'
    go_wp2_with (at_builtin; refine wpList_append_lies _ rfl _ _ _ rfl w.heap.size 31 i0 (.pointer none) 1 8 Tryz.underlying36 hi hz0 hz1 hz2 rfl (by omega) sv j xs rfl Q.out.2.2.2.2 ⟨wr.heap.size + 1, 0, none⟩ 1 1 [.pointer (some ⟨wr.heap.size, 0, none⟩)] rfl rfl Q.out.1 Q.out.2.1 (by omega) Q.out.2.2.1 (by omega) Q.out.2.2.2.1 (wr.heap.size + 1 + 1) (by simp) ?_)
    intro g' cap w1 hown1 hgrow hor hlt1
    obtain ⟨s4, s4f⟩ := Bld.after HBH.out hgrow
    have HO := qh (And.intro hown1 (And.intro hgrow hor))
    clear hown1 hgrow hor
    go_wp2
    go_roundw
    case rel =>
     refine ⟨j + 1, .slice (some ⟨g', 0, none⟩) (j + 1) cap, g.snoc zeroN .no, r1, xs ++ [.pointer (some ⟨wr.heap.size, 0, none⟩)], by omega, by go_num, by simp [hxs], qh ?_, qh (by rw [HF.out, Fo.snoc_app]), qh ?_, qh ?_⟩
     ·have hs := Bld.step (HBH.out.below ((Below.refl _ _).alloc (Nat.le_refl _) _)) (G1.out.below ((Below.refl _ _).alloc (Nat.le_refl _) (.cells #[.pointer (some ⟨wr.heap.size, 0, none⟩)] 31))) (by rw [hxs]; exact HO.out.1) HO.out.2.1 (by rcases HO.out.2.2 with h | h; exact .inl h; exact .inr (by rw [h]; simp))
      rw [hxs] at hs
      exact hs
     ·refine RepN.keep (w := (wr.alloc (.cells #[.int .u8 0, .complex .f64 0 0, .string ⟨#[]⟩, .int .i64 0, .slice none 0 0] 38))) ?_ ?_ G2.out
      ·have := HO.out.2.1.size; simp at this ⊢; omega
      ·intro x hx hl
       exact keep_old HBH.out HO.out.2.1 hx.2 hl
     ·refine HR3.out.keep fun p hp => World.cell?_of_block ?_
      exact keep_old HBH.out HO.out.2.1 hp (by have := HBH.out.bel.size; omega)
    case measure => simp [intOf]; omega
   ·obtain ⟨b2, _, _, _, hu, _⟩ := g1.rep.one
    rw [hu] at hcell g1
    have G1 := qh (Bld.older HB.out g1)
    have G2 := qh g2
    have HB' := HB.out
    have HR3 := HR2
    clear g1 g2 HR hu
    have hown := HB'.own
    rw [hxs] at hown
    have q1 := World.news_of_block (cs := #[.pointer (some ⟨b2, 0, none⟩)]) (t := 31) (fr := (0, 0)) (heap_alloc_new wr _)
    have q2 : ∀ u ∈ [Value.pointer (some ⟨b2, 0, none⟩)], u.oneCell' = true := by simp [Value.oneCell']
    have q3 : j + 1 ≤ maxLen := by unfold maxLen; omega
    have q5 : w.heap.size ≤ (wr.alloc (.cells #[.pointer (some ⟨b2, 0, none⟩)] 31)).heap.size := by simp; omega
    have hown2 := hown.alloc (.cells #[.pointer (some ⟨b2, 0, none⟩)] 31)
    have Q := qh (And.intro q1 (And.intro q2 (And.intro q3 (And.intro q5 hown2))))
    clear q1 q2 q3 q5 hown2 hown
    have HBH := qh HB'
    clear HB'
    go_wp2_with (at_builtin; refine wpList_append_lies _ rfl _ _ _ rfl w.heap.size 31 i0 (.pointer none) 1 8 Tryz.underlying36 hi hz0 hz1 hz2 rfl (by omega) sv j xs rfl Q.out.2.2.2.2 ⟨wr.heap.size, 0, none⟩ 1 1 [.pointer (some ⟨b2, 0, none⟩)] rfl rfl Q.out.1 Q.out.2.1 (by omega) Q.out.2.2.1 (by omega) Q.out.2.2.2.1 (wr.heap.size + 1) (by simp) ?_)
    intro g' cap w1 hown1 hgrow hor hlt1
    obtain ⟨s4, s4f⟩ := Bld.after HBH.out hgrow
    have HO := qh (And.intro hown1 (And.intro hgrow hor))
    clear hown1 hgrow hor
    go_wp2
    go_roundw
    case rel =>
     refine ⟨j + 1, .slice (some ⟨g', 0, none⟩) (j + 1) cap, g.snoc d1 k1, r1, xs ++ [.pointer (some ⟨b2, 0, none⟩)], by omega, by go_num, by simp [hxs], qh ?_, qh (by rw [HF.out, Fo.snoc_app]), qh ?_, qh ?_⟩
     ·have hs := Bld.step (HBH.out.below ((Below.refl _ _).alloc (Nat.le_refl _) _)) (G1.out.below ((Below.refl _ _).alloc (Nat.le_refl _) (.cells #[.pointer (some ⟨b2, 0, none⟩)] 31))) (by rw [hxs]; exact HO.out.1) HO.out.2.1 (by rcases HO.out.2.2 with h | h; exact .inl h; exact .inr (by rw [h]; simp))
      rw [hxs] at hs
      exact hs
     ·refine RepN.keep (w := wr) ?_ ?_ G2.out
      ·have := HO.out.2.1.size; simp at this ⊢; omega
      ·intro x hx hl
       exact keep_old HBH.out HO.out.2.1 hx.2 hl
     ·refine HR3.out.keep fun p hp => World.cell?_of_block ?_
      exact keep_old HBH.out HO.out.2.1 hp (by have := HBH.out.bel.size; omega)
    case measure => simp [intOf]; omega
  ·have he := HR.out.end_ hlt
   subst he
   have HD := qh HB.out.done
   have HL := qh HB.out.bel
   have HG := qh (show f = g by rw [HF.out, Fo.app_no])
   clear HR HB HF
   go_wp2
   go_ret
   exact ⟨_, rfl, HL.out, by rw [HG.out]; exact HD.out⟩
end Go.Proofs.YtkemhmfdooghkaaGreatDoor.Tr
namespace Go.Proofs.YtkemhmfdooghkaaGreatDoor.Ex
open Tr (Nd Fo)
open Lx (Tk noTk)
abbrev PT := Tk × (Nat × Nat) × (Nat × Nat)
def noPT : PT := (noTk, (0, 0), (0, 0))
def tk (L : List PT) (i : Nat) : PT := (L[i]?).getD noPT
abbrev T1 := Nd × Fo
def forest : List T1 → Fo
 | [] => .no
 | (d, k) :: r => .node d k (forest r)
def mk (kind : Nat) (p : Nat × Nat) (name : ByteArray) (n : Int) (kids : List T1) : T1 := (⟨kind, p, name, n⟩, forest kids)
abbrev sDot : ByteArray := ⟨#[46]⟩
abbrev sHat : ByteArray := ⟨#[94]⟩
abbrev sBra : ByteArray := ⟨#[91]⟩
abbrev sKet : ByteArray := ⟨#[93]⟩
abbrev sCom : ByteArray := ⟨#[44]⟩
abbrev sRan : ByteArray := ⟨#[46, 46]⟩
abbrev sPar : ByteArray := ⟨#[40]⟩
abbrev sRap : ByteArray := ⟨#[41]⟩
abbrev sNot : ByteArray := ⟨#[78, 79, 84]⟩
abbrev sCur : ByteArray := ⟨#[123]⟩
abbrev sRuc : ByteArray := ⟨#[125]⟩
abbrev sPlu : ByteArray := ⟨#[43]⟩
abbrev sMin : ByteArray := ⟨#[45]⟩
abbrev sNil : ByteArray := ⟨#[]⟩
def isSW (t : PT) : Bool := decide (t.1.kind = 5) || decide (t.1.kind = 6)
def isT (L : List PT) (i : Nat) (s : ByteArray) : Bool := isSW (tk L i) && decide ((tk L i).1.text = s)
def pos (L : List PT) (i : Nat) : Nat × Nat := (tk L i).2.1
section
variable (L : List PT)
def need (i : Nat) (s : ByteArray) : Except Nat Nat := if isT L i s = true then .ok (i + 1) else .error i
def nameP (i : Nat) : Except Nat (PT × Nat) := if (tk L i).1.kind = 1 then .ok (tk L i, i + 1) else .error i
def dotP (x : T1) (i : Nat) : Except Nat (T1 × Nat) := match need L i sDot with
 | .error k => .error k
 | .ok j => match nameP L j with
   | .error k => .error k
   | .ok (t, j') => .ok (mk 2 (pos L i) t.1.text 0 [x], j')
def dotsP : Nat → T1 → Nat → Except Nat (T1 × Nat)
 | 0, x, i => .ok (x, i)
 | f + 1, x, i => if isT L i sDot = true then (match dotP L x i with
    | .error k => .error k
    | .ok (y, j) => dotsP f y j) else .ok (x, i)
def qualP (i : Nat) : Except Nat (T1 × Nat) := match nameP L i with
 | .error k => .error k
 | .ok (t, j) => dotsP L (L.length + 1) (mk 1 t.2.1 t.1.text 0 []) j
section
variable (ex : Nat → Except Nat (T1 × Nat))
def commasP : Nat → T1 → Nat → Except Nat (T1 × Nat)
 | 0, x, i => .ok (x, i)
 | f + 1, x, i => if isT L i sCom = true then (match ex (i + 1) with
    | .error k => .error k
    | .ok (y, j) => commasP f (mk 3 (pos L i) sNil 0 [x, y]) j) else .ok (x, i)
def desP : Nat → T1 → Nat → Except Nat (T1 × Nat)
 | 0, x, i => .ok (x, i)
 | f + 1, x, i =>
   if isT L i sDot = true then (match dotP L x i with
    | .error k => .error k
    | .ok (y, j) => desP f y j)
   else if isT L i sHat = true then desP f (mk 4 (pos L i) sNil 0 [x]) (i + 1)
   else if isT L i sBra = true then (match ex (i + 1) with
    | .error k => .error k
    | .ok (y, j) => match commasP L ex (L.length + 1) (mk 3 (pos L i) sNil 0 [x, y]) j with
      | .error k => .error k
      | .ok (z, j2) => match need L j2 sKet with
        | .error k => .error k
        | .ok j3 => desP f z j3)
   else .ok (x, i)
def designP (i : Nat) : Except Nat (T1 × Nat) := match qualP L i with
 | .error k => .error k
 | .ok (x, j) => desP L ex (L.length + 1) x j
def elemP (i : Nat) : Except Nat (T1 × Nat) := match ex i with
 | .error k => .error k
 | .ok (x, j) => if isT L j sRan = true then (match ex (j + 1) with
    | .error k => .error k
    | .ok (y, j2) => .ok (mk 9 (pos L i) sNil 0 [x, y], j2)) else .ok (x, j)
def manyR : Nat → List T1 → Nat → Except Nat (List T1 × Nat)
 | 0, acc, i => .ok (acc, i)
 | f + 1, acc, i => if isT L i sCom = true then (match ex (i + 1) with
    | .error k => .error k
    | .ok (y, j) => manyR f (acc ++ [y]) j) else .ok (acc, i)
def manyP (i : Nat) : Except Nat (List T1 × Nat) := match ex i with
 | .error k => .error k
 | .ok (x, j) => manyR L ex (L.length + 1) [x] j
def betweenP (close : ByteArray) (i : Nat) : Except Nat (List T1 × Nat) := if isT L i close = true then .ok ([], i + 1) else match manyP L ex i with
 | .error k => .error k
 | .ok (l, j) => match need L j close with
   | .error k => .error k
   | .ok j2 => .ok (l, j2)
end
def plainF : Fo → Bool
 | .no => false
 | .node d k _ => if d.kind = 2 then plainF k else decide (d.kind = 1)
def plainT (x : T1) : Bool := plainF (.node x.1 x.2 .no)
def ops : Nat → List ByteArray
 | 0 => [⟨#[61]⟩, ⟨#[35]⟩, ⟨#[60]⟩, ⟨#[60, 61]⟩, ⟨#[62]⟩, ⟨#[62, 61]⟩, ⟨#[73, 78]⟩]
 | 1 => [⟨#[43]⟩, ⟨#[45]⟩, ⟨#[79, 82]⟩]
 | _ => [⟨#[42]⟩, ⟨#[47]⟩, ⟨#[68, 73, 86]⟩, ⟨#[77, 79, 68]⟩, ⟨#[65, 78, 68]⟩]
def isOp (i k : Nat) : Bool := isSW (tk L i) && (ops k).any (fun s => decide (s = (tk L i).1.text))
def binsP (sub : Nat → Except Nat (T1 × Nat)) (k : Nat) : Nat → T1 → Nat → Except Nat (T1 × Nat)
 | 0, x, i => .ok (x, i)
 | f + 1, x, i => if isOp L i k = true then (match sub (i + 1) with
    | .error e => .error e
    | .ok (y, j) => if k = 0 then .ok (mk 11 (pos L i) (tk L i).1.text 0 [x, y], j) else binsP sub k f (mk 11 (pos L i) (tk L i).1.text 0 [x, y]) j) else .ok (x, i)
def signed (i k : Nat) : Bool := decide (k = 1) && (isT L i sPlu || isT L i sMin)
def levD (fac : Nat → Except Nat (T1 × Nat)) : Nat → Nat → Except Nat (T1 × Nat)
 | 0, i => fac i
 | d + 1, i => match levD fac d (if signed L i (2 - d) = true then i + 1 else i) with
   | .error e => .error e
   | .ok (x, j) => binsP L (levD fac d) (2 - d) (L.length + 1) (if signed L i (2 - d) = true then mk 12 (pos L i) (tk L i).1.text 0 [x] else x) j
def exprG (fac : Nat → Except Nat (T1 × Nat)) (i : Nat) : Except Nat (T1 × Nat) := levD L fac 3 i
def zeroT : T1 := (Tr.zeroN, .no)
def factP : Nat → Nat → Except Nat (T1 × Nat)
 | 0, i => .error i
 | f + 1, i =>
   if 2 ≤ (tk L i).1.kind ∧ (tk L i).1.kind ≤ 4 then .ok (mk ((tk L i).1.kind + 3) (pos L i) (tk L i).1.text (tk L i).1.n [], i + 1)
   else if isT L i sPar = true then (match exprG L (factP f) (i + 1) with
    | .error k => .error k
    | .ok (x, j) => match need L j sRap with
      | .error k => .error k
      | .ok j2 => .ok (x, j2))
   else if isT L i sNot = true then (match factP f (i + 1) with
    | .error k => .error k
    | .ok (x, j) => .ok (mk 12 (pos L i) sNot 0 [x], j))
   else if isT L i sCur = true then (match betweenP L (elemP L (exprG L (factP f))) sRuc (i + 1) with
    | .error k => .error k
    | .ok (l, j) => .ok (mk 8 (pos L i) sNil 0 (zeroT :: l), j))
   else match designP L (exprG L (factP f)) i with
    | .error k => .error k
    | .ok (x, j) => if plainT x = true ∧ isT L j sCur = true then (match betweenP L (elemP L (exprG L (factP f))) sRuc (j + 1) with
       | .error k => .error k
       | .ok (l, j2) => .ok (mk 8 (pos L i) sNil 0 (x :: l), j2))
      else if isT L j sPar = true then (match betweenP L (exprG L (factP f)) sRap (j + 1) with
       | .error k => .error k
       | .ok (l, j2) => .ok (mk 10 (pos L j) sNil 0 (x :: l), j2))
      else .ok (x, j)
def exprP (i : Nat) : Except Nat (T1 × Nat) := exprG L (factP L (L.length + 1)) i
def labelsP (i : Nat) : Except Nat (T1 × Nat) := match manyP L (elemP L (exprP L)) i with
 | .error k => .error k
 | .ok (l, j) => .ok (mk 29 (pos L i) sNil 0 l, j)
end
end Go.Proofs.YtkemhmfdooghkaaGreatDoor.Ex
