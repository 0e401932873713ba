/- A part of the proof: T7, E1, E2, E3. -/
import Derived.Test.YtecmjhohniipoaaZ1
import Derived.Test.YtecmjhohniipoaaZ4
import Derived.Test.YtecmjhohniipoaaZ3
import Derived.Deep.QuietTactic
import Derived.BigQuiet
import Derived.Outline
import Derived.StillTailTactics
set_option linter.unusedSimpArgs false
set_option linter.unusedVariables false

section
namespace Go.Proofs.Ytecmjhohniipoaa.Tr
open Go.RowKit
open Fl
def RepN (S : Nat → Prop) (w : World) : Fo → List Value → Prop
 | .no, vs => vs = []
 | .node d k r, vs => ∃ v vs', vs = v :: vs' ∧ ((v = .pointer none ∧ d = zeroN ∧ k = .no) ∨ RepS S w (.node d k .no) [v]) ∧ RepN S w r vs'
theorem RepN.below {S : Nat → Prop} {w w' : World} (hb : Below w.heap.size w w') : ∀ {f : Fo} {vs : List Value}, RepN S w f vs → RepN S w' f vs
 | .no, vs, h => by unfold RepN at h ⊢; exact h
 | .node d k r, vs, h => by
   unfold RepN at h ⊢
   obtain ⟨v, vs', h1, h2, h3⟩ := h
   exact ⟨v, vs', h1, h2.imp id (fun h => h.below hb), RepN.below hb h3⟩
theorem RepN.more {S S' : Nat → Prop} {w : World} (hS : ∀ x, S x → x < w.heap.size → S' x) : ∀ {f : Fo} {vs : List Value}, RepN S w f vs → RepN S' w f vs
 | .no, vs, h => by unfold RepN at h ⊢; exact h
 | .node d k r, vs, h => by
   unfold RepN at h ⊢
   obtain ⟨v, vs', h1, h2, h3⟩ := h
   exact ⟨v, vs', h1, h2.imp id (fun h => h.more hS), RepN.more hS h3⟩
theorem RepN.keep {S : Nat → Prop} {w w' : World} (hsz : w.heap.size ≤ w'.heap.size) (hk : ∀ x, S x → x < w.heap.size → w'.heap[x]? = w.heap[x]?) : ∀ {f : Fo} {vs : List Value}, RepN S w f vs → RepN S w' f vs
 | .no, vs, h => by unfold RepN at h ⊢; exact h
 | .node d k r, vs, h => by
   unfold RepN at h ⊢
   obtain ⟨v, vs', h1, h2, h3⟩ := h
   exact ⟨v, vs', h1, h2.imp id (fun h => h.keep hsz hk (fun _ h _ => h)), RepN.keep hsz hk h3⟩
theorem RepN.at_ {S : Nat → Prop} {w : World} {f : Fo} {vs : List Value} {i : Nat} (h : RepN S w f (vs.drop i)) (hi : i < vs.length) : ∃ d k r, f = .node d k r ∧ ((vs[i] = .pointer none ∧ d = zeroN ∧ k = .no) ∨ RepS S w (.node d k .no) [vs[i]]) ∧ RepN S w r (vs.drop (i + 1)) := by
 cases f with
 | no => unfold RepN at h; simp at h; omega
 | node d k r =>
   unfold RepN at h
   obtain ⟨v, vs', e, h1, h2⟩ := h
   rw [List.drop_eq_getElem_cons hi] at e
   simp only [List.cons.injEq] at e
   obtain ⟨rfl, rfl⟩ := e
   exact ⟨d, k, r, rfl, h1, h2⟩
theorem RepN.end_ {S : Nat → Prop} {w : World} {f : Fo} {vs : List Value} {i : Nat} (h : RepN S w f (vs.drop i)) (hi : ¬ i < vs.length) : f = .no := by
 cases f with
 | no => rfl
 | node d k r =>
   unfold RepN at h
   obtain ⟨v, vs', e, h1, h2⟩ := h
   rw [List.drop_eq_nil_of_le (by omega)] at e
   cases e
def Fo.app : Fo → Fo → Fo
 | .no, g => g
 | .node d k r, g => .node d k (r.app g)
theorem Fo.snoc_app : ∀ (f : Fo) (d : Nd) (k r : Fo), (f.snoc d k).app r = f.app (.node d k r)
 | .no, _, _, _ => rfl
 | .node d' k' r', d, k, r => by simp [Fo.snoc, Fo.app, Fo.snoc_app r' d k r]
theorem Fo.app_no : ∀ f : Fo, f.app .no = f
 | .no => rfl
 | .node d k r => by simp [Fo.app, Fo.app_no r]
theorem zero_rep {S : Nat → Prop} (w : World) (hS : S w.heap.size) : RepS S (w.alloc (.cells #[.int .u8 0, .complex .f64 0 0, .string ⟨#[]⟩, .int .i64 0, .slice none 0 0] 42)) (.node zeroN .no .no) [.pointer (some ⟨w.heap.size, 0, none⟩)] := by
 have hb := Blk.new w 42 #[.int .u8 0, .complex .f64 0 0, .string ⟨#[]⟩, .int .i64 0, .slice none 0 0]
 have he : (#[.int .u8 0, .complex .f64 0 0, .string ⟨#[]⟩, .int .i64 0, .slice none 0 0] : Array Value) = cellsN zeroN (.slice none 0 0) := by
  unfold cellsN zeroN C; simp [fl_0]
 rw [he] at hb ⊢
 unfold RepS
 exact ⟨_, none, 0, [], [], rfl, hS, hb.at_, fun h => absurd h (by simp), Reads.none_, by unfold RepS; rfl, by unfold RepS; rfl⟩
theorem Bld.after {S : Nat → Prop} {w0 w w1 : World} {b : Nat} {d : Nd} {sv : Value} {f : Fo} {xs : List Value} {o : Obj} (h : Bld S w0 w b d sv f xs) (hg : (w.alloc o).grownBy w1 sv.ownBlock) : w1.cell? ⟨b, 4, none⟩ = some sv ∧ w1.frozen? ⟨b, 4, none⟩ = false := by
 obtain ⟨h1, h2, h3, h4, h5⟩ := h
 have h6 := (h1.alloc o).grown hg (fun e => own_blk_ne h2 h1 (by decide) e.symm)
 exact ⟨h6.cell 4, h6.frozen 4⟩
theorem keep_old {S : Nat → Prop} {w0 w w1 : World} {b : Nat} {d : Nd} {sv u : Value} {f : Fo} {xs : List Value} {o : Obj} (h : Bld S w0 w b d sv f xs) (hg : (w.alloc o).grownBy w1 sv.ownBlock) {x : Nat} (hx : x < w0.heap.size) (hl : x < w.heap.size) : (w1.setCell ⟨b, 4, none⟩ u).heap[x]? = w.heap[x]? := by
 obtain ⟨h1, h2, h3, h4, h5⟩ := h
 rw [Below.heap_setCell w1 ⟨b, 4, none⟩ u x (by simp; omega), hg.block x (by simp; omega) (fun e => by have := (h2.lt x e.symm).1; omega)]
 exact Below.heap_alloc w o x hl
set_option maxRecDepth 100000 in set_option maxHeartbeats 6400000 in
theorem new_any (S : Nat → Prop) (kind p1 p2 : Nat) (name : ByteArray) (n : Int) (A : Option Addr) (c : Nat) (vs : List Value) (f : Fo) (w : World) (hv : vs.length ≤ 1000000) (hA : Reads w w.heap.size 1 A vs.length vs) (hk : RepN S w f vs) :
 Calls Try.prog 26 #[.int .u8 kind, .complex .f64 (fl p1) (fl p2), .string name, .int .i64 n, .slice A vs.length c] w fun e w' => ∃ u, e = .returned u ∧ Below w.heap.size w w' ∧ RepS (fun x => S x ∨ w.heap.size ≤ x) w' (.node ⟨kind, (p1, p2), name, n⟩ f .no) [u] := by
 have hk0 : RepN (fun x => S x ∧ x < w.heap.size) w f vs := hk.more fun x h hl => ⟨h, hl⟩
 have HA := qh hA
 have HK := qh hk0
 obtain ⟨i0, hi, hz0, hz1, hz2⟩ := info_parts info26
 clear hk hk0 hA
 go_enter Try.func26, Try.ntmps26
 go_wp2
 go_loopw [22] (fun i wr => ∃ (j : Nat) (sv : Value) (g r : Fo) (xs : List Value), j ≤ vs.length ∧ i = .int .i64 j ∧ xs.length = j ∧ Hid (Bld S w wr w.heap.size ⟨kind, (p1, p2), name, n⟩ sv g xs) ∧ Hid (f = g.app r) ∧ Hid (RepN (fun x => S x ∧ x < w.heap.size) wr r (vs.drop j)) ∧ Hid (Reads wr w.heap.size 1 A vs.length vs)) (fun i _ => vs.length - (intOf i).toNat)
 case atStart =>
  exact ⟨0, .slice none 0 0, .no, f, [], Nat.zero_le _, rfl, rfl, qh (Bld.start (Blk.new w 42 _) (Nat.le_refl _) ((Below.refl _ _).alloc (Nat.le_refl _) _)), qh rfl, qh (RepN.below ((Below.refl _ _).alloc (Nat.le_refl _) _) HK.out), qh (HA.out.alloc (Nat.le_refl _) _)⟩
 case round =>
  obtain ⟨j, sv, g, r, xs, hj, rfl, hxs, HB, HF, HR, HR2⟩ := hrel
  obtain ⟨m4, m4f, hbl⟩ := HB.out.sv
  by_cases hlt : j < vs.length
  ·obtain ⟨d1, k1, r1, rfl, g1, g2⟩ := HR.out.at_ hlt
   obtain ⟨b1, off, rfl, hcell⟩ := Reads.nth HR2.out hlt
   rcases g1 with ⟨g1, rfl, rfl⟩ | g1
   ·rw [g1] at hcell
    have hbel : Below wr.heap.size wr (wr.alloc (.cells #[.int .u8 0, .complex .f64 0 0, .string ⟨#[]⟩, .int .i64 0, .slice none 0 0] 42)) := (Below.refl _ _).alloc (Nat.le_refl _) _
    have HB' := HB.out.below hbel
    have G1 := qh (HB.out.newer (zero_rep (S := fun x => wr.heap.size ≤ x) wr (Nat.le_refl _)))
    have G2 := qh (g2.below hbel)
    have HR3 := qh (HR2.out.alloc (by omega) (.cells #[.int .u8 0, .complex .f64 0 0, .string ⟨#[]⟩, .int .i64 0, .slice none 0 0] 42))
    obtain ⟨z4, z4f, _⟩ := HB'.sv
    clear g1 g2 HR hbel
    have hown := HB'.own
    rw [hxs] at hown
    have q1 := World.news_of_block (cs := #[.pointer (some ⟨wr.heap.size, 0, none⟩)]) (t := 26) (fr := (0, 0)) (heap_alloc_new (wr.alloc (.cells #[.int .u8 0, .complex .f64 0 0, .string ⟨#[]⟩, .int .i64 0, .slice none 0 0] 42)) _)
    rw [show (wr.alloc (.cells #[.int .u8 0, .complex .f64 0 0, .string ⟨#[]⟩, .int .i64 0, .slice none 0 0] 42)).heap.size = wr.heap.size + 1 by simp] at q1
    have q2 : ∀ u ∈ [Value.pointer (some ⟨wr.heap.size, 0, none⟩)], u.oneCell' = true := by simp [Value.oneCell']
    have q3 : j + 1 ≤ maxLen := by unfold maxLen; omega
    have q5 : w.heap.size ≤ ((wr.alloc (.cells #[.int .u8 0, .complex .f64 0 0, .string ⟨#[]⟩, .int .i64 0, .slice none 0 0] 42)).alloc (.cells #[.pointer (some ⟨wr.heap.size, 0, none⟩)] 26)).heap.size := by simp; omega
    have hown2 := hown.alloc (.cells #[.pointer (some ⟨wr.heap.size, 0, none⟩)] 26)
    have Q := qh (And.intro q1 (And.intro q2 (And.intro q3 (And.intro q5 hown2))))
    clear q1 q2 q3 q5 hown2 hown
    have HBH := qh HB'
    clear HB'
    go_wp2_with (at_builtin; refine wpList_append_lies _ rfl _ _ _ rfl w.heap.size 26 i0 (.pointer none) 1 8 Try.underlying40 hi hz0 hz1 hz2 rfl (by omega) sv j xs rfl Q.out.2.2.2.2 ⟨wr.heap.size + 1, 0, none⟩ 1 1 [.pointer (some ⟨wr.heap.size, 0, none⟩)] rfl rfl Q.out.1 Q.out.2.1 (by omega) Q.out.2.2.1 (by omega) Q.out.2.2.2.1 (wr.heap.size + 1 + 1) (by simp) ?_)
    intro g' cap w1 hown1 hgrow hor hlt1
    obtain ⟨s4, s4f⟩ := Bld.after HBH.out hgrow
    have HO := qh (And.intro hown1 (And.intro hgrow hor))
    clear hown1 hgrow hor
    go_wp2
    go_roundw
    case rel =>
     refine ⟨j + 1, .slice (some ⟨g', 0, none⟩) (j + 1) cap, g.snoc zeroN .no, r1, xs ++ [.pointer (some ⟨wr.heap.size, 0, none⟩)], by omega, by go_num, by simp [hxs], qh ?_, qh (by rw [HF.out, Fo.snoc_app]), qh ?_, qh ?_⟩
     ·have hs := Bld.step (HBH.out.below ((Below.refl _ _).alloc (Nat.le_refl _) _)) (G1.out.below ((Below.refl _ _).alloc (Nat.le_refl _) (.cells #[.pointer (some ⟨wr.heap.size, 0, none⟩)] 26))) (by rw [hxs]; exact HO.out.1) HO.out.2.1 (by rcases HO.out.2.2 with h | h; exact .inl h; exact .inr (by rw [h]; simp))
      rw [hxs] at hs
      exact hs
     ·refine RepN.keep (w := (wr.alloc (.cells #[.int .u8 0, .complex .f64 0 0, .string ⟨#[]⟩, .int .i64 0, .slice none 0 0] 42))) ?_ ?_ G2.out
      ·have := HO.out.2.1.size; simp at this ⊢; omega
      ·intro x hx hl
       exact keep_old HBH.out HO.out.2.1 hx.2 hl
     ·refine HR3.out.keep fun p hp => World.cell?_of_block ?_
      exact keep_old HBH.out HO.out.2.1 hp (by have := HBH.out.bel.size; omega)
    case measure => simp [intOf]; omega
   ·obtain ⟨b2, _, _, _, hu, _⟩ := g1.rep.one
    rw [hu] at hcell g1
    have G1 := qh (Bld.older HB.out g1)
    have G2 := qh g2
    have HB' := HB.out
    have HR3 := HR2
    clear g1 g2 HR hu
    have hown := HB'.own
    rw [hxs] at hown
    have q1 := World.news_of_block (cs := #[.pointer (some ⟨b2, 0, none⟩)]) (t := 26) (fr := (0, 0)) (heap_alloc_new wr _)
    have q2 : ∀ u ∈ [Value.pointer (some ⟨b2, 0, none⟩)], u.oneCell' = true := by simp [Value.oneCell']
    have q3 : j + 1 ≤ maxLen := by unfold maxLen; omega
    have q5 : w.heap.size ≤ (wr.alloc (.cells #[.pointer (some ⟨b2, 0, none⟩)] 26)).heap.size := by simp; omega
    have hown2 := hown.alloc (.cells #[.pointer (some ⟨b2, 0, none⟩)] 26)
    have Q := qh (And.intro q1 (And.intro q2 (And.intro q3 (And.intro q5 hown2))))
    clear q1 q2 q3 q5 hown2 hown
    have HBH := qh HB'
    clear HB'
    go_wp2_with (at_builtin; refine wpList_append_lies _ rfl _ _ _ rfl w.heap.size 26 i0 (.pointer none) 1 8 Try.underlying40 hi hz0 hz1 hz2 rfl (by omega) sv j xs rfl Q.out.2.2.2.2 ⟨wr.heap.size, 0, none⟩ 1 1 [.pointer (some ⟨b2, 0, none⟩)] rfl rfl Q.out.1 Q.out.2.1 (by omega) Q.out.2.2.1 (by omega) Q.out.2.2.2.1 (wr.heap.size + 1) (by simp) ?_)
    intro g' cap w1 hown1 hgrow hor hlt1
    obtain ⟨s4, s4f⟩ := Bld.after HBH.out hgrow
    have HO := qh (And.intro hown1 (And.intro hgrow hor))
    clear hown1 hgrow hor
    go_wp2
    go_roundw
    case rel =>
     refine ⟨j + 1, .slice (some ⟨g', 0, none⟩) (j + 1) cap, g.snoc d1 k1, r1, xs ++ [.pointer (some ⟨b2, 0, none⟩)], by omega, by go_num, by simp [hxs], qh ?_, qh (by rw [HF.out, Fo.snoc_app]), qh ?_, qh ?_⟩
     ·have hs := Bld.step (HBH.out.below ((Below.refl _ _).alloc (Nat.le_refl _) _)) (G1.out.below ((Below.refl _ _).alloc (Nat.le_refl _) (.cells #[.pointer (some ⟨b2, 0, none⟩)] 26))) (by rw [hxs]; exact HO.out.1) HO.out.2.1 (by rcases HO.out.2.2 with h | h; exact .inl h; exact .inr (by rw [h]; simp))
      rw [hxs] at hs
      exact hs
     ·refine RepN.keep (w := wr) ?_ ?_ G2.out
      ·have := HO.out.2.1.size; simp at this ⊢; omega
      ·intro x hx hl
       exact keep_old HBH.out HO.out.2.1 hx.2 hl
     ·refine HR3.out.keep fun p hp => World.cell?_of_block ?_
      exact keep_old HBH.out HO.out.2.1 hp (by have := HBH.out.bel.size; omega)
    case measure => simp [intOf]; omega
  ·have he := HR.out.end_ hlt
   subst he
   have HD := qh HB.out.done
   have HL := qh HB.out.bel
   have HG := qh (show f = g by rw [HF.out, Fo.app_no])
   clear HR HB HF
   go_wp2
   go_ret
   exact ⟨_, rfl, HL.out, by rw [HG.out]; exact HD.out⟩
end Go.Proofs.Ytecmjhohniipoaa.Tr
end

section
namespace Go.Proofs.Ytecmjhohniipoaa.Ex
open Tr (Nd Fo)
open Lx (Tk noTk)
abbrev PT := Tk × (Nat × Nat) × (Nat × Nat)
def noPT : PT := (noTk, (0, 0), (0, 0))
def tk (L : List PT) (i : Nat) : PT := (L[i]?).getD noPT
abbrev T1 := Nd × Fo
def forest : List T1 → Fo
 | [] => .no
 | (d, k) :: r => .node d k (forest r)
def mk (kind : Nat) (p : Nat × Nat) (name : ByteArray) (n : Int) (kids : List T1) : T1 := (⟨kind, p, name, n⟩, forest kids)
abbrev sDot : ByteArray := ⟨#[46]⟩
abbrev sHat : ByteArray := ⟨#[94]⟩
abbrev sBra : ByteArray := ⟨#[91]⟩
abbrev sKet : ByteArray := ⟨#[93]⟩
abbrev sCom : ByteArray := ⟨#[44]⟩
abbrev sRan : ByteArray := ⟨#[46, 46]⟩
abbrev sPar : ByteArray := ⟨#[40]⟩
abbrev sRap : ByteArray := ⟨#[41]⟩
abbrev sNot : ByteArray := ⟨#[78, 79, 84]⟩
abbrev sCur : ByteArray := ⟨#[123]⟩
abbrev sRuc : ByteArray := ⟨#[125]⟩
abbrev sPlu : ByteArray := ⟨#[43]⟩
abbrev sMin : ByteArray := ⟨#[45]⟩
abbrev sNil : ByteArray := ⟨#[]⟩
def isSW (t : PT) : Bool := decide (t.1.kind = 5) || decide (t.1.kind = 6)
def isT (L : List PT) (i : Nat) (s : ByteArray) : Bool := isSW (tk L i) && decide ((tk L i).1.text = s)
def pos (L : List PT) (i : Nat) : Nat × Nat := (tk L i).2.1
section
variable (L : List PT)
def need (i : Nat) (s : ByteArray) : Except Nat Nat := if isT L i s = true then .ok (i + 1) else .error i
def nameP (i : Nat) : Except Nat (PT × Nat) := if (tk L i).1.kind = 1 then .ok (tk L i, i + 1) else .error i
def dotP (x : T1) (i : Nat) : Except Nat (T1 × Nat) := match need L i sDot with
 | .error k => .error k
 | .ok j => match nameP L j with
   | .error k => .error k
   | .ok (t, j') => .ok (mk 2 (pos L i) t.1.text 0 [x], j')
def dotsP : Nat → T1 → Nat → Except Nat (T1 × Nat)
 | 0, x, i => .ok (x, i)
 | f + 1, x, i => if isT L i sDot = true then (match dotP L x i with
    | .error k => .error k
    | .ok (y, j) => dotsP f y j) else .ok (x, i)
def qualP (i : Nat) : Except Nat (T1 × Nat) := match nameP L i with
 | .error k => .error k
 | .ok (t, j) => dotsP L (L.length + 1) (mk 1 t.2.1 t.1.text 0 []) j
section
variable (ex : Nat → Except Nat (T1 × Nat))
def commasP : Nat → T1 → Nat → Except Nat (T1 × Nat)
 | 0, x, i => .ok (x, i)
 | f + 1, x, i => if isT L i sCom = true then (match ex (i + 1) with
    | .error k => .error k
    | .ok (y, j) => commasP f (mk 3 (pos L i) sNil 0 [x, y]) j) else .ok (x, i)
def desP : Nat → T1 → Nat → Except Nat (T1 × Nat)
 | 0, x, i => .ok (x, i)
 | f + 1, x, i =>
   if isT L i sDot = true then (match dotP L x i with
    | .error k => .error k
    | .ok (y, j) => desP f y j)
   else if isT L i sHat = true then desP f (mk 4 (pos L i) sNil 0 [x]) (i + 1)
   else if isT L i sBra = true then (match ex (i + 1) with
    | .error k => .error k
    | .ok (y, j) => match commasP L ex (L.length + 1) (mk 3 (pos L i) sNil 0 [x, y]) j with
      | .error k => .error k
      | .ok (z, j2) => match need L j2 sKet with
        | .error k => .error k
        | .ok j3 => desP f z j3)
   else .ok (x, i)
def designP (i : Nat) : Except Nat (T1 × Nat) := match qualP L i with
 | .error k => .error k
 | .ok (x, j) => desP L ex (L.length + 1) x j
def elemP (i : Nat) : Except Nat (T1 × Nat) := match ex i with
 | .error k => .error k
 | .ok (x, j) => if isT L j sRan = true then (match ex (j + 1) with
    | .error k => .error k
    | .ok (y, j2) => .ok (mk 9 (pos L i) sNil 0 [x, y], j2)) else .ok (x, j)
def manyR : Nat → List T1 → Nat → Except Nat (List T1 × Nat)
 | 0, acc, i => .ok (acc, i)
 | f + 1, acc, i => if isT L i sCom = true then (match ex (i + 1) with
    | .error k => .error k
    | .ok (y, j) => manyR f (acc ++ [y]) j) else .ok (acc, i)
def manyP (i : Nat) : Except Nat (List T1 × Nat) := match ex i with
 | .error k => .error k
 | .ok (x, j) => manyR L ex (L.length + 1) [x] j
def betweenP (close : ByteArray) (i : Nat) : Except Nat (List T1 × Nat) := if isT L i close = true then .ok ([], i + 1) else match manyP L ex i with
 | .error k => .error k
 | .ok (l, j) => match need L j close with
   | .error k => .error k
   | .ok j2 => .ok (l, j2)
end
def plainF : Fo → Bool
 | .no => false
 | .node d k _ => if d.kind = 2 then plainF k else decide (d.kind = 1)
def plainT (x : T1) : Bool := plainF (.node x.1 x.2 .no)
def ops : Nat → List ByteArray
 | 0 => [⟨#[61]⟩, ⟨#[35]⟩, ⟨#[60]⟩, ⟨#[60, 61]⟩, ⟨#[62]⟩, ⟨#[62, 61]⟩, ⟨#[73, 78]⟩]
 | 1 => [⟨#[43]⟩, ⟨#[45]⟩, ⟨#[79, 82]⟩]
 | _ => [⟨#[42]⟩, ⟨#[47]⟩, ⟨#[68, 73, 86]⟩, ⟨#[77, 79, 68]⟩, ⟨#[65, 78, 68]⟩]
def isOp (i k : Nat) : Bool := isSW (tk L i) && (ops k).any (fun s => decide (s = (tk L i).1.text))
def binsP (sub : Nat → Except Nat (T1 × Nat)) (k : Nat) : Nat → T1 → Nat → Except Nat (T1 × Nat)
 | 0, x, i => .ok (x, i)
 | f + 1, x, i => if isOp L i k = true then (match sub (i + 1) with
    | .error e => .error e
    | .ok (y, j) => if k = 0 then .ok (mk 11 (pos L i) (tk L i).1.text 0 [x, y], j) else binsP sub k f (mk 11 (pos L i) (tk L i).1.text 0 [x, y]) j) else .ok (x, i)
def signed (i k : Nat) : Bool := decide (k = 1) && (isT L i sPlu || isT L i sMin)
def levD (fac : Nat → Except Nat (T1 × Nat)) : Nat → Nat → Except Nat (T1 × Nat)
 | 0, i => fac i
 | d + 1, i => match levD fac d (if signed L i (2 - d) = true then i + 1 else i) with
   | .error e => .error e
   | .ok (x, j) => binsP L (levD fac d) (2 - d) (L.length + 1) (if signed L i (2 - d) = true then mk 12 (pos L i) (tk L i).1.text 0 [x] else x) j
def exprG (fac : Nat → Except Nat (T1 × Nat)) (i : Nat) : Except Nat (T1 × Nat) := levD L fac 3 i
def zeroT : T1 := (Tr.zeroN, .no)
def factP : Nat → Nat → Except Nat (T1 × Nat)
 | 0, i => .error i
 | f + 1, i =>
   if 2 ≤ (tk L i).1.kind ∧ (tk L i).1.kind ≤ 4 then .ok (mk ((tk L i).1.kind + 3) (pos L i) (tk L i).1.text (tk L i).1.n [], i + 1)
   else if isT L i sPar = true then (match exprG L (factP f) (i + 1) with
    | .error k => .error k
    | .ok (x, j) => match need L j sRap with
      | .error k => .error k
      | .ok j2 => .ok (x, j2))
   else if isT L i sNot = true then (match factP f (i + 1) with
    | .error k => .error k
    | .ok (x, j) => .ok (mk 12 (pos L i) sNot 0 [x], j))
   else if isT L i sCur = true then (match betweenP L (elemP L (exprG L (factP f))) sRuc (i + 1) with
    | .error k => .error k
    | .ok (l, j) => .ok (mk 8 (pos L i) sNil 0 (zeroT :: l), j))
   else match designP L (exprG L (factP f)) i with
    | .error k => .error k
    | .ok (x, j) => if plainT x = true ∧ isT L j sCur = true then (match betweenP L (elemP L (exprG L (factP f))) sRuc (j + 1) with
       | .error k => .error k
       | .ok (l, j2) => .ok (mk 8 (pos L i) sNil 0 (x :: l), j2))
      else if isT L j sPar = true then (match betweenP L (exprG L (factP f)) sRap (j + 1) with
       | .error k => .error k
       | .ok (l, j2) => .ok (mk 10 (pos L j) sNil 0 (x :: l), j2))
      else .ok (x, j)
def exprP (i : Nat) : Except Nat (T1 × Nat) := exprG L (factP L (L.length + 1)) i
def labelsP (i : Nat) : Except Nat (T1 × Nat) := match manyP L (elemP L (exprP L)) i with
 | .error k => .error k
 | .ok (l, j) => .ok (mk 29 (pos L i) sNil 0 l, j)
end
end Go.Proofs.Ytecmjhohniipoaa.Ex
end

section
namespace Go.Proofs.Ytecmjhohniipoaa.Ex
open Go.RowKit
open Tr (Nd Fo)
open Lx (Tk noTk Blk run_store_complexL TokAt)
open Fl
attribute [local go_sem] run_store_complexL
def PT.vals (t : PT) : List Value := t.1.vals t.2.1 t.2.2
def PT.val (t : PT) : Value := t.1.val t.2.1 t.2.2
def flatP (l : List PT) : List Value := l.flatMap PT.vals
structure Toks (w0 : World) (br : Nat) (A : Option Addr) (L : List PT) : Prop where
 reads : Reads w0 w0.heap.size 5 A L.length (flatP L)
 low : br < w0.heap.size
 far : ∀ ad, A = some ad → ad.block ≠ br
 len : L.length ≤ 20000
structure PInv (w0 w : World) (br : Nat) (A : Option Addr) (c : Nat) (L : List PT) (i : Nat) : Prop where
 row : Blk w br 102 #[.slice A L.length c, .int .i64 i]
 grown : w0.grownBy w (some br)
section
variable {w0 w w' : World} {br c i : Nat} {A : Option Addr} {L : List PT}
theorem grown_trans {a b d : World} {r : Option Nat} (h : a.grownBy b r) (h' : b.grownBy d r) : a.grownBy d r :=
 ⟨h'.os.trans h.os, h'.tape.trans h.tape, h'.output.trans h.output, Nat.le_trans h.size h'.size, fun k hk hr => (h'.block k (Nat.lt_of_lt_of_le hk h.size) hr).trans (h.block k hk hr)⟩
theorem grown_of_below {a b : World} (h : Below a.heap.size a b) (r : Option Nat) : a.grownBy b r := ⟨h.os, h.tape, h.output, h.size, fun k hk _ => h.block k hk⟩
theorem PInv.below (h : PInv w0 w br A c L i) (hb : Below w.heap.size w w') : PInv w0 w' br A c L i :=
 ⟨h.row.below hb h.row.lt, grown_trans h.grown (grown_of_below hb _)⟩
theorem PInv.drewN (h : PInv w0 w br A c L i) (n : Nat) : PInv w0 (w.drewN n) br A c L i := h.below (Lx.below_drewN (Below.refl _ _) n)
theorem flatP_len (l : List PT) : (flatP l).length = l.length * 5 := by
 induction l with
 | nil => rfl
 | cons t l ih => simp only [flatP, List.flatMap_cons, List.length_append, List.length_cons] at ih ⊢; rw [ih, show (PT.vals t).length = 5 from rfl]; omega
theorem flatP_at (l : List PT) (i j : Nat) (hi : i < l.length) (hj : j < 5) : (flatP l)[i * 5 + j]? = (PT.vals l[i])[j]? := by
 induction l generalizing i with
 | nil => simp at hi
 | cons t l ih =>
   cases i with
   | zero =>
     simp only [flatP, List.flatMap_cons, Nat.zero_mul, Nat.zero_add, List.getElem_cons_zero]
     rw [List.getElem?_append_left (by rw [show (PT.vals t).length = 5 from rfl]; omega)]
   | succ i =>
     simp only [flatP, List.flatMap_cons, List.getElem_cons_succ]
     rw [List.getElem?_append_right (by rw [show (PT.vals t).length = 5 from rfl]; omega), show (PT.vals t).length = 5 from rfl, show (i + 1) * 5 + j - 5 = i * 5 + j from by omega]
     exact ih i (by simpa using hi)
theorem PInv.tok (h : PInv w0 w br A c L i) (ht : Toks w0 br A L) {k : Nat} (hk : k < L.length) : ∃ g off, A = some ⟨g, off, none⟩ ∧ ∀ j, j < 5 → w.cell? ⟨g, off + k * 5 + j, none⟩ = (PT.vals L[k])[j]? := by
 obtain ⟨⟨g, off, sp⟩, e, hlt, hc⟩ := ht.reads.2 (by omega)
 have hl := flatP_len L
 have hget : ∀ m, m < L.length * 5 → ∃ u, (flatP L)[m]? = some u := fun m hm => ⟨(flatP L)[m]'(by omega), List.getElem?_eq_getElem (by omega)⟩
 have hs : sp = none := by
  obtain ⟨u, hu⟩ := hget 0 (by omega)
  have := World.cell?_spot (hc 0 u hu)
  simpa [Addr.add] using this
 subst hs
 refine ⟨g, off, e, fun j hj => ?_⟩
 rw [← flatP_at L k j hk hj]
 obtain ⟨u, hu⟩ := hget (k * 5 + j) (by omega)
 rw [hu, ← hc _ u hu]
 have ha : (⟨g, off, none⟩ : Addr).add (k * 5 + j) = ⟨g, off + k * 5 + j, none⟩ := by unfold Addr.add; split <;> simp_all [Nat.add_assoc]
 rw [ha]
 have hne := ht.far _ e
 exact World.cell?_of_block (h.grown.block g hlt (fun e => hne (by simpa using e)))
end
abbrev zeroB : Obj := .cells #[.int .u8 0, .complex .f64 0 0, .complex .f64 0 0, .string ⟨#[]⟩, .int .i64 0] 68
set_option maxRecDepth 100000 in set_option maxHeartbeats 6400000 in
theorem now_any {w0 : World} {br c i : Nat} {A : Option Addr} {L : List PT} (ht : Toks w0 br A L) (hi : i ≤ 1000000) (w : World) (h : PInv w0 w br A c L i) :
 Calls Try.prog 75 #[.pointer (some ⟨br, 0, none⟩)] w fun e w' => e = .returned (PT.val (tk L i)) ∧ Below w.heap.size w w' := by
 have hlen := ht.len
 have x0 : (0 : Int) ≤ (i : Int) := by omega
 have hbA : Below w.heap.size w (w.alloc zeroB) := (Below.refl w.heap.size w).alloc (Nat.le_refl _) _
 have hP := h.below hbA
 have hB := Blk.new w 68 #[.int .u8 0, .complex .f64 0 0, .complex .f64 0 0, .string ⟨#[]⟩, .int .i64 0]
 have HBA := qh hbA
 have HB := qh hB
 have m0 := hP.row.cell 0
 have m1 := hP.row.cell 1
 simp only [List.getElem?_toArray, List.getElem?_cons_zero, List.getElem?_cons_succ] at m0 m1
 by_cases hlt : i < L.length
 ·obtain ⟨g, off, rfl, hc⟩ := hP.tok ht hlt
  have x1 : (i : Int) < (L.length : Int) := by omega
  have x2 : ¬ (i : Int) < 0 := by omega
  have HT := qh (show tk L i = L[i] by unfold tk; rw [List.getElem?_eq_getElem hlt]; rfl)
  obtain ⟨⟨⟨k, t, n⟩, ⟨p1, p2⟩, ⟨q1, q2⟩⟩, hL⟩ : ∃ t : PT, t = L[i] := ⟨_, rfl⟩
  rw [← hL] at hc HT
  have c0 := hc 0 (by omega)
  have c1 := hc 1 (by omega)
  have c2 := hc 2 (by omega)
  have c3 := hc 3 (by omega)
  have c4 := hc 4 (by omega)
  simp only [PT.vals, Lx.Tk.vals, Pl.C, List.getElem?_cons_zero, List.getElem?_cons_succ, Nat.add_zero] at c0 c1 c2 c3 c4
  have hIW : IntKind.i64.wrap (i : Int) = (i : Int) := IntWalk.i64_in _ (by omega)
  clear hc hL h ht hbA hB hP
  go_enter Try.func75, Try.ntmps75
  go_wp2
  generalize w.alloc zeroB = wa at *
  go_quiet (fail)
  go_wp2
  have m0' : (wa.drewN nq).cell? _ = _ := m0
  have m1' : (wa.drewN nq).cell? _ = _ := m1
  have c0' : (wa.drewN nq).cell? _ = _ := c0
  have c1' : (wa.drewN nq).cell? _ = _ := c1
  have c2' : (wa.drewN nq).cell? _ = _ := c2
  have c3' : (wa.drewN nq).cell? _ = _ := c3
  have c4' : (wa.drewN nq).cell? _ = _ := c4
  have HBA := qh (Lx.below_drewN HBA.out nq)
  have HB := qh (HB.out.drewN nq)
  clear m0 m1 c0 c1 c2 c3 c4
  generalize wa.drewN nq = wb at *
  go_still_tail 10, (by kernel_rfl)
  change wpList _ _ _ _ _ wb.drew
  have HBA := qh (Lx.below_drewN HBA.out 1)
  have HB := qh (HB.out.drewN 1)
  clear m0' m1' c0' c1' c2' c3' c4'
  rw [show wb.drewN 1 = wb.drew from rfl] at HBA HB
  generalize wb.drew = wc at *
  obtain ⟨z0, z1, z2, z3, z4, f0, f1, f2, f3, f4⟩ := HB.out.tok
  go_wp2
  refine bodyPost_ret (Lx.tok_ret1 rfl _ _ w.heap.size _ _ _ _ _ rfl (Lx.tok_stored HB.out _ _ _ _ _)) rfl ?_
  exact ⟨by rw [HT.out]; rfl, Lx.below_stored HBA.out (Nat.le_refl _) _ _ _ _ _⟩
 ·have x1 : ¬ (i : Int) < (L.length : Int) := by omega
  have HT := qh (show tk L i = noPT by unfold tk; rw [List.getElem?_eq_none (by omega)]; rfl)
  clear h ht hB hP hbA
  go_enter Try.func75, Try.ntmps75
  go_wp2
  generalize w.alloc zeroB = wa at *
  go_quiet (fail)
  have HBA := qh (Lx.below_drewN HBA.out nq)
  have HB := qh (HB.out.drewN nq)
  clear m0 m1
  generalize wa.drewN nq = wb at *
  obtain ⟨z0, z1, z2, z3, z4, f0, f1, f2, f3, f4⟩ := HB.out.tok
  go_wp2
  refine bodyPost_ret (Lx.tok_ret1 rfl _ _ w.heap.size _ _ _ _ _ rfl (Lx.tok_stored HB.out _ _ _ _ _)) rfl ?_
  exact ⟨by rw [HT.out]; simp [PT.val, noPT, noTk, Lx.Tk.val, Lx.Tk.vals, Pl.C, fl_0], Lx.below_stored HBA.out (Nat.le_refl _) _ _ _ _ _⟩
theorem val_form (t : PT) : ∃ (k : Nat) (p1 p2 q1 q2 : Nat) (s : ByteArray) (n : Int), t = (⟨k, s, n⟩, (p1, p2), (q1, q2)) ∧ PT.val t = .agg #[.int .u8 k, .complex .f64 (fl p1) (fl p2), .complex .f64 (fl q1) (fl q2), .string s, .int .i64 n] := by
 obtain ⟨⟨k, s, n⟩, ⟨p1, p2⟩, ⟨q1, q2⟩⟩ := t
 exact ⟨k, p1, p2, q1, q2, s, n, rfl, rfl⟩
set_option maxRecDepth 100000 in set_option maxHeartbeats 6400000 in
theorem is_any {w0 : World} {br c i : Nat} {A : Option Addr} {L : List PT} (ht : Toks w0 br A L) (hi : i ≤ 1000000) (s : ByteArray) (w : World) (h : PInv w0 w br A c L i) :
 Calls Try.prog 89 #[.pointer (some ⟨br, 0, none⟩), .string s] w fun e w' => e = .returned (.bool (isT L i s)) ∧ Below w.heap.size w w' := by
 have N1 := qh (now_any ht hi w h)
 have HI := qh (show isT L i s = (isSW (tk L i) && decide ((tk L i).1.text = s)) from rfl)
 obtain ⟨k, p1, p2, q1, q2, t, n, e1, e2⟩ := val_form (tk L i)
 rw [e2] at N1
 rw [e1] at HI
 clear e1 e2 h ht hi
 generalize isT L i s = b at *
 go_enter Try.func89, Try.ntmps89
 go_wp2_with fail
 ((with_reducible refine N1.out.mono ?_); rintro e w1 ⟨rfl, hb⟩)
 have HB := qh hb
 have hl : t.toList = t.data.toList := ByteArray.toList_eq t
 have hl2 : s.toList = s.data.toList := ByteArray.toList_eq s
 have ht1 : (t.toList == s.toList) = decide (t = s) := by
  rw [hl, hl2, Bool.eq_iff_iff, beq_iff_eq, decide_eq_true_eq]
  exact ⟨fun h => Lx.bytes_ext h, fun h => by rw [h]⟩
 have k5 : ((k : Int) == 5) = decide (k = 5) := by rw [Bool.eq_iff_iff, beq_iff_eq, decide_eq_true_eq]; omega
 have k6 : ((k : Int) == 6) = decide (k = 6) := by rw [Bool.eq_iff_iff, beq_iff_eq, decide_eq_true_eq]; omega
 simp only [isSW] at HI
 clear hl hl2 hb N1
 generalize decide (t = s) = bt at *
 generalize decide (k = 5) = b5 at *
 generalize decide (k = 6) = b6 at *
 have HI2 := qh HI.out
 rcases b5 with _ | _ <;> rcases b6 with _ | _ <;> rcases bt with _ | _
 all_goals
  go_wp2
  go_ret
  exact ⟨ret_bool (by rw [HI2.out]; rfl), HB.out.alloc HB.out.size _⟩
end Go.Proofs.Ytecmjhohniipoaa.Ex
end

section
namespace Go.Proofs.Ytecmjhohniipoaa.Ex
open Go.RowKit
open Tr (Nd Fo RepS)
open Lx (Tk noTk Blk run_store_complexL TokAt)
open Fl
attribute [local go_sem] run_store_complexL
abbrev bad (k : Nat) : Ending := .panicked [{ v := .iface 100 (.int .i64 k), recovered := false }]
def TreeR (B : Nat) (w0 w : World) (br : Nat) (A : Option Addr) (c : Nat) (L : List PT) (r : Except Nat (T1 × Nat)) (e : Ending) (w' : World) : Prop := match r with
 | .ok (x, j) => ∃ b, e = .returned (.pointer (some ⟨b, 0, none⟩)) ∧ PInv w0 w' br A c L j ∧ w.grownBy w' (some br) ∧ RepS (fun y => B ≤ y) w' (.node x.1 x.2 .no) [.pointer (some ⟨b, 0, none⟩)]
 | .error k => e = bad k ∧ w.grownBy w' (some br)
section
variable {w0 w w' : World} {br c i i' : Nat} {A : Option Addr} {L : List PT}
theorem PInv.at_ (h : PInv w0 w br A c L i) : w.cell? ⟨br, 1, none⟩ = some (.int .i64 i) ∧ w.frozen? ⟨br, 1, none⟩ = false ∧ br < w.heap.size := ⟨h.row.cell 1, h.row.frozen 1, h.row.lt⟩
theorem PInv.set_ (h : PInv w0 w br A c L i) (j : Nat) : PInv w0 (w.setCell ⟨br, 1, none⟩ (.int .i64 j)) br A c L j ∧ w.grownBy (w.setCell ⟨br, 1, none⟩ (.int .i64 j)) (some br) := by
 have hg := Lx.grown_set w br 1 (.int .i64 j)
 refine ⟨⟨?_, grown_trans h.grown hg⟩, hg⟩
 have := h.row.set_ 1 (.int .i64 j)
 simpa using this
structure PG (w0 w w1 : World) (br : Nat) (A : Option Addr) (c : Nat) (L : List PT) (i : Nat) : Prop where
 inv : PInv w0 w1 br A c L i
 since : w.grownBy w1 (some br)
theorem PG.far {w1 : World} (h : PG w0 w w1 br A c L i) (hw : PInv w0 w br A c L i') {b : Nat} (hb : w.heap.size ≤ b) (o : Nat) (u : Value) : PG w0 w (w1.setCell ⟨b, o, none⟩ u) br A c L i := by
 have hl := hw.row.lt
 have hs := hw.grown.size
 have hg := Lx.grown_set w1 b o u
 have hk : ∀ (a : World), a.heap.size ≤ b → a.grownBy w1 (some br) → a.grownBy (w1.setCell ⟨b, o, none⟩ u) (some br) := fun a ha h =>
  ⟨h.os, h.tape, h.output, by rw [World.size_setCell]; exact h.size, fun k hk hr => (hg.block k (Nat.lt_of_lt_of_le hk h.size) (fun e => by injection e with e; omega)).trans (h.block k hk hr)⟩
 exact ⟨⟨h.1.row.far (show br ≠ b by omega) u, hk w0 (by omega) h.1.grown⟩, hk w hb h.2⟩
theorem PG.below {w1 w2 : World} (h : PG w0 w w1 br A c L i) (hb : Below w1.heap.size w1 w2) : PG w0 w w2 br A c L i := ⟨h.1.below hb, grown_trans h.2 (grown_of_below hb _)⟩
theorem PG.set_ {w1 : World} (h : PG w0 w w1 br A c L i) (j : Nat) : PG w0 w (w1.setCell ⟨br, 1, none⟩ (.int .i64 j)) br A c L j := ⟨(h.1.set_ j).1, grown_trans h.2 (h.1.set_ j).2⟩
theorem PG.store5 {w1 : World} (h : PG w0 w w1 br A c L i) (hw : PInv w0 w br A c L i') {b : Nat} (hb : w.heap.size ≤ b) (x0 x1 x2 x3 x4 : Value) :
 PG w0 w (((((w1.setCell ⟨b, 0, none⟩ x0).setCell ⟨b, 1, none⟩ x1).setCell ⟨b, 2, none⟩ x2).setCell ⟨b, 3, none⟩ x3).setCell ⟨b, 4, none⟩ x4) br A c L i :=
 ((((h.far hw hb _ _).far hw hb _ _).far hw hb _ _).far hw hb _ _).far hw hb _ _
end
theorem isT_lt {L : List PT} {i : Nat} {s : ByteArray} (h : isT L i s = true) : i < L.length := by
 rcases Nat.lt_or_ge i L.length with h1 | h1
 ·exact h1
 ·unfold isT tk at h
  rw [List.getElem?_eq_none h1] at h
  simp [isSW, noPT, noTk] at h
set_option maxRecDepth 100000 in set_option maxHeartbeats 6400000 in
theorem eat_no {w0 : World} {br c i : Nat} {A : Option Addr} {L : List PT} (ht : Toks w0 br A L) (hi : i ≤ 900000) (s : ByteArray) (w : World) (h : PInv w0 w br A c L i) (hT : isT L i s = false) :
 Calls Try.prog 87 #[.pointer (some ⟨br, 0, none⟩), .string s] w fun e w' => e = .returned (.bool false) ∧ PInv w0 w' br A c L i ∧ w.grownBy w' (some br) := by
 have n1 := is_any ht (by omega) s w h
 rw [hT] at n1
 have N1 := qh n1
 have H := qh h
 clear h ht n1
 go_enter Try.func87, Try.ntmps87
 go_wp2_with fail
 ((with_reducible refine N1.out.mono ?_); rintro e w1 ⟨rfl, hb⟩)
 have HP := qh (H.out.below hb)
 have HG := qh (grown_of_below hb (some br))
 clear hb N1 H
 go_wp2
 go_ret
 exact ⟨rfl, HP.out, HG.out⟩
set_option maxRecDepth 100000 in set_option maxHeartbeats 6400000 in
theorem eat_yes {w0 : World} {br c i : Nat} {A : Option Addr} {L : List PT} (ht : Toks w0 br A L) (hi : i ≤ 900000) (s : ByteArray) (w : World) (h : PInv w0 w br A c L i) (hT : isT L i s = true) :
 Calls Try.prog 87 #[.pointer (some ⟨br, 0, none⟩), .string s] w fun e w' => e = .returned (.bool true) ∧ PInv w0 w' br A c L (i + 1) ∧ w.grownBy w' (some br) := by
 have n1 := is_any ht (by omega) s w h
 rw [hT] at n1
 have N1 := qh n1
 have H := qh h
 clear h ht n1
 go_enter Try.func87, Try.ntmps87
 go_wp2_with fail
 ((with_reducible refine N1.out.mono ?_); rintro e w1 ⟨rfl, hb⟩)
 have HP := qh (H.out.below hb)
 have HG := qh (grown_of_below hb (some br))
 clear hb N1 H
 obtain ⟨m1, f1, hlt⟩ := HP.out.at_
 have x0 : (0 : Int) ≤ (i : Int) := by omega
 go_wp2
 go_ret
 obtain ⟨hp, hg⟩ := HP.out.set_ (i + 1)
 exact ⟨rfl, hp, grown_trans HG.out hg⟩
set_option maxRecDepth 100000 in set_option maxHeartbeats 6400000 in
theorem need_ok {w0 : World} {br c i : Nat} {A : Option Addr} {L : List PT} (ht : Toks w0 br A L) (hi : i ≤ 900000) (s : ByteArray) (w : World) (h : PInv w0 w br A c L i) (hT : isT L i s = true) :
 Calls Try.prog 91 #[.pointer (some ⟨br, 0, none⟩), .string s] w fun e w' => e = .returned (.tuple #[]) ∧ PInv w0 w' br A c L (i + 1) ∧ w.grownBy w' (some br) := by
 have N1 := qh (eat_yes ht hi s w h hT)
 clear h ht
 go_enter Try.func91, Try.ntmps91
 go_wp2_with fail
 ((with_reducible refine N1.out.mono ?_); rintro e w1 ⟨rfl, hp, hg⟩)
 have HP := qh hp
 have HG := qh hg
 clear hp hg
 go_wp2
 go_end0
 exact ⟨rfl, HP.out, HG.out⟩
set_option maxRecDepth 100000 in set_option maxHeartbeats 6400000 in
theorem need_no {w0 : World} {br c i : Nat} {A : Option Addr} {L : List PT} (ht : Toks w0 br A L) (hi : i ≤ 900000) (s : ByteArray) (w : World) (h : PInv w0 w br A c L i) (hT : isT L i s = false) :
 Calls Try.prog 91 #[.pointer (some ⟨br, 0, none⟩), .string s] w fun e w' => e = bad i ∧ w.grownBy w' (some br) := by
 have N1 := qh (eat_no ht hi s w h hT)
 clear h ht
 go_enter Try.func91, Try.ntmps91
 go_wp2_with fail
 ((with_reducible refine N1.out.mono ?_); rintro e w1 ⟨rfl, hp, hg⟩)
 obtain ⟨m1, f1, hlt⟩ := hp.at_
 have HG := qh hg
 clear hp hg
 go_wp2
 exact ⟨rfl, rfl, HG.out⟩
set_option maxRecDepth 100000 in set_option maxHeartbeats 6400000 in
theorem name_ok {w0 : World} {br c i : Nat} {A : Option Addr} {L : List PT} (ht : Toks w0 br A L) (hi : i ≤ 900000) (w : World) (h : PInv w0 w br A c L i) (hT : (tk L i).1.kind = 1) :
 Calls Try.prog 96 #[.pointer (some ⟨br, 0, none⟩)] w fun e w' => e = .returned (PT.val (tk L i)) ∧ PInv w0 w' br A c L (i + 1) ∧ w.grownBy w' (some br) := by
 have hbA : Below w.heap.size w (w.alloc zeroB) := (Below.refl w.heap.size w).alloc (Nat.le_refl _) _
 have N1 := qh (now_any ht (by omega) _ (h.below hbA))
 have H := qh h
 have HBA := qh hbA
 have hB := Blk.new w 68 #[.int .u8 0, .complex .f64 0 0, .complex .f64 0 0, .string ⟨#[]⟩, .int .i64 0]
 have HB := qh hB
 obtain ⟨k, p1, p2, q1, q2, t, n, e1, e2⟩ := val_form (tk L i)
 rw [e1] at hT
 simp only at hT
 subst hT
 rw [e2] at N1 ⊢
 have hal : w.heap.size < (w.alloc zeroB).heap.size := by rw [World.size_alloc]; exact Nat.lt_succ_self _
 clear hbA hB h e1 e2 ht
 go_enter Try.func96, Try.ntmps96
 go_wp2_with fail
 ((with_reducible refine N1.out.mono ?_); rintro e w1 ⟨rfl, hb⟩)
 have hp := (H.out.below HBA.out).below hb
 have hbk := HB.out.below hb hal
 have hbl : Below w.heap.size w w1 := HBA.out.trans (hb.mono (Nat.le_of_lt hal))
 obtain ⟨m1, f1, hlt⟩ := hp.at_
 obtain ⟨z0, z1, z2, z3, z4, g0, g1, g2, g3, g4⟩ := hbk.tok
 have HP := qh hp
 have HBK := qh hbk
 have HBL := qh hbl
 have hbr := H.out.row.lt
 have x0 : (0 : Int) ≤ (i : Int) := by omega
 have hlt2 := hbk.lt
 clear hp hbk hbl hb HB HBA N1
 go_wp2
 have hPG := ((show PG w0 w w1 br A c L i from ⟨HP.out, grown_of_below HBL.out _⟩).set_ (i + 1))
 have hPG2 := (hPG.store5 H.out (Nat.le_refl _) (.int .u8 1) (.complex .f64 (fl p1) (fl p2)) (.complex .f64 (fl q1) (fl q2)) (.string t) (.int .i64 n)).below ((Below.refl _ _).alloc (Nat.le_refl _) (.cells #[.int .u8 1, .complex .f64 (fl p1) (fl p2), .complex .f64 (fl q1) (fl q2), .string t, .int .i64 n] 68))
 refine bodyPost_ret (Lx.tok_ret1 rfl _ _ w.heap.size _ _ _ _ _ rfl ((Lx.tok_stored (HBK.out.far (p := ⟨br, 1, none⟩) (Nat.ne_of_gt hbr) _) _ _ _ _ _).alloc _)) rfl ?_
 exact ⟨rfl, hPG2.1, hPG2.2⟩
set_option maxRecDepth 100000 in set_option maxHeartbeats 6400000 in
theorem name_no {w0 : World} {br c i : Nat} {A : Option Addr} {L : List PT} (ht : Toks w0 br A L) (hi : i ≤ 900000) (w : World) (h : PInv w0 w br A c L i) (hT : ¬ (tk L i).1.kind = 1) :
 Calls Try.prog 96 #[.pointer (some ⟨br, 0, none⟩)] w fun e w' => e = bad i ∧ w.grownBy w' (some br) := by
 have hbA : Below w.heap.size w (w.alloc zeroB) := (Below.refl w.heap.size w).alloc (Nat.le_refl _) _
 have N1 := qh (now_any ht (by omega) _ (h.below hbA))
 have H := qh h
 have HBA := qh hbA
 obtain ⟨k, p1, p2, q1, q2, t, n, e1, e2⟩ := val_form (tk L i)
 rw [e1] at hT
 simp only at hT
 rw [e2] at N1
 have k1 : ((k : Int) == 1) = false := by simp only [beq_eq_false_iff_ne, ne_eq]; omega
 have k2 : ((k : Int) != 1) = true := by simp [bne, k1]
 have hal : w.heap.size < (w.alloc zeroB).heap.size := by rw [World.size_alloc]; exact Nat.lt_succ_self _
 clear hbA h e1 e2 ht hT
 go_enter Try.func96, Try.ntmps96
 go_wp2_with fail
 ((with_reducible refine N1.out.mono ?_); rintro e w1 ⟨rfl, hb⟩)
 have hp := (H.out.below HBA.out).below hb
 have hbl : Below w.heap.size w w1 := HBA.out.trans (hb.mono (Nat.le_of_lt hal))
 obtain ⟨m1, f1, hlt⟩ := hp.at_
 have HBL := qh hbl
 clear hp hbl hb HBA N1 H
 go_wp2
 exact ⟨rfl, rfl, grown_of_below (HBL.out.alloc HBL.out.size _) _⟩
end Go.Proofs.Ytecmjhohniipoaa.Ex
end
