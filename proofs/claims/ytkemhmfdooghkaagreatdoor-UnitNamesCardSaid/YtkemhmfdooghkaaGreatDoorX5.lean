import Derived.Test.YtkemhmfdooghkaaGreatDoorX4
set_option linter.unusedSimpArgs false
set_option linter.unusedVariables false
set_option maxRecDepth 100000
set_option maxHeartbeats 6400000
namespace Go.Proofs.YtkemhmfdooghkaaGreatDoor
namespace Tr
open Go.RowKit
open Fl
def RepN (S : Nat → Prop) (w : World) : Fo → List Value → Prop
 | .no, vs => vs = []
 | .node d k r, vs => ∃ v vs', vs = v :: vs' ∧ ((v = .pointer none ∧ d = zeroN ∧ k = .no) ∨ RepS S w (.node d k .no) [v]) ∧ RepN S w r vs'
theorem RepN.below {S : Nat → Prop} {w w' : World} (hb : Below w.heap.size w w') : ∀ {f : Fo} {vs : List Value}, RepN S w f vs → RepN S w' f vs
 | .no, vs, h => by unfold RepN at h ⊢; exact h
 | .node d k r, vs, h => by
   unfold RepN at h ⊢
   obtain ⟨v, vs', h1, h2, h3⟩ := h
   exact ⟨v, vs', h1, h2.imp id (fun h => h.below hb), RepN.below hb h3⟩
theorem RepN.more {S S' : Nat → Prop} {w : World} (hS : ∀ x, S x → x < w.heap.size → S' x) : ∀ {f : Fo} {vs : List Value}, RepN S w f vs → RepN S' w f vs
 | .no, vs, h => by unfold RepN at h ⊢; exact h
 | .node d k r, vs, h => by
   unfold RepN at h ⊢
   obtain ⟨v, vs', h1, h2, h3⟩ := h
   exact ⟨v, vs', h1, h2.imp id (fun h => h.more hS), RepN.more hS h3⟩
theorem RepN.keep {S : Nat → Prop} {w w' : World} (hsz : w.heap.size ≤ w'.heap.size) (hk : ∀ x, S x → x < w.heap.size → w'.heap[x]? = w.heap[x]?) : ∀ {f : Fo} {vs : List Value}, RepN S w f vs → RepN S w' f vs
 | .no, vs, h => by unfold RepN at h ⊢; exact h
 | .node d k r, vs, h => by
   unfold RepN at h ⊢
   obtain ⟨v, vs', h1, h2, h3⟩ := h
   exact ⟨v, vs', h1, h2.imp id (fun h => h.keep hsz hk (fun _ h _ => h)), RepN.keep hsz hk h3⟩
theorem RepN.at_ {S : Nat → Prop} {w : World} {f : Fo} {vs : List Value} {i : Nat} (h : RepN S w f (vs.drop i)) (hi : i < vs.length) : ∃ d k r, f = .node d k r ∧ ((vs[i] = .pointer none ∧ d = zeroN ∧ k = .no) ∨ RepS S w (.node d k .no) [vs[i]]) ∧ RepN S w r (vs.drop (i + 1)) := by
 cases f with
 | no => unfold RepN at h; simp at h; omega
 | node d k r =>
   unfold RepN at h
   obtain ⟨v, vs', e, h1, h2⟩ := h
   rw [List.drop_eq_getElem_cons hi] at e
   simp only [List.cons.injEq] at e
   obtain ⟨rfl, rfl⟩ := e
   exact ⟨d, k, r, rfl, h1, h2⟩
theorem RepN.end_ {S : Nat → Prop} {w : World} {f : Fo} {vs : List Value} {i : Nat} (h : RepN S w f (vs.drop i)) (hi : ¬ i < vs.length) : f = .no := by
 cases f with
 | no => rfl
 | node d k r =>
   unfold RepN at h
   obtain ⟨v, vs', e, h1, h2⟩ := h
   rw [List.drop_eq_nil_of_le (by omega)] at e
   cases e
def Fo.app : Fo → Fo → Fo
 | .no, g => g
 | .node d k r, g => .node d k (r.app g)
theorem Fo.snoc_app : ∀ (f : Fo) (d : Nd) (k r : Fo), (f.snoc d k).app r = f.app (.node d k r)
 | .no, _, _, _ => rfl
 | .node d' k' r', d, k, r => by simp [Fo.snoc, Fo.app, Fo.snoc_app r' d k r]
theorem Fo.app_no : ∀ f : Fo, f.app .no = f
 | .no => rfl
 | .node d k r => by simp [Fo.app, Fo.app_no r]
theorem zero_rep {S : Nat → Prop} (w : World) (hS : S w.heap.size) : RepS S (w.alloc (.cells #[.int .u8 0, .complex .f64 0 0, .string ⟨#[]⟩, .int .i64 0, .slice none 0 0] 38)) (.node zeroN .no .no) [.pointer (some ⟨w.heap.size, 0, none⟩)] := by
 have hb := Blk.new w 38 #[.int .u8 0, .complex .f64 0 0, .string ⟨#[]⟩, .int .i64 0, .slice none 0 0]
 have he : (#[.int .u8 0, .complex .f64 0 0, .string ⟨#[]⟩, .int .i64 0, .slice none 0 0] : Array Value) = cellsN zeroN (.slice none 0 0) := by
  unfold cellsN zeroN C; simp [fl_0]
 rw [he] at hb ⊢
 unfold RepS
 exact ⟨_, none, 0, [], [], rfl, hS, hb.at_, fun h => absurd h (by simp), Reads.none_, by unfold RepS; rfl, by unfold RepS; rfl⟩
theorem Bld.after {S : Nat → Prop} {w0 w w1 : World} {b : Nat} {d : Nd} {sv : Value} {f : Fo} {xs : List Value} {o : Obj} (h : Bld S w0 w b d sv f xs) (hg : (w.alloc o).grownBy w1 sv.ownBlock) : w1.cell? ⟨b, 4, none⟩ = some sv ∧ w1.frozen? ⟨b, 4, none⟩ = false := by
 obtain ⟨h1, h2, h3, h4, h5⟩ := h
 have h6 := (h1.alloc o).grown hg (fun e => own_blk_ne h2 h1 (by decide) e.symm)
 exact ⟨h6.cell 4, h6.frozen 4⟩
theorem keep_old {S : Nat → Prop} {w0 w w1 : World} {b : Nat} {d : Nd} {sv u : Value} {f : Fo} {xs : List Value} {o : Obj} (h : Bld S w0 w b d sv f xs) (hg : (w.alloc o).grownBy w1 sv.ownBlock) {x : Nat} (hx : x < w0.heap.size) (hl : x < w.heap.size) : (w1.setCell ⟨b, 4, none⟩ u).heap[x]? = w.heap[x]? := by
 obtain ⟨h1, h2, h3, h4, h5⟩ := h
 rw [Below.heap_setCell w1 ⟨b, 4, none⟩ u x (by simp; omega), hg.block x (by simp; omega) (fun e => by have := (h2.lt x e.symm).1; omega)]
 exact Below.heap_alloc w o x hl
theorem new_any (S : Nat → Prop) (kind p1 p2 : Nat) (name : ByteArray) (n : Int) (A : Option Addr) (c : Nat) (vs : List Value) (f : Fo) (w : World) (hv : vs.length ≤ 1000000) (hA : Reads w w.heap.size 1 A vs.length vs) (hk : RepN S w f vs) :
 Calls Tryz.prog 33 #[.int .u8 kind, .complex .f64 (fl p1) (fl p2), .string name, .int .i64 n, .slice A vs.length c] w fun e w' => ∃ u, e = .returned u ∧ Below w.heap.size w w' ∧ RepS (fun x => S x ∨ w.heap.size ≤ x) w' (.node ⟨kind, (p1, p2), name, n⟩ f .no) [u] := by
 have hk0 : RepN (fun x => S x ∧ x < w.heap.size) w f vs := hk.more fun x h hl => ⟨h, hl⟩
 have HA := qh hA
 have HK := qh hk0
 obtain ⟨i0, hi, hz0, hz1, hz2⟩ := info_parts info31
 clear hk hk0 hA
 go_enter Tryz.func33, Tryz.ntmps33
 go_wp2
 go_loopw [22] (fun i wr => ∃ (j : Nat) (sv : Value) (g r : Fo) (xs : List Value), j ≤ vs.length ∧ i = .int .i64 j ∧ xs.length = j ∧ Hid (Bld S w wr w.heap.size ⟨kind, (p1, p2), name, n⟩ sv g xs) ∧ Hid (f = g.app r) ∧ Hid (RepN (fun x => S x ∧ x < w.heap.size) wr r (vs.drop j)) ∧ Hid (Reads wr w.heap.size 1 A vs.length vs)) (fun i _ => vs.length - (intOf i).toNat)
 case atStart =>
  exact ⟨0, .slice none 0 0, .no, f, [], Nat.zero_le _, rfl, rfl, qh (Bld.start (Blk.new w 38 _) nl ((Below.refl _ _).alloc nl _)), qh rfl, qh (RepN.below ((Below.refl _ _).alloc nl _) HK.out), qh (HA.out.alloc nl _)⟩
 case round =>
  obtain ⟨j, sv, g, r, xs, hj, rfl, hxs, HB, HF, HR, HR2⟩ := hrel
  obtain ⟨m4, m4f, hbl⟩ := HB.out.sv
  by_cases hlt : j < vs.length
  ·obtain ⟨d1, k1, r1, rfl, g1, g2⟩ := HR.out.at_ hlt
   obtain ⟨b1, off, rfl, hcell⟩ := Reads.nth HR2.out hlt
   rcases g1 with ⟨g1, rfl, rfl⟩ | g1
   ·rw [g1] at hcell
    have hbel : Below wr.heap.size wr (wr.alloc (.cells #[.int .u8 0, .complex .f64 0 0, .string ⟨#[]⟩, .int .i64 0, .slice none 0 0] 38)) := (Below.refl _ _).alloc nl _
    have HB' := HB.out.below hbel
    have G1 := qh (HB.out.newer (zero_rep (S := fun x => wr.heap.size ≤ x) wr nl))
    have G2 := qh (g2.below hbel)
    have HR3 := qh (HR2.out.alloc (by omega) (.cells #[.int .u8 0, .complex .f64 0 0, .string ⟨#[]⟩, .int .i64 0, .slice none 0 0] 38))
    obtain ⟨z4, z4f, _⟩ := HB'.sv
    clear g1 g2 HR hbel
    have hown := HB'.own
    rw [hxs] at hown
    have q1 := World.news_of_block (cs := #[.pointer (some ⟨wr.heap.size, 0, none⟩)]) (t := 31) (fr := (0, 0)) (heap_alloc_new (wr.alloc (.cells #[.int .u8 0, .complex .f64 0 0, .string ⟨#[]⟩, .int .i64 0, .slice none 0 0] 38)) _)
    rw [show (wr.alloc (.cells #[.int .u8 0, .complex .f64 0 0, .string ⟨#[]⟩, .int .i64 0, .slice none 0 0] 38)).heap.size = wr.heap.size + 1 by simp] at q1
    have q2 : ∀ u ∈ [Value.pointer (some ⟨wr.heap.size, 0, none⟩)], u.oneCell' = true := by simp [Value.oneCell']
    have q3 : j + 1 ≤ maxLen := by unfold maxLen; omega
    have q5 : w.heap.size ≤ ((wr.alloc (.cells #[.int .u8 0, .complex .f64 0 0, .string ⟨#[]⟩, .int .i64 0, .slice none 0 0] 38)).alloc (.cells #[.pointer (some ⟨wr.heap.size, 0, none⟩)] 31)).heap.size := by simp; omega
    have hown2 := hown.alloc (.cells #[.pointer (some ⟨wr.heap.size, 0, none⟩)] 31)
    have Q := qh (And.intro q1 (And.intro q2 (And.intro q3 (And.intro q5 hown2))))
    clear q1 q2 q3 q5 hown2 hown
    have HBH := qh HB'
    clear HB'
    go_wp2_with (at_builtin; refine wpList_append_lies _ rfl _ _ _ rfl w.heap.size 31 i0 (.pointer none) 1 8 Tryz.underlying36 hi hz0 hz1 hz2 rfl (by omega) sv j xs rfl Q.out.2.2.2.2 ⟨wr.heap.size + 1, 0, none⟩ 1 1 [.pointer (some ⟨wr.heap.size, 0, none⟩)] rfl rfl Q.out.1 Q.out.2.1 (by omega) Q.out.2.2.1 (by omega) Q.out.2.2.2.1 (wr.heap.size + 1 + 1) (by simp) ?_)
    intro g' cap w1 hown1 hgrow hor hlt1
    obtain ⟨s4, s4f⟩ := Bld.after HBH.out hgrow
    have HO := qh (And.intro hown1 (And.intro hgrow hor))
    clear hown1 hgrow hor
    go_wp2
    go_roundw
    case rel =>
     refine ⟨j + 1, .slice (some ⟨g', 0, none⟩) (j + 1) cap, g.snoc zeroN .no, r1, xs ++ [.pointer (some ⟨wr.heap.size, 0, none⟩)], by omega, by go_num, by simp [hxs], qh ?_, qh (by rw [HF.out, Fo.snoc_app]), qh ?_, qh ?_⟩
     ·have hs := Bld.step (HBH.out.below ((Below.refl _ _).alloc nl _)) (G1.out.below ((Below.refl _ _).alloc nl (.cells #[.pointer (some ⟨wr.heap.size, 0, none⟩)] 31))) (by rw [hxs]; exact HO.out.1) HO.out.2.1 (by rcases HO.out.2.2 with h | h; exact .inl h; exact .inr (by rw [h]; simp))
      rw [hxs] at hs
      exact hs
     ·refine RepN.keep (w := (wr.alloc (.cells #[.int .u8 0, .complex .f64 0 0, .string ⟨#[]⟩, .int .i64 0, .slice none 0 0] 38))) ?_ ?_ G2.out
      ·have := HO.out.2.1.size; simp at this ⊢; omega
      ·intro x hx hl
       exact keep_old HBH.out HO.out.2.1 hx.2 hl
     ·refine HR3.out.keep fun p hp => World.cell?_of_block ?_
      exact keep_old HBH.out HO.out.2.1 hp (by have := HBH.out.bel.size; omega)
    case measure => simp [intOf]; omega
   ·obtain ⟨b2, _, _, _, hu, _⟩ := g1.rep.one
    rw [hu] at hcell g1
    have G1 := qh (Bld.older HB.out g1)
    have G2 := qh g2
    have HB' := HB.out
    have HR3 := HR2
    clear g1 g2 HR hu
    have hown := HB'.own
    rw [hxs] at hown
    have q1 := World.news_of_block (cs := #[.pointer (some ⟨b2, 0, none⟩)]) (t := 31) (fr := (0, 0)) (heap_alloc_new wr _)
    have q2 : ∀ u ∈ [Value.pointer (some ⟨b2, 0, none⟩)], u.oneCell' = true := by simp [Value.oneCell']
    have q3 : j + 1 ≤ maxLen := by unfold maxLen; omega
    have q5 : w.heap.size ≤ (wr.alloc (.cells #[.pointer (some ⟨b2, 0, none⟩)] 31)).heap.size := by simp; omega
    have hown2 := hown.alloc (.cells #[.pointer (some ⟨b2, 0, none⟩)] 31)
    have Q := qh (And.intro q1 (And.intro q2 (And.intro q3 (And.intro q5 hown2))))
    clear q1 q2 q3 q5 hown2 hown
    have HBH := qh HB'
    clear HB'
    go_wp2_with (at_builtin; refine wpList_append_lies _ rfl _ _ _ rfl w.heap.size 31 i0 (.pointer none) 1 8 Tryz.underlying36 hi hz0 hz1 hz2 rfl (by omega) sv j xs rfl Q.out.2.2.2.2 ⟨wr.heap.size, 0, none⟩ 1 1 [.pointer (some ⟨b2, 0, none⟩)] rfl rfl Q.out.1 Q.out.2.1 (by omega) Q.out.2.2.1 (by omega) Q.out.2.2.2.1 (wr.heap.size + 1) (by simp) ?_)
    intro g' cap w1 hown1 hgrow hor hlt1
    obtain ⟨s4, s4f⟩ := Bld.after HBH.out hgrow
    have HO := qh (And.intro hown1 (And.intro hgrow hor))
    clear hown1 hgrow hor
    go_wp2
    go_roundw
    case rel =>
     refine ⟨j + 1, .slice (some ⟨g', 0, none⟩) (j + 1) cap, g.snoc d1 k1, r1, xs ++ [.pointer (some ⟨b2, 0, none⟩)], by omega, by go_num, by simp [hxs], qh ?_, qh (by rw [HF.out, Fo.snoc_app]), qh ?_, qh ?_⟩
     ·have hs := Bld.step (HBH.out.below ((Below.refl _ _).alloc nl _)) (G1.out.below ((Below.refl _ _).alloc nl (.cells #[.pointer (some ⟨b2, 0, none⟩)] 31))) (by rw [hxs]; exact HO.out.1) HO.out.2.1 (by rcases HO.out.2.2 with h | h; exact .inl h; exact .inr (by rw [h]; simp))
      rw [hxs] at hs
      exact hs
     ·refine RepN.keep (w := wr) ?_ ?_ G2.out
      ·have := HO.out.2.1.size; simp at this ⊢; omega
      ·intro x hx hl
       exact keep_old HBH.out HO.out.2.1 hx.2 hl
     ·refine HR3.out.keep fun p hp => World.cell?_of_block ?_
      exact keep_old HBH.out HO.out.2.1 hp (by have := HBH.out.bel.size; omega)
    case measure => simp [intOf]; omega
  ·have he := HR.out.end_ hlt
   subst he
   have HD := qh HB.out.done
   have HL := qh HB.out.bel
   have HG := qh (show f = g by rw [HF.out, Fo.app_no])
   clear HR HB HF
   go_wp2
   go_ret
   exact ⟨_, rfl, HL.out, by rw [HG.out]; exact HD.out⟩
end Tr
namespace Ex
open Tr (Nd Fo)
open Lx (Tk noTk)
abbrev PT := Tk × (Nat × Nat) × (Nat × Nat)
def noPT : PT := (noTk, (0, 0), (0, 0))
def tk (L : List PT) (i : Nat) : PT := (L[i]?).getD noPT
abbrev T1 := Nd × Fo
def forest : List T1 → Fo
 | [] => .no
 | (d, k) :: r => .node d k (forest r)
def mk (kind : Nat) (p : Nat × Nat) (name : ByteArray) (n : Int) (kids : List T1) : T1 := (⟨kind, p, name, n⟩, forest kids)
abbrev sDot : ByteArray := ⟨#[46]⟩
abbrev sHat : ByteArray := ⟨#[94]⟩
abbrev sBra : ByteArray := ⟨#[91]⟩
abbrev sKet : ByteArray := ⟨#[93]⟩
abbrev sCom : ByteArray := ⟨#[44]⟩
abbrev sRan : ByteArray := ⟨#[46, 46]⟩
abbrev sPar : ByteArray := ⟨#[40]⟩
abbrev sRap : ByteArray := ⟨#[41]⟩
abbrev sNot : ByteArray := ⟨#[78, 79, 84]⟩
abbrev sCur : ByteArray := ⟨#[123]⟩
abbrev sRuc : ByteArray := ⟨#[125]⟩
abbrev sPlu : ByteArray := ⟨#[43]⟩
abbrev sMin : ByteArray := ⟨#[45]⟩
abbrev sNil : ByteArray := ⟨#[]⟩
def isSW (t : PT) : Bool := decide (t.1.kind = 5) || decide (t.1.kind = 6)
def isT (L : List PT) (i : Nat) (s : ByteArray) : Bool := isSW (tk L i) && decide ((tk L i).1.text = s)
def pos (L : List PT) (i : Nat) : Nat × Nat := (tk L i).2.1
section
variable (L : List PT)
def need (i : Nat) (s : ByteArray) : Except Nat Nat := if isT L i s = true then .ok (i + 1) else .error i
def nameP (i : Nat) : Except Nat (PT × Nat) := if (tk L i).1.kind = 1 then .ok (tk L i, i + 1) else .error i
def dotP (x : T1) (i : Nat) : Except Nat (T1 × Nat) := match need L i sDot with
 | .error k => .error k
 | .ok j => match nameP L j with
   | .error k => .error k
   | .ok (t, j') => .ok (mk 2 (pos L i) t.1.text 0 [x], j')
section
variable (ex : Nat → Except Nat (T1 × Nat))
end
def plainF : Fo → Bool
 | .no => false
 | .node d k _ => if d.kind = 2 then plainF k else decide (d.kind = 1)
def plainT (x : T1) : Bool := plainF (.node x.1 x.2 .no)
def ops : Nat → List ByteArray
 | 0 => [⟨#[61]⟩, ⟨#[35]⟩, ⟨#[60]⟩, ⟨#[60, 61]⟩, ⟨#[62]⟩, ⟨#[62, 61]⟩, ⟨#[73, 78]⟩]
 | 1 => [⟨#[43]⟩, ⟨#[45]⟩, ⟨#[79, 82]⟩]
 | _ => [⟨#[42]⟩, ⟨#[47]⟩, ⟨#[68, 73, 86]⟩, ⟨#[77, 79, 68]⟩, ⟨#[65, 78, 68]⟩]
def signed (i k : Nat) : Bool := decide (k = 1) && (isT L i sPlu || isT L i sMin)
def zeroT : T1 := (Tr.zeroN, .no)
end
end Ex
namespace Lx
open Go.RowKit
open Pl Fl
theorem runN_app (p : UInt8 → Bool) (hp : p 32 = false) (r : List UInt8) : ∀ s : List UInt8, runN p (s ++ 32 :: r) = runN p s
 | [] => by rw [List.nil_append, runN_no hp, runN_nil]
 | c :: s => by
   rw [List.cons_append]
   cases h : p c
   ·rw [runN_no h, runN_no h]
   ·rw [runN_yes h, runN_yes h, runN_app p hp r s]
theorem runN_app' (p : UInt8 → Bool) (r : List UInt8) : ∀ s : List UInt8, runN p s < s.length → runN p (s ++ r) = runN p s
 | [], h => by simp [runN_nil] at h
 | c :: s, h => by
   rw [List.cons_append]
   cases hc : p c
   ·rw [runN_no hc, runN_no hc]
   ·rw [runN_yes hc] at h ⊢
    rw [runN_yes hc, runN_app' p r s (by simp only [List.length_cons] at h; omega)]
theorem cmt_app (r : List UInt8) : ∀ (m : Nat) (d : Int) (i : Nat) (s : List UInt8), s.length ≤ m → cmt d i s ≠ 0 → cmt d i (s ++ r) = cmt d i s := by
 intro m
 induction m with
 | zero => intro d i s h; have : s = [] := List.length_eq_zero_iff.1 (by omega); subst this; intro h; exact absurd rfl h
 | succ m ih =>
   intro d i s h hc
   rcases s with _ | ⟨a, _ | ⟨b, t⟩⟩
   ·exact absurd rfl hc
   ·exact absurd rfl hc
   ·simp only [List.length_cons] at h
    rw [List.cons_append, List.cons_append]
    unfold cmt at hc ⊢
    split
    ·rename_i h1
     rw [if_pos h1] at hc
     exact ih _ _ _ (by omega) hc
    ·rename_i h1
     rw [if_neg h1] at hc
     split
     ·rename_i h2
      rw [if_pos h2] at hc
      split
      ·rfl
      ·rename_i h3
       rw [if_neg h3] at hc
       exact ih _ _ _ (by omega) hc
     ·rename_i h2
      rw [if_neg h2] at hc
      exact ih d (i + 1) (b :: t) (by simp only [List.length_cons]; omega) hc
theorem head_app {s r : List UInt8} (hs : s ≠ []) : (s ++ r).head? = s.head? := by cases s <;> simp_all
theorem take2_app {s r : List UInt8} (hs : s ≠ []) (x : List UInt8) (hx : x.length = 2) (hb : x[1]? ≠ some 32) : ((s ++ 32 :: r).take 2 = x) = (s.take 2 = x) := by
 rcases s with _ | ⟨a, _ | ⟨b, t⟩⟩
 ·exact absurd rfl hs
 ·apply propext
  constructor
  ·intro h
   subst h
   simp at hb
  ·intro h
   subst h
   simp at hx
 ·rfl
theorem oneN_app {s : List UInt8} (hs : s ≠ []) {t : Tk} {n : Nat} (h : oneN s = .ok (t, n)) (r : List UInt8) : oneN (s ++ 32 :: r) = .ok (t, n) := by
 have hbd := oneN_bd s hs t n h
 have htk : ∀ m, m ≤ s.length → (s ++ 32 :: r).take m = s.take m := fun m hm => List.take_append_of_le_length hm
 unfold oneN at h ⊢
 rw [head_app hs]
 dsimp only at h ⊢
 by_cases h1 : isL (s.head?.getD 0) = true
 ·rw [if_pos h1] at h ⊢
  rw [runN_app isP rfl, htk _ (runN_le isP s)]
  exact h
 rw [if_neg h1] at h ⊢
 by_cases h2 : isD (s.head?.getD 0) = true
 ·rw [if_pos h2] at h ⊢
  rw [runN_app isX rfl]
  have hle := runN_le isX s
  have h72 : ((s ++ 32 :: r)[runN isX s]? = some 72) = (s[runN isX s]? = some 72) := by
   rcases Nat.lt_or_ge (runN isX s) s.length with hlt | hge
   ·rw [List.getElem?_append_left hlt]
   ·have he : runN isX s = s.length := by omega
    rw [he, List.getElem?_append_right nl, Nat.sub_self, List.getElem?_eq_none nl]
    simp
  have hn : (if (s ++ 32 :: r)[runN isX s]? = some 72 then runN isX s + 1 else runN isX s) = (if s[runN isX s]? = some 72 then runN isX s + 1 else runN isX s) := by
   by_cases h3 : s[runN isX s]? = some 72
   ·rw [if_pos h3, if_pos (by rw [h72]; exact h3)]
   ·rw [if_neg h3, if_neg (by rw [h72]; exact h3)]
  rw [hn, htk]
  ·exact h
  ·by_cases h3 : s[runN isX s]? = some 72
   ·rw [if_pos h3]
    obtain ⟨h5, _⟩ := List.getElem?_eq_some_iff.1 h3
    omega
   ·rw [if_neg h3]; exact hle
 rw [if_neg h2] at h ⊢
 by_cases h3 : s.head?.getD 0 = 34 ∨ s.head?.getD 0 = 39
 ·rw [if_pos h3] at h ⊢
  have hta : (s ++ 32 :: r).tail = s.tail ++ 32 :: r := by cases s <;> simp_all
  rw [hta]
  have htl : s.tail.length = s.length - 1 := List.length_tail
  split at h
  ·cases h
  ·rename_i h4
   have h5 : 1 + runN (fun x => x != s.head?.getD 0 && x != 10) s.tail < s.length := by
    rcases Nat.lt_or_ge (1 + runN (fun x => x != s.head?.getD 0 && x != 10) s.tail) s.length with hlt | hge
    ·exact hlt
    ·exact absurd (.inl (List.getElem?_eq_none hge)) h4
   rw [runN_app' _ _ _ (by omega)]
   rw [List.getElem?_append_left h5, if_neg h4, htk _ (by omega)]
   exact h
 rw [if_neg h3] at h ⊢
 have hsym : symN (s ++ 32 :: r) = symN s := by
  unfold symN
  rw [head_app hs]
  have : (twos.any fun x => x.data.toList == (s ++ 32 :: r).take 2) = (twos.any fun x => x.data.toList == s.take 2) := by
   rw [Bool.eq_iff_iff]
   simp only [List.any_eq_true, beq_iff_eq]
   have hx : ∀ x ∈ twos, x.data.toList.length = 2 ∧ x.data.toList[1]? ≠ some 32 := by decide
   constructor
   ·rintro ⟨x, hm, e⟩
    exact ⟨x, hm, ((take2_app hs _ (hx x hm).1 (hx x hm).2) ▸ e.symm : s.take 2 = x.data.toList).symm⟩
   ·rintro ⟨x, hm, e⟩
    exact ⟨x, hm, ((take2_app hs _ (hx x hm).1 (hx x hm).2).symm ▸ e.symm : (s ++ 32 :: r).take 2 = x.data.toList).symm⟩
  rw [this]
 rw [hsym]
 split at h
 ·cases h
 ·rename_i h4
  rw [if_neg h4, htk _ (symN_le s hs)]
  exact h
theorem item_app {s : List UInt8} (hs : s ≠ []) (hb : ∀ k, item s ≠ .bad k) (r : List UInt8) : item (s ++ 32 :: r) = item s := by
 unfold item at hb ⊢
 rw [head_app hs]
 have e2 := take2_app (r := r) hs [40, 42] rfl (by simp)
 by_cases h1 : isB (s.head?.getD 0) = true
 ·rw [if_pos h1, if_pos h1]
 rw [if_neg h1] at hb ⊢
 rw [if_neg h1]
 by_cases h2 : s.take 2 = [40, 42]
 ·rw [if_pos h2] at hb
  rw [if_pos h2, if_pos (e2.symm ▸ h2)]
  have hc : cmt 0 0 s ≠ 0 := fun e => by rw [if_pos e] at hb; exact hb _ rfl
  rw [cmt_app _ _ _ _ _ nl hc]
 ·rw [if_neg h2] at hb
  rw [if_neg h2, if_neg (fun e => h2 (e2 ▸ e))]
  cases h3 : oneN s with
  | error k => rw [h3] at hb; exact absurd rfl (hb k)
  | ok x =>
    obtain ⟨t, n⟩ := x
    rw [oneN_app hs h3]
def lexF : Nat → List UInt8 → Option (List Tk)
 | 0, _ => none
 | f + 1, s => if s = [] then some [] else match item s with
   | .bad _ => none
   | .blank n => lexF f (s.drop n)
   | .tok t n => (lexF f (s.drop n)).map (t :: ·)
def lex (s : List UInt8) : Option (List Tk) := lexF (s.length + 1) s
theorem lexF_fuel : ∀ (m : Nat) (s : List UInt8) (f g : Nat), s.length ≤ m → s.length < f → s.length < g → lexF f s = lexF g s := by
 intro m
 induction m with
 | zero =>
   intro s f g hm hf hg
   have : s = [] := List.length_eq_zero_iff.1 (by omega)
   subst this
   rcases f with _ | f
   ·simp at hf
   rcases g with _ | g
   ·simp at hg
   rfl
 | succ m ih =>
   intro s f g hm hf hg
   rcases f with _ | f
   ·omega
   rcases g with _ | g
   ·omega
   unfold lexF
   by_cases hs : s = []
   ·rw [if_pos hs, if_pos hs]
   ·rw [if_neg hs, if_neg hs]
    obtain ⟨h1, h2⟩ := item_bd s hs
    cases h : item s with
    | bad k => rfl
    | blank n =>
      have := h1 n h
      exact ih _ _ _ (by rw [List.length_drop]; omega) (by rw [List.length_drop]; omega) (by rw [List.length_drop]; omega)
    | tok t n =>
      have := h2 t n h
      dsimp only
      rw [ih (s.drop n) f g (by rw [List.length_drop]; omega) (by rw [List.length_drop]; omega) (by rw [List.length_drop]; omega)]
theorem lex_nil : lex [] = some [] := rfl
theorem lex_step {s : List UInt8} (hs : s ≠ []) : lex s = match item s with
 | .bad _ => none
 | .blank n => lex (s.drop n)
 | .tok t n => (lex (s.drop n)).map (t :: ·) := by
 obtain ⟨h1, h2⟩ := item_bd s hs
 unfold lex
 rw [lexF, if_neg hs]
 cases h : item s with
 | bad k => rfl
 | blank n =>
   have := h1 n h
   exact lexF_fuel _ _ _ _ nl (by rw [List.length_drop]; omega) (by omega)
 | tok t n =>
   have := h2 t n h
   dsimp only
   rw [lexF_fuel _ (s.drop n) s.length ((s.drop n).length + 1) nl (by rw [List.length_drop]; omega) (by omega)]
theorem lex_blank {s : List UInt8} (hs : s ≠ []) {n : Nat} (h : item s = .blank n) : lex s = lex (s.drop n) := by rw [lex_step hs, h]
theorem lex_tok {s : List UInt8} (hs : s ≠ []) {t : Tk} {n : Nat} (h : item s = .tok t n) : lex s = (lex (s.drop n)).map (t :: ·) := by rw [lex_step hs, h]
theorem lex_sp (r : List UInt8) : lex (32 :: r) = lex r := by rw [lex_blank (s := 32 :: r) (n := 1) (by simp) (by rfl)]; rfl
theorem lex_app (r : List UInt8) : ∀ (m : Nat) (s : List UInt8) (l : List Tk), s.length ≤ m → lex s = some l → lex (s ++ 32 :: r) = (lex r).map (l ++ ·) := by
 intro m
 induction m with
 | zero =>
   intro s l hm h
   have : s = [] := List.length_eq_zero_iff.1 (by omega)
   subst this
   cases h
   rw [List.nil_append, lex_sp]
   all_goals (cases lex r <;> rfl)
 | succ m ih =>
   intro s l hm h
   by_cases hs : s = []
   ·subst hs
    cases h
    rw [List.nil_append, lex_sp]
    all_goals (cases lex r <;> rfl)
   ·obtain ⟨h1, h2⟩ := item_bd s hs
    have hne : s ++ 32 :: r ≠ [] := by simp
    have hb : ∀ k, item s ≠ .bad k := fun k e => by rw [lex_step hs, e] at h; cases h
    have hi := item_app hs hb r
    cases e : item s with
    | bad k => exact absurd e (hb k)
    | blank n =>
      have := h1 n e
      rw [lex_blank hs e] at h
      rw [lex_blank hne (hi.trans e), List.drop_append_of_le_length this.2]
      exact ih _ l (by rw [List.length_drop]; omega) h
    | tok t n =>
      have := h2 t n e
      rw [lex_tok hs e] at h
      rw [lex_tok hne (hi.trans e), List.drop_append_of_le_length this.2]
      cases e2 : lex (s.drop n) with
      | none => rw [e2] at h; cases h
      | some l2 =>
        rw [e2] at h
        cases h
        rw [ih _ l2 (by rw [List.length_drop]; omega) e2]
        all_goals (cases lex r <;> rfl)
theorem scan_lexF : ∀ (f i : Nat) (s : List UInt8), s.length < f → lexF f s = match scanF f i s with
 | .error _ => none
 | .ok l => some (l.dropLast.map (·.1)) := by
 intro f
 induction f with
 | zero => intro i s h; omega
 | succ f ih =>
   intro i s h
   unfold lexF scanF
   by_cases hs : s = []
   ·rw [if_pos hs, if_pos hs]; rfl
   ·rw [if_neg hs, if_neg hs]
    obtain ⟨h1, h2⟩ := item_bd s hs
    cases e : item s with
    | bad k => rfl
    | blank n =>
      have := h1 n e
      exact ih _ _ (by rw [List.length_drop]; omega)
    | tok t n =>
      have := h2 t n e
      dsimp only
      rw [ih (i + n) (s.drop n) (by rw [List.length_drop]; omega)]
      cases e2 : scanF f (i + n) (s.drop n) with
      | error k => rfl
      | ok l =>
        rcases l with _ | ⟨x, l⟩
        ·exfalso
         have hne : ∀ (f i : Nat) (s : List UInt8), scanF f i s ≠ .ok [] := by
          intro f
          induction f with
          | zero => intro i s; simp [scanF]
          | succ f ih =>
            intro i s
            unfold scanF
            split
            ·simp
            ·split
             ·simp
             ·exact ih _ _
             ·rename_i t n _
              intro e
              cases e3 : scanF f (i + n) (s.drop n) with
              | error k => rw [e3] at e; cases e
              | ok l => rw [e3] at e; injection e with e; cases e
         exact hne _ _ _ e2
        ·rfl
theorem scan_lex {s : List UInt8} (h : s.length ≤ 16384) : lex s = match scanL s with
 | .error _ => none
 | .ok l => some (l.dropLast.map (·.1)) := by
 unfold scanL
 rw [if_neg (by omega)]
 exact scan_lexF _ _ _ (by omega)
end Lx
end Go.Proofs.YtkemhmfdooghkaaGreatDoor
