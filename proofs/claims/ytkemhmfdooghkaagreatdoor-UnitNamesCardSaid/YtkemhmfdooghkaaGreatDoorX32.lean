import Derived.Test.YtkemhmfdooghkaaGreatDoorX23
set_option linter.unusedSimpArgs false
set_option linter.unusedVariables false
set_option maxRecDepth 100000
set_option maxHeartbeats 6400000
namespace Go.Proofs.YtkemhmfdooghkaaGreatDoor
namespace St
open Go.RowKit
open Tr (Nd Fo RepS RepN Rep cellsN)
open Lx (Tk noTk Blk run_store_complexL TokAt)
open Fl
open Ex
attribute [local go_sem] run_store_complexL run_field1 run_field3
theorem run_fieldY0 (v0 v1 v2 v3 v4 : Value) (w : World) : (Instr.field 40 (.agg #[v0, v1, v2, v3, v4]) 0).run Tryz.prog w = .ok v0 w := by
 kernel_rfl
structure S1 {β : Type} (w0 w wx : World) (br c : Nat) (A : Option Addr) (L : List PT) (res : Except Nat (β × Nat)) (p : Par β) (j : Nat) : Prop where
 pg : PG w0 w wx br A c L j
 eq : res = p L j
 le : j ≤ L.length
abbrev EK {β : Type} (res : Except Nat (β × Nat)) (w : World) (br : Nat) (K : Ending → World → Prop) : Prop := ∀ k w', Hid (res = .error k) → Hid (w.grownBy w' (some br)) → K (bad k) w'
def tkOf (k p1 p2 q1 q2 : Nat) (t : ByteArray) (n : Int) : PT := ((⟨k, t, n⟩ : Tk), (p1, p2), (q1, q2))
abbrev tkV (k p1 p2 q1 q2 : Nat) (t : ByteArray) (n : Int) : Value := .agg #[.int .u8 k, .complex .f64 (fl p1) (fl p2), .complex .f64 (fl q1) (fl q2), .string t, .int .i64 n]
section
variable {α β γ : Type} {w0 w wx w1 : World} {br c j : Nat} {A : Option Addr} {L : List PT} {res : Except Nat (β × Nat)} {K : Ending → World → Prop}
theorem S1.start {p : Par β} (h : PInv w0 w br A c L j) (hj : j ≤ L.length) (he : res = p L j) : S1 w0 w w br c A L res p j := ⟨PG.start h, he, hj⟩
theorem S1.of {p q : Par β} (S : S1 w0 w wx br c A L res p j) (h : p L j = q L j) : S1 w0 w wx br c A L res q j := ⟨S.pg, S.eq.trans h, S.le⟩
theorem S1.below {p : Par β} (S : S1 w0 w wx br c A L res p j) (hb : Below wx.heap.size wx w1) : S1 w0 w w1 br c A L res p j := ⟨S.pg.below hb, S.eq, S.le⟩
theorem S1.need {p : Par β} {s : ByteArray} (S : S1 w0 w wx br c A L res (needF s p) j) (ht : TkS w0 br A L) (E : EK res w br K)
 (C : ∀ w', Hid (S1 w0 w w' br c A L res p (j + 1)) → Hid (wx.grownBy w' (some br)) → K (.returned (.tuple #[])) w') :
 Calls Tryz.prog 134 #[.pointer (some ⟨br, 0, none⟩), .string s] wx K := by
 have hl := ht.toks.len
 have hj := S.le
 cases hT : isT L j s with
 | false =>
   refine (need_no ht.toks (i := j) (by omega) s _ S.pg.1 hT).mono ?_
   rintro e w' ⟨rfl, hb⟩
   exact E j w' (qh (S.eq.trans (need_n hT))) (qh (grown_trans S.pg.2 hb))
 | true =>
   have hjn := isT_lt hT
   refine (need_ok ht.toks (i := j) (by omega) s _ S.pg.1 hT).mono ?_
   rintro e w' ⟨rfl, hb⟩
   exact C w' (qh ⟨S.pg.trans hb, S.eq.trans (need_y hT), hjn⟩) (qh hb.2)
theorem S1.eat {a : PT → Par β} {b : Par β} {s : ByteArray} (S : S1 w0 w wx br c A L res (tokP (tT s) a b) j) (ht : TkS w0 br A L)
 (Y : ∀ w', Hid (S1 w0 w w' br c A L res (a (tk L j)) (j + 1)) → Hid (wx.grownBy w' (some br)) → Hid (isT L j s = true) → K (.returned (.bool true)) w')
 (N : ∀ w', Hid (S1 w0 w w' br c A L res b j) → Hid (wx.grownBy w' (some br)) → Hid (isT L j s = false) → K (.returned (.bool false)) w') :
 Calls Tryz.prog 118 #[.pointer (some ⟨br, 0, none⟩), .string s] wx K := by
 have hl := ht.toks.len
 have hj := S.le
 cases hT : isT L j s with
 | false =>
   refine (eat_no ht.toks (i := j) (by omega) s _ S.pg.1 hT).mono ?_
   rintro e w' ⟨rfl, hb⟩
   exact N w' (qh ⟨S.pg.trans hb, S.eq.trans (tok_n (t := tT s) hT), hj⟩) (qh hb.2) (qh hT)
 | true =>
   have hjn := isT_lt hT
   refine (eat_yes ht.toks (i := j) (by omega) s _ S.pg.1 hT).mono ?_
   rintro e w' ⟨rfl, hb⟩
   exact Y w' (qh ⟨S.pg.trans hb, S.eq.trans (tok_y (t := tT s) hT), hjn⟩) (qh hb.2) (qh hT)
theorem S1.eatb {a : PT → Par β} {b : Par β} {s : ByteArray} (S : S1 w0 w wx br c A L res (tokP (tT s) a b) j) (ht : TkS w0 br A L)
 (C : ∀ v j' w', Hid (v = isT L j s) → (j ≤ j' ∧ (v = true → j < j')) → Hid (S1 w0 w w' br c A L res (match v with | true => a (tk L j) | false => b) j') → Hid (wx.grownBy w' (some br)) → K (.returned (.bool v)) w') :
 Calls Tryz.prog 118 #[.pointer (some ⟨br, 0, none⟩), .string s] wx K :=
 S.eat ht (fun w' h hg hT => C true _ w' (qh hT.out.symm) ⟨Nat.le_succ _, fun _ => Nat.lt_succ_self _⟩ h hg) (fun w' h hg hT => C false _ w' (qh hT.out.symm) ⟨Nat.le_refl _, fun h => by cases h⟩ h hg)
theorem S1.is {p : Par β} {s : ByteArray} (S : S1 w0 w wx br c A L res p j) (ht : TkS w0 br A L)
 (C : ∀ w', Hid (S1 w0 w w' br c A L res p j) → Hid (wx.grownBy w' (some br)) → K (.returned (.bool (isT L j s))) w') :
 Calls Tryz.prog 135 #[.pointer (some ⟨br, 0, none⟩), .string s] wx K := by
 have hl := ht.toks.len
 have hj := S.le
 refine (is_any ht.toks (i := j) (by omega) s _ S.pg.1).mono ?_
 rintro e w' ⟨rfl, hb⟩
 exact C w' (qh (S.below hb)) (qh (grown_of_below hb _))
theorem S1.now {q : PT → Par β} (S : S1 w0 w wx br c A L res (posP q) j) (ht : TkS w0 br A L)
 (C : ∀ k p1 p2 q1 q2 t n w', Hid (tk L j = tkOf k p1 p2 q1 q2 t n) → Hid (S1 w0 w w' br c A L res (q (tkOf k p1 p2 q1 q2 t n)) j) → Hid (wx.grownBy w' (some br)) → K (.returned (tkV k p1 p2 q1 q2 t n)) w') :
 Calls Tryz.prog 107 #[.pointer (some ⟨br, 0, none⟩)] wx K := by
 have hl := ht.toks.len
 have hj := S.le
 obtain ⟨k, p1, p2, q1, q2, t, n, e1, e2⟩ := val_form (tk L j)
 refine (now_any ht.toks (i := j) (by omega) _ S.pg.1).mono ?_
 rintro e w' ⟨rfl, hb⟩
 rw [e2]
 exact C k p1 p2 q1 q2 t n w' (qh e1) (qh ⟨S.pg.below hb, S.eq.trans (by show q (tk L j) L j = _; rw [e1]; rfl), hj⟩) (qh (grown_of_below hb _))
theorem S1.now' {p : Par β} (S : S1 w0 w wx br c A L res p j) (ht : TkS w0 br A L)
 (C : ∀ k p1 p2 q1 q2 t n w', Hid (tk L j = tkOf k p1 p2 q1 q2 t n) → Hid (S1 w0 w w' br c A L res p j) → Hid (wx.grownBy w' (some br)) → K (.returned (tkV k p1 p2 q1 q2 t n)) w') :
 Calls Tryz.prog 107 #[.pointer (some ⟨br, 0, none⟩)] wx K :=
 S1.now (q := fun _ => p) ⟨S.pg, S.eq, S.le⟩ ht C
theorem S1.tree {P : Par T1} {q : T1 → Par β} {F : Nat} {args : Array Value} (S : S1 w0 w wx br c A L res (bindP P q) j) (D : Calls Tryz.prog F args wx (TreeR wx.heap.size w0 wx br A c L (P L j))) (G : Good2 P) (E : EK res w br K)
 (C : ∀ x b j' w', j ≤ j' → Hid (S1 w0 w w' br c A L res (q x) j') → Hid (wx.grownBy w' (some br)) → Hid (RepS (fun y => wx.heap.size ≤ y) w' (.node x.1 x.2 .no) [.pointer (some ⟨b, 0, none⟩)]) → K (.returned (.pointer (some ⟨b, 0, none⟩))) w') :
 Calls Tryz.prog F args wx K := by
 have hm := g2_max G L j
 cases hx : P L j with
 | error k =>
   rw [hx] at D
   refine D.mono ?_
   rintro e w' ⟨rfl, hb⟩
   exact E k w' (qh (S.eq.trans (bind_err hx))) (qh (grown_trans S.pg.2 hb))
 | ok r =>
   obtain ⟨x, j'⟩ := r
   rw [hx] at D hm
   refine D.mono ?_
   rintro e w' ⟨b, rfl, hp, hg, hr⟩
   exact C x b j' w' hm.1 (qh ⟨S.pg.trans ⟨hp, hg⟩, S.eq.trans (bind_ok hx), hm.2.1 S.le⟩) (qh hg) (qh hr)
theorem S1.treeD {P : Par T1} {q : T1 → Par β} {F : Nat} {args : Array Value} (S : S1 w0 w wx br c A L res (bindP P q) j) (D : Calls Tryz.prog F args wx (TreeR wx.heap.size w0 wx br A c L (P L j))) (G : Good2 P) :
 Calls Tryz.prog F args wx (fun e w' => (∃ k, e = bad k ∧ Hid (res = .error k) ∧ Hid (w.grownBy w' (some br))) ∨ ∃ x b j', e = .returned (.pointer (some ⟨b, 0, none⟩)) ∧ j ≤ j' ∧ Hid (S1 w0 w w' br c A L res (q x) j') ∧ Hid (wx.grownBy w' (some br)) ∧ Hid (RepS (fun y => wx.heap.size ≤ y) w' (.node x.1 x.2 .no) [.pointer (some ⟨b, 0, none⟩)])) :=
 S.tree D G (fun k w' h hg => .inl ⟨k, rfl, h, hg⟩) (fun x b j' w' h1 h2 h3 h4 => .inr ⟨x, b, j', rfl, h1, h2, h3, h4⟩)
theorem S1.doneT {x : T1} {b : Nat} {res : Except Nat (T1 × Nat)} (S : S1 w0 w wx br c A L res (retP x) j) (h : RepS (fun y => w.heap.size ≤ y) wx (.node x.1 x.2 .no) [.pointer (some ⟨b, 0, none⟩)]) : TreeR w.heap.size w0 w br A c L res (.returned (.pointer (some ⟨b, 0, none⟩))) wx := by
 rw [S.eq]
 exact ⟨b, rfl, S.pg.1, S.pg.2, h⟩
theorem S1.errT {res : Except Nat (T1 × Nat)} {k : Nat} (h : res = .error k) (hg : w.grownBy w1 (some br)) (B : Nat) : TreeR B w0 w br A c L res (bad k) w1 := by
 rw [h]; exact ⟨rfl, hg⟩
theorem S1.inc {a : PT → Par β} {b : Par β} {t : PT → Bool} (S : S1 w0 w wx br c A L res (tokP t a b) j) (hT : t (tk L j) = true) (h0 : t noPT = false) : S1 w0 w (wx.setCell ⟨br, 1, none⟩ (.int .i64 (j + 1 : Nat))) br c A L res (a (tk L j)) (j + 1) := by
 refine ⟨⟨(S.pg.1.set_ (j + 1)).1, grown_trans S.pg.2 (S.pg.1.set_ (j + 1)).2⟩, S.eq.trans (tok_y hT), ?_⟩
 rcases Nat.lt_or_ge j L.length with h | h
 ·exact h
 ·rw [tk_end h, h0] at hT; cases hT
theorem S1.yes {p q : Par β} {k : Prop} [Decidable k] (S : S1 w0 w wx br c A L res (if k then p else q) j) (h : k) : S1 w0 w wx br c A L res p j := by rw [if_pos h] at S; exact S
theorem S1.no {p q : Par β} {k : Prop} [Decidable k] (S : S1 w0 w wx br c A L res (if k then p else q) j) (h : ¬ k) : S1 w0 w wx br c A L res q j := by rw [if_neg h] at S; exact S
end
section
variable {α β γ : Type} {p : Par α} {q : α → Par β} {r : β → Par γ} {s : ByteArray} {t : PT → Bool}
theorem sb_assoc : bindP (bindP p q) r = bindP p (fun x => bindP (q x) r) := by
 funext L i; unfold bindP; cases p L i <;> rfl
theorem sb_tok {A : PT → Par α} {B : Par α} : bindP (tokP t A B) q = tokP t (fun u => bindP (A u) q) (bindP B q) := by
 funext L i; unfold bindP tokP
 by_cases h : t (tk L i) = true
 ·simp only [if_pos h]
 ·simp only [if_neg h]
theorem sb_need : bindP (needF s p) q = needF s (bindP p q) := by
 unfold needF; rw [sb_tok]; rfl
theorem sb_ret {a : α} : bindP (retP a) q = q a := by funext L i; rfl
theorem sb_pos {f : PT → Par α} : bindP (posP f) q = posP fun t => bindP (f t) q := by funext L i; rfl
theorem sb_ite {k : Prop} [Decidable k] {p' : Par α} : bindP (if k then p else p') q = if k then bindP p q else bindP p' q := by split <;> rfl
end
section
variable {β : Type} {w0 w wq w1 : World} {br c i' j b : Nat} {A : Option Addr} {L : List PT} {res : Except Nat (β × Nat)} {p : Par β}
theorem S1.hung {u : Value} {row : Option Nat} (S : S1 w0 w wq br c A L res p j) (hw : PInv w0 w br A c L i') (o : Obj) (hg : (wq.alloc o).grownBy w1 row) (hr : ∀ k, row = some k → w.heap.size ≤ k) (hb : w.heap.size ≤ b) : S1 w0 w (w1.setCell ⟨b, 4, none⟩ u) br c A L res p j :=
 ⟨S.pg.hung hw o hg hr hb, S.eq, S.le⟩
variable {ops : Array Oper} {rest : List Oper} {o : Oper} {a : Act} {Q : Exit → Act → World → Prop}
theorem step_pushKn {K : Act → World → Prop} {E : Prop} (hgd : o.guard = none) (s x : Operand) (ho : o.op = .call { callee := .builtin .append, args := #[s, x], argTypes := #[36, 36] })
 {b m n : Nat} {d : Nd} {sv : Value} {acc l : List T1} {xs vs : List Value} (S : S1 w0 w wq br c A L res p j) (H0 : PInv w0 w br A c L i')
 (h : KG w.heap.size w.heap.size wq b d sv acc xs) (hl : acc.length ≤ 900000) (ht : RepS (fun y => w.heap.size ≤ y ∧ y ≠ b ∧ sv.ownBlock ≠ some y) wq (forest l) vs) (hn : vs.length = n) (hln : l.length = n) (hn0 : 0 < n) (hn9 : n ≤ 1000) (hv : ∀ v ∈ vs, v.oneCell' = true)
 (hs : a.eval s = sv) (hx : a.eval x = .slice (some ⟨m, 0, none⟩) n n) (hm : wq.heap.size = m)
 (hK : ∀ g cap xs' w', w'.cell? ⟨b, 4, none⟩ = some sv → w'.frozen? ⟨b, 4, none⟩ = false → b < w'.heap.size → Hid (S1 w0 w (w'.setCell ⟨b, 4, none⟩ (.slice (some ⟨g, 0, none⟩) (acc.length + n) cap)) br c A L res p j) →
   Hid (KG w.heap.size w.heap.size (w'.setCell ⟨b, 4, none⟩ (.slice (some ⟨g, 0, none⟩) (acc.length + n) cap)) b d (.slice (some ⟨g, 0, none⟩) (acc.length + n) cap) (acc ++ l) xs') → K (a.put o.dst (.slice (some ⟨g, 0, none⟩) (acc.length + n) cap)) w') :
 if Region.wanted o (yielded ops a.tmps) = true then Oper.wp Tryz.prog o a (wq.alloc (.cells vs.toArray 31)) K Q else E := by
 subst hm
 obtain ⟨i0, hi0, hz0, hz1, hz2⟩ := info_parts infoN
 have hlen := h.len
 have Q9 := kid_facts (cs := vs.toArray) wq.heap.size rfl (Nat.le_trans h.kn.low (Nat.le_of_lt h.kn.blk.lt)) h.kn.own (by omega) (by simpa using hv) (by simp; omega)
 obtain ⟨q1, q2, q3, q4, q5⟩ := Q9.out
 simp only [List.size_toArray] at q1 q2 q3
 refine step_append_lies _ hgd s x _ ho w.heap.size 31 i0 _ 1 8 Tryz.underlying36 hi0 hz0 hz1 hz2 rfl (by omega) sv xs.length xs hs q5 ⟨wq.heap.size, 0, none⟩ n n vs hx (by omega) (by simpa using q1) hv hn0 (by omega) (by omega) q4 (wq.heap.size + 1) (by rw [World.size_alloc]) ?_
 intro g cap w' hown hgrow hor hlt
 obtain ⟨s4, s4f, hb5⟩ := KN.after (h.kn.below ((Below.refl _ _).alloc nl _)) hgrow
 rw [← hlen] at hK
 exact hK g cap _ w' s4 s4f hb5 (qh (S.hung H0 _ hgrow (fun k e => (h.kn.own.lt _ e).1) h.kn.low)) (qh (KG.steps (l := l) (h.below ((Below.refl _ _).alloc nl _)) (ht.below ((Below.refl _ _).alloc nl _)) (by omega) (by omega) hown hgrow (hor.imp id fun e => e.trans (World.size_alloc _ _).symm)))
end
end St
namespace St
open Go.RowKit
open Tr (Nd Fo RepS RepN Rep cellsN)
open Lx (Tk noTk Blk run_store_complexL TokAt)
open Fl
open Ex
attribute [local go_sem] run_store_complexL run_fieldY0 run_field1 run_field3
abbrev TyS (F : Nat) (p : Par T1) (lo : Nat) (w0 : World) (br : Nat) (A : Option Addr) (c : Nat) (L : List PT) : Prop :=
 ∀ j, lo ≤ j → j ≤ L.length → ∀ w, PInv w0 w br A c L j → Calls Tryz.prog F #[.pointer (some ⟨br, 0, none⟩)] w (TreeR w.heap.size w0 w br A c L (p L j))
theorem ended_y {w0 : World} {br c : Nat} {A : Option Addr} {L : List PT} (ht : TkS w0 br A L) {bd : Par T1} (hbd : Good2 bd) {lo : Nat} (HBd : Hid (TyS 97 bd lo w0 br A c L)) (i : Nat) (hlo : lo ≤ i) (hi : i ≤ L.length) (w : World) (h : PInv w0 w br A c L i) :
 Calls Tryz.prog 138 #[.pointer (some ⟨br, 0, none⟩)] w (TreeR w.heap.size w0 w br A c L (endedF bd L i)) := by
 have hbr := h.row.lt
 have H0 := qh h
 have HT := qh ht
 obtain ⟨res, hs0⟩ : ∃ r, r = endedF bd L i := ⟨_, rfl⟩
 rw [← hs0]
 have S := qh (S1.start h hi hs0)
 clear h ht hs0 hi
 go_enter Tryz.func138, Tryz.ntmps138
 unfold endedF at S
 have HZ := qh S.out.pg.2.size
 go_wp2_with fail
 (with_reducible refine S.out.tree (HBd.out _ (by omega) S.out.le _ S.out.pg.1) (hbd) ?_ ?_)
 ·intro k w1 h hg; go_wp2; exact ⟨rfl, S1.errT h.out hg.out _⟩
 clear S
 intro x bx j1 wx hj1 S hg Hx
 have Hx := qh (Hx.out.more (S' := fun y => w.heap.size ≤ y) fun y hy _ => Nat.le_trans HZ.out hy)
 clear HZ
 go_wp2_with fail
 (with_reducible refine S.out.need HT.out ?_ ?_)
 ·intro k w1 h hg; go_wp2; exact ⟨rfl, S1.errT h.out hg.out _⟩
 clear S
 intro wx S hg
 have Hx := qh (repS_grown Hx.out hg.out hbr)
 go_wp2
 go_ret
 exact S.out.doneT Hx.out
theorem whiles_y {g : Nat} {w0 : World} {br c : Nat} {A : Option Addr} {L : List PT} (ht : TkS w0 br A L) (hgL : L.length < g) {bd : Par T1} (hbd : Good2 bd) {lo : Nat} (HBd : Hid (TyS 97 bd lo w0 br A c L)) (i : Nat) (hlo : lo ≤ i) (hi : i ≤ L.length) (p1 p2 : Nat) (w : World) (h : PInv w0 w br A c L i) :
 Calls Tryz.prog 110 #[.pointer (some ⟨br, 0, none⟩), .complex .f64 (fl p1) (fl p2)] w (TreeR w.heap.size w0 w br A c L (whileS g bd (p1, p2) L i)) := by
 have hbr := h.row.lt
 have H0 := qh h
 have HT := qh ht
 obtain ⟨res, hs0⟩ : ∃ r, r = whileS g bd (p1, p2) L i := ⟨_, rfl⟩
 rw [← hs0]
 have S := qh (S1.start h hi hs0)
 clear h ht hs0 hi
 go_enter Tryz.func110, Tryz.ntmps110
 unfold whileS at S
 have HZ := qh S.out.pg.2.size
 go_wp2_with fail
 (with_reducible refine S.out.tree (expr_s HT.out hgL _ (by have := S.out.le; have := HT.out.toks.len; omega) _ S.out.pg.1) (g2_expr (g := g)) ?_ ?_)
 ·intro k w1 h hg; go_wp2; exact ⟨rfl, S1.errT h.out hg.out _⟩
 clear S
 intro x bx j1 wx hj1 S hg Hx
 have Hx := qh (Hx.out.more (S' := fun y => w.heap.size ≤ y) fun y hy _ => Nat.le_trans HZ.out hy)
 clear HZ
 go_wp2_with fail
 (with_reducible refine S.out.need HT.out ?_ ?_)
 ·intro k w1 h hg; go_wp2; exact ⟨rfl, S1.errT h.out hg.out _⟩
 clear S
 intro wx S hg
 have Hx := qh (repS_grown Hx.out hg.out hbr)
 have S := qh (S.out.of (endedF_then (f := fun b => [x, b])))
 have HZ := qh S.out.pg.2.size
 go_wp2_with fail
 (with_reducible refine S.out.tree (ended_y HT.out hbd HBd _ (by omega) S.out.le _ S.out.pg.1) (g2_endedF hbd) ?_ ?_)
 ·intro k w1 h hg; go_wp2; exact ⟨rfl, S1.errT h.out hg.out _⟩
 clear S
 intro y b_y j2 wx hj2 S hg Hy
 have Hx := qh (repS_grown Hx.out hg.out hbr)
 have Hy := qh (Hy.out.more (S' := fun y => w.heap.size ≤ y) fun y hy _ => Nat.le_trans HZ.out hy)
 clear HZ
 have NW := qh (new_lit (B := w.heap.size) (w := wx) S.out.pg.2.size 64 64 rfl p1 p2 sNil [.pointer (some ⟨bx, 0, none⟩), .pointer (some ⟨b_y, 0, none⟩)] [x, y] wx.heap.size rfl 2 rfl (by decide) (repN_of (repS_cons Hx.out Hy.out)))
 go_wp2_with fail
 ((with_reducible refine NW.out.mono ?_); rintro e wy ⟨b, rfl, hb, hr⟩)
 have Hb := qh hr
 have S := qh (S.out.below hb)
 clear hb hr NW
 go_wp2
 go_ret
 exact S.out.doneT Hb.out
theorem repeats_y {g : Nat} {w0 : World} {br c : Nat} {A : Option Addr} {L : List PT} (ht : TkS w0 br A L) (hgL : L.length < g) {bd : Par T1} (hbd : Good2 bd) {lo : Nat} (HBd : Hid (TyS 97 bd lo w0 br A c L)) (i : Nat) (hlo : lo ≤ i) (hi : i ≤ L.length) (p1 p2 : Nat) (w : World) (h : PInv w0 w br A c L i) :
 Calls Tryz.prog 111 #[.pointer (some ⟨br, 0, none⟩), .complex .f64 (fl p1) (fl p2)] w (TreeR w.heap.size w0 w br A c L (repS g bd (p1, p2) L i)) := by
 have hbr := h.row.lt
 have H0 := qh h
 have HT := qh ht
 obtain ⟨res, hs0⟩ : ∃ r, r = repS g bd (p1, p2) L i := ⟨_, rfl⟩
 rw [← hs0]
 have S := qh (S1.start h hi hs0)
 clear h ht hs0 hi
 go_enter Tryz.func111, Tryz.ntmps111
 unfold repS at S
 have HZ := qh S.out.pg.2.size
 go_wp2_with fail
 (with_reducible refine S.out.tree (HBd.out _ (by omega) S.out.le _ S.out.pg.1) (hbd) ?_ ?_)
 ·intro k w1 h hg; go_wp2; exact ⟨rfl, S1.errT h.out hg.out _⟩
 clear S
 intro x bx j1 wx hj1 S hg Hx
 have Hx := qh (Hx.out.more (S' := fun y => w.heap.size ≤ y) fun y hy _ => Nat.le_trans HZ.out hy)
 clear HZ
 go_wp2_with fail
 (with_reducible refine S.out.need HT.out ?_ ?_)
 ·intro k w1 h hg; go_wp2; exact ⟨rfl, S1.errT h.out hg.out _⟩
 clear S
 intro wx S hg
 have Hx := qh (repS_grown Hx.out hg.out hbr)
 have HZ := qh S.out.pg.2.size
 go_wp2_with fail
 (with_reducible refine S.out.tree (expr_s HT.out hgL _ (by have := S.out.le; have := HT.out.toks.len; omega) _ S.out.pg.1) (g2_expr (g := g)) ?_ ?_)
 ·intro k w1 h hg; go_wp2; exact ⟨rfl, S1.errT h.out hg.out _⟩
 clear S
 intro y b_y j2 wx hj2 S hg Hy
 have Hx := qh (repS_grown Hx.out hg.out hbr)
 have Hy := qh (Hy.out.more (S' := fun y => w.heap.size ≤ y) fun y hy _ => Nat.le_trans HZ.out hy)
 clear HZ
 have NW := qh (new_lit (B := w.heap.size) (w := wx) S.out.pg.2.size 65 65 rfl p1 p2 sNil [.pointer (some ⟨bx, 0, none⟩), .pointer (some ⟨b_y, 0, none⟩)] [x, y] wx.heap.size rfl 2 rfl (by decide) (repN_of (repS_cons Hx.out Hy.out)))
 go_wp2_with fail
 ((with_reducible refine NW.out.mono ?_); rintro e wy ⟨b, rfl, hb, hr⟩)
 have Hb := qh hr
 have S := qh (S.out.below hb)
 clear hb hr NW
 go_wp2
 go_ret
 exact S.out.doneT Hb.out
theorem loops_y {w0 : World} {br c : Nat} {A : Option Addr} {L : List PT} (ht : TkS w0 br A L) {bd : Par T1} (hbd : Good2 bd) {lo : Nat} (HBd : Hid (TyS 97 bd lo w0 br A c L)) (i : Nat) (hlo : lo ≤ i) (hi : i ≤ L.length) (p1 p2 : Nat) (w : World) (h : PInv w0 w br A c L i) :
 Calls Tryz.prog 112 #[.pointer (some ⟨br, 0, none⟩), .complex .f64 (fl p1) (fl p2)] w (TreeR w.heap.size w0 w br A c L (loopS bd (p1, p2) L i)) := by
 have hbr := h.row.lt
 have H0 := qh h
 have HT := qh ht
 obtain ⟨res, hs0⟩ : ∃ r, r = loopS bd (p1, p2) L i := ⟨_, rfl⟩
 rw [← hs0]
 have S := qh (S1.start h hi hs0)
 clear h ht hs0 hi
 go_enter Tryz.func112, Tryz.ntmps112
 unfold loopS at S
 have S := qh (S.out.of (endedF_then (f := fun b => [b])))
 have HZ := qh S.out.pg.2.size
 go_wp2_with fail
 (with_reducible refine S.out.tree (ended_y HT.out hbd HBd _ (by omega) S.out.le _ S.out.pg.1) (g2_endedF hbd) ?_ ?_)
 ·intro k w1 h hg; go_wp2; exact ⟨rfl, S1.errT h.out hg.out _⟩
 clear S
 intro y b_y j2 wx hj2 S hg Hy
 have Hy := qh (Hy.out.more (S' := fun y => w.heap.size ≤ y) fun y hy _ => Nat.le_trans HZ.out hy)
 clear HZ
 have NW := qh (new_lit (B := w.heap.size) (w := wx) S.out.pg.2.size 66 66 rfl p1 p2 sNil [.pointer (some ⟨b_y, 0, none⟩)] [y] wx.heap.size rfl 1 rfl (by decide) (repN_of Hy.out))
 go_wp2_with fail
 ((with_reducible refine NW.out.mono ?_); rintro e wy ⟨b, rfl, hb, hr⟩)
 have Hb := qh hr
 have S := qh (S.out.below hb)
 clear hb hr NW
 go_wp2
 go_ret
 exact S.out.doneT Hb.out
theorem exits_y {w0 : World} {br c : Nat} {A : Option Addr} {L : List PT} (ht : TkS w0 br A L) (i : Nat) (hi : i ≤ L.length) (p1 p2 : Nat) (w : World) (h : PInv w0 w br A c L i) :
 Calls Tryz.prog 113 #[.pointer (some ⟨br, 0, none⟩), .complex .f64 (fl p1) (fl p2)] w (TreeR w.heap.size w0 w br A c L (exitS (p1, p2) L i)) := by
 have hbr := h.row.lt
 have H0 := qh h
 have HT := qh ht
 obtain ⟨res, hs0⟩ : ∃ r, r = exitS (p1, p2) L i := ⟨_, rfl⟩
 rw [← hs0]
 have S := qh (S1.start h hi hs0)
 clear h ht hs0 hi
 go_enter Tryz.func113, Tryz.ntmps113
 unfold exitS at S
 have NW := qh (new_0 (B0 := w.heap.size) (w := w) S.out.pg.2.size 67 67 rfl p1 p2 sNil 0)
 go_wp2_with fail
 ((with_reducible refine NW.out.mono ?_); rintro e wy ⟨b, sv0, xs0, rfl, hb, hk⟩)
 have Hb := qh (show RepS (fun y => w.heap.size ≤ y) wy (.node (mk 67 (p1, p2) sNil 0 []).1 (mk 67 (p1, p2) sNil 0 []).2 .no) [.pointer (some ⟨b, 0, none⟩)] from hk.done nl)
 have S := qh (S.out.below hb)
 clear hb hk NW
 go_wp2
 go_ret
 exact S.out.doneT Hb.out
theorem withs_y {g : Nat} {w0 : World} {br c : Nat} {A : Option Addr} {L : List PT} (ht : TkS w0 br A L) (hgL : L.length < g) {bd : Par T1} (hbd : Good2 bd) {lo : Nat} (HBd : Hid (TyS 97 bd lo w0 br A c L)) (i : Nat) (hlo : lo ≤ i) (hi : i ≤ L.length) (p1 p2 : Nat) (w : World) (h : PInv w0 w br A c L i) :
 Calls Tryz.prog 115 #[.pointer (some ⟨br, 0, none⟩), .complex .f64 (fl p1) (fl p2)] w (TreeR w.heap.size w0 w br A c L (withS g bd (p1, p2) L i)) := by
 have hbr := h.row.lt
 have H0 := qh h
 have HT := qh ht
 obtain ⟨res, hs0⟩ : ∃ r, r = withS g bd (p1, p2) L i := ⟨_, rfl⟩
 rw [← hs0]
 have S := qh (S1.start h hi hs0)
 clear h ht hs0 hi
 go_enter Tryz.func115, Tryz.ntmps115
 unfold withS at S
 have HZ := qh S.out.pg.2.size
 go_wp2_with fail
 (with_reducible refine S.out.tree (of_D HT.out hgL _ (by have := S.out.le; have := HT.out.toks.len; omega) _ S.out.pg.1) (g2_design (g := g)) ?_ ?_)
 ·intro k w1 h hg; go_wp2; exact ⟨rfl, S1.errT h.out hg.out _⟩
 clear S
 intro x bx j1 wx hj1 S hg Hx
 have Hx := qh (Hx.out.more (S' := fun y => w.heap.size ≤ y) fun y hy _ => Nat.le_trans HZ.out hy)
 clear HZ
 go_wp2_with fail
 (with_reducible refine S.out.need HT.out ?_ ?_)
 ·intro k w1 h hg; go_wp2; exact ⟨rfl, S1.errT h.out hg.out _⟩
 clear S
 intro wx S hg
 have Hx := qh (repS_grown Hx.out hg.out hbr)
 have S := qh (S.out.of (endedF_then (f := fun b => [x, b])))
 have HZ := qh S.out.pg.2.size
 go_wp2_with fail
 (with_reducible refine S.out.tree (ended_y HT.out hbd HBd _ (by omega) S.out.le _ S.out.pg.1) (g2_endedF hbd) ?_ ?_)
 ·intro k w1 h hg; go_wp2; exact ⟨rfl, S1.errT h.out hg.out _⟩
 clear S
 intro y b_y j2 wx hj2 S hg Hy
 have Hx := qh (repS_grown Hx.out hg.out hbr)
 have Hy := qh (Hy.out.more (S' := fun y => w.heap.size ≤ y) fun y hy _ => Nat.le_trans HZ.out hy)
 clear HZ
 have NW := qh (new_lit (B := w.heap.size) (w := wx) S.out.pg.2.size 69 69 rfl p1 p2 sNil [.pointer (some ⟨bx, 0, none⟩), .pointer (some ⟨b_y, 0, none⟩)] [x, y] wx.heap.size rfl 2 rfl (by decide) (repN_of (repS_cons Hx.out Hy.out)))
 go_wp2_with fail
 ((with_reducible refine NW.out.mono ?_); rintro e wy ⟨b, rfl, hb, hr⟩)
 have Hb := qh hr
 have S := qh (S.out.below hb)
 clear hb hr NW
 go_wp2
 go_ret
 exact S.out.doneT Hb.out
end St
end Go.Proofs.YtkemhmfdooghkaaGreatDoor
