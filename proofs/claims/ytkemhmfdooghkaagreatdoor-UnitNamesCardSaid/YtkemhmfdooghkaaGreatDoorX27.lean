import Derived.Test.YtkemhmfdooghkaaGreatDoorX25
set_option linter.unusedSimpArgs false
set_option linter.unusedVariables false
set_option maxRecDepth 100000
set_option maxHeartbeats 6400000
namespace Go.Proofs.YtkemhmfdooghkaaGreatDoor
namespace De
open Go.RowKit
open Tr (Nd Fo RepS RepN Rep cellsN)
open Lx (Tk noTk Blk run_store_complexL TokAt)
open Fl
open Ex
open St (TkS g2_max g2_expr g2_labels Good2 isNm KG KN new_kg new_0 kid_facts one_ptr bind_ok bind_err need_y need_n tok_y tok_n ret_ add_block sSem sCol sEnd sOf sBar sElse sCase sTo armOut isWd6)
structure S1 {β : Type} (w0 w wx : World) (br c : Nat) (A : Option Addr) (L : List PT) (res : Except Nat (β × Nat)) (p : Par β) (j : Nat) : Prop where
 pg : PG w0 w wx br A c L j
 eq : res = p L j
 le : j ≤ L.length
abbrev EK {β : Type} (res : Except Nat (β × Nat)) (w : World) (br : Nat) (K : Ending → World → Prop) : Prop := ∀ k w', Hid (res = .error k) → Hid (w.grownBy w' (some br)) → K (bad k) w'
def tkOf (k p1 p2 q1 q2 : Nat) (t : ByteArray) (n : Int) : PT := ((⟨k, t, n⟩ : Tk), (p1, p2), (q1, q2))
abbrev tkV (k p1 p2 q1 q2 : Nat) (t : ByteArray) (n : Int) : Value := .agg #[.int .u8 k, .complex .f64 (fl p1) (fl p2), .complex .f64 (fl q1) (fl q2), .string t, .int .i64 n]
section
variable {α β γ : Type} {w0 w wx w1 : World} {br c j : Nat} {A : Option Addr} {L : List PT} {res : Except Nat (β × Nat)} {K : Ending → World → Prop}
theorem S1.start {p : Par β} (h : PInv w0 w br A c L j) (hj : j ≤ L.length) (he : res = p L j) : S1 w0 w w br c A L res p j := ⟨PG.start h, he, hj⟩
theorem S1.of {p q : Par β} (S : S1 w0 w wx br c A L res p j) (h : p L j = q L j) : S1 w0 w wx br c A L res q j := ⟨S.pg, S.eq.trans h, S.le⟩
theorem S1.below {p : Par β} (S : S1 w0 w wx br c A L res p j) (hb : Below wx.heap.size wx w1) : S1 w0 w w1 br c A L res p j := ⟨S.pg.below hb, S.eq, S.le⟩
theorem S1.base {p : Par β} (S : S1 w0 w wx br c A L res p j) : S1 w0 wx wx br c A L res p j := ⟨PG.start S.pg.1, S.eq, S.le⟩
theorem S1.need {p : Par β} {s : ByteArray} (S : S1 w0 w wx br c A L res (needF s p) j) (ht : TkS w0 br A L) {m : Nat} (hm : wx.heap.size = m) (E : EK res w br K)
 (C : ∀ w', Hid (S1 w0 w w' br c A L res p (j + 1)) → Hid (wx.grownBy w' (some br)) → K (.returned (.tuple #[])) w') :
 Calls Tryz.prog 79 #[.pointer (some ⟨br, 0, none⟩), .slice (some ⟨m, 0, none⟩) 1 1] (wx.alloc (.cells #[.string s] 9)) K := by
 have hl := ht.toks.len
 have hj := S.le
 cases hT : isT L j s with
 | false =>
   refine (need_no ht.toks (i := j) (by omega) s _ S.pg.1 hT m hm).mono ?_
   rintro e w' ⟨rfl, hb⟩
   exact E j w' (qh (S.eq.trans (need_n hT))) (qh (grown_trans S.pg.2 hb))
 | true =>
   have hjn := isT_lt hT
   refine (need_ok ht.toks (i := j) (by omega) s _ S.pg.1 hT m hm).mono ?_
   rintro e w' ⟨rfl, hb⟩
   exact C w' (qh ⟨S.pg.trans hb, S.eq.trans (need_y hT), hjn⟩) (qh hb.2)
theorem S1.eat {a : PT → Par β} {b : Par β} {s : ByteArray} (S : S1 w0 w wx br c A L res (tokP (tT s) a b) j) (ht : TkS w0 br A L)
 (Y : ∀ w', Hid (S1 w0 w w' br c A L res (a (tk L j)) (j + 1)) → Hid (wx.grownBy w' (some br)) → Hid (isT L j s = true) → K (.returned (.bool true)) w')
 (N : ∀ w', Hid (S1 w0 w w' br c A L res b j) → Hid (wx.grownBy w' (some br)) → Hid (isT L j s = false) → K (.returned (.bool false)) w') :
 Calls Tryz.prog 76 #[.pointer (some ⟨br, 0, none⟩), .string s] wx K := by
 have hl := ht.toks.len
 have hj := S.le
 cases hT : isT L j s with
 | false =>
   refine (eat_no ht.toks (i := j) (by omega) s _ S.pg.1 hT).mono ?_
   rintro e w' ⟨rfl, hb⟩
   exact N w' (qh ⟨S.pg.trans hb, S.eq.trans (tok_n (t := tT s) hT), hj⟩) (qh hb.2) (qh hT)
 | true =>
   have hjn := isT_lt hT
   refine (eat_yes ht.toks (i := j) (by omega) s _ S.pg.1 hT).mono ?_
   rintro e w' ⟨rfl, hb⟩
   exact Y w' (qh ⟨S.pg.trans hb, S.eq.trans (tok_y (t := tT s) hT), hjn⟩) (qh hb.2) (qh hT)
theorem S1.eatb {a : PT → Par β} {b : Par β} {s : ByteArray} (S : S1 w0 w wx br c A L res (tokP (tT s) a b) j) (ht : TkS w0 br A L)
 (C : ∀ v j' w', Hid (v = isT L j s) → (j ≤ j' ∧ (v = true → j < j')) → Hid (S1 w0 w w' br c A L res (match v with | true => a (tk L j) | false => b) j') → Hid (wx.grownBy w' (some br)) → K (.returned (.bool v)) w') :
 Calls Tryz.prog 76 #[.pointer (some ⟨br, 0, none⟩), .string s] wx K :=
 S.eat ht (fun w' h hg hT => C true _ w' (qh hT.out.symm) ⟨Nat.le_succ _, fun _ => Nat.lt_succ_self _⟩ h hg) (fun w' h hg hT => C false _ w' (qh hT.out.symm) ⟨Nat.le_refl _, fun h => by cases h⟩ h hg)
theorem S1.is {p : Par β} {s : ByteArray} (S : S1 w0 w wx br c A L res p j) (ht : TkS w0 br A L) {m : Nat} (hm : wx.heap.size = m)
 (C : ∀ w', Hid (S1 w0 w w' br c A L res p j) → Hid (wx.grownBy w' (some br)) → K (.returned (.bool (isT L j s))) w') :
 Calls Tryz.prog 85 #[.pointer (some ⟨br, 0, none⟩), .slice (some ⟨m, 0, none⟩) 1 1] (wx.alloc (.cells #[.string s] 9)) K := by
 have hl := ht.toks.len
 have hj := S.le
 refine (is_1 ht.toks (i := j) (by omega) s _ S.pg.1 m hm).mono ?_
 rintro e w' ⟨rfl, hb⟩
 exact C w' (qh (S.below hb)) (qh (grown_of_below hb _))
theorem S1.named {p : Par β} (S : S1 w0 w wx br c A L res p j) (ht : TkS w0 br A L)
 (C : ∀ w', Hid (S1 w0 w w' br c A L res p j) → Hid (wx.grownBy w' (some br)) → K (.returned (.bool (isNm (tk L j)))) w') :
 Calls Tryz.prog 84 #[.pointer (some ⟨br, 0, none⟩)] wx K := by
 have hl := ht.toks.len
 have hj := S.le
 refine (named_any ht.toks (i := j) (by omega) _ S.pg.1).mono ?_
 rintro e w' ⟨rfl, hb⟩
 exact C w' (qh (S.below hb)) (qh (grown_of_below hb _))
theorem S1.now {q : PT → Par β} (S : S1 w0 w wx br c A L res (posP q) j) (ht : TkS w0 br A L)
 (C : ∀ k p1 p2 q1 q2 t n w', Hid (tk L j = tkOf k p1 p2 q1 q2 t n) → Hid (S1 w0 w w' br c A L res (q (tkOf k p1 p2 q1 q2 t n)) j) → Hid (wx.grownBy w' (some br)) → K (.returned (tkV k p1 p2 q1 q2 t n)) w') :
 Calls Tryz.prog 75 #[.pointer (some ⟨br, 0, none⟩)] wx K := by
 have hl := ht.toks.len
 have hj := S.le
 obtain ⟨k, p1, p2, q1, q2, t, n, e1, e2⟩ := val_form (tk L j)
 refine (now_any ht.toks (i := j) (by omega) _ S.pg.1).mono ?_
 rintro e w' ⟨rfl, hb⟩
 rw [e2]
 exact C k p1 p2 q1 q2 t n w' (qh e1) (qh ⟨S.pg.below hb, S.eq.trans (by show q (tk L j) L j = _; rw [e1]; rfl), hj⟩) (qh (grown_of_below hb _))
theorem S1.now' {p : Par β} (S : S1 w0 w wx br c A L res p j) (ht : TkS w0 br A L)
 (C : ∀ k p1 p2 q1 q2 t n w', Hid (tk L j = tkOf k p1 p2 q1 q2 t n) → Hid (S1 w0 w w' br c A L res p j) → Hid (wx.grownBy w' (some br)) → K (.returned (tkV k p1 p2 q1 q2 t n)) w') :
 Calls Tryz.prog 75 #[.pointer (some ⟨br, 0, none⟩)] wx K :=
 S1.now (q := fun _ => p) ⟨S.pg, S.eq, S.le⟩ ht C
theorem S1.name {a : PT → Par β} (S : S1 w0 w wx br c A L res (tokP isNm a failP) j) (ht : TkS w0 br A L) (E : EK res w br K)
 (C : ∀ k p1 p2 q1 q2 t n w', Hid (S1 w0 w w' br c A L res (a (tkOf k p1 p2 q1 q2 t n)) (j + 1)) → Hid (wx.grownBy w' (some br)) → K (.returned (tkV k p1 p2 q1 q2 t n)) w') :
 Calls Tryz.prog 98 #[.pointer (some ⟨br, 0, none⟩)] wx K := by
 have hl := ht.toks.len
 have hj := S.le
 by_cases hk : (tk L j).1.kind = 1
 ·have hjl : j < L.length := by
   rcases Nat.lt_or_ge j L.length with h | h
   ·exact h
   ·rw [tk_end h] at hk; cases hk
  obtain ⟨k, p1, p2, q1, q2, t, n, e1, e2⟩ := val_form (tk L j)
  have D := name_ok ht.toks (i := j) (by omega) _ S.pg.1 hk
  rw [e2] at D
  refine D.mono ?_
  rintro e w' ⟨rfl, hb⟩
  exact C k p1 p2 q1 q2 t n w' (qh ⟨S.pg.trans hb, S.eq.trans (by show tokP isNm a failP L j = _; rw [tok_y (t := isNm) (by simp [isNm, hk]), e1]; rfl), hjl⟩) (qh hb.2)
 ·refine (name_no ht.toks (i := j) (by omega) _ S.pg.1 hk).mono ?_
  rintro e w' ⟨rfl, hb⟩
  exact E j w' (qh (S.eq.trans (tok_n (t := isNm) (by simp [isNm, hk])))) (qh (grown_trans S.pg.2 hb))
theorem S1.ends {p : Par β} {s : ByteArray} (S : S1 w0 w wx br c A L res (endsF s p) j) (ht : TkS w0 br A L) (E : EK res w br K)
 (C : ∀ w', Hid (S1 w0 w w' br c A L res p (j + 1)) → Hid (wx.grownBy w' (some br)) → K (.returned (.tuple #[])) w') :
 Calls Tryz.prog 103 #[.pointer (some ⟨br, 0, none⟩), .string s] wx K := by
 have hl := ht.toks.len
 have hj := S.le
 cases hT : isEnd s (tk L j) with
 | false =>
   refine (ends_no ht.toks (i := j) (by omega) s _ S.pg.1 hT).mono ?_
   rintro e w' ⟨rfl, hb⟩
   exact E j w' (qh (S.eq.trans (tok_n (t := isEnd s) hT))) (qh (grown_trans S.pg.2 hb))
 | true =>
   have hjn : j < L.length := by
    rcases Nat.lt_or_ge j L.length with h | h
    ·exact h
    ·rw [tk_end h] at hT; cases hT
   refine (ends_ok ht.toks (i := j) (by omega) s _ S.pg.1 hT).mono ?_
   rintro e w' ⟨rfl, hb⟩
   exact C w' (qh ⟨S.pg.trans hb, S.eq.trans (tok_y (t := isEnd s) hT), hjn⟩) (qh hb.2)
theorem S1.tree {P : Par T1} {q : T1 → Par β} {F : Nat} {args : Array Value} (S : S1 w0 w wx br c A L res (bindP P q) j) (D : Calls Tryz.prog F args wx (TreeR wx.heap.size w0 wx br A c L (P L j))) (G : Good2 P) (E : EK res w br K)
 (C : ∀ x b j' w', j ≤ j' → Hid (S1 w0 w w' br c A L res (q x) j') → Hid (wx.grownBy w' (some br)) → Hid (RepS (fun y => wx.heap.size ≤ y) w' (.node x.1 x.2 .no) [.pointer (some ⟨b, 0, none⟩)]) → K (.returned (.pointer (some ⟨b, 0, none⟩))) w') :
 Calls Tryz.prog F args wx K := by
 have hm := g2_max G L j
 cases hx : P L j with
 | error k =>
   rw [hx] at D
   refine D.mono ?_
   rintro e w' ⟨rfl, hb⟩
   exact E k w' (qh (S.eq.trans (bind_err hx))) (qh (grown_trans S.pg.2 hb))
 | ok r =>
   obtain ⟨x, j'⟩ := r
   rw [hx] at D hm
   refine D.mono ?_
   rintro e w' ⟨b, rfl, hp, hg, hr⟩
   exact C x b j' w' hm.1 (qh ⟨S.pg.trans ⟨hp, hg⟩, S.eq.trans (bind_ok hx), hm.2.1 S.le⟩) (qh hg) (qh hr)
theorem S1.treeD {P : Par T1} {q : T1 → Par β} {F : Nat} {args : Array Value} (S : S1 w0 w wx br c A L res (bindP P q) j) (D : Calls Tryz.prog F args wx (TreeR wx.heap.size w0 wx br A c L (P L j))) (G : Good2 P) :
 Calls Tryz.prog F args wx (fun e w' => (∃ k, e = bad k ∧ Hid (res = .error k) ∧ Hid (w.grownBy w' (some br))) ∨ ∃ x b j', e = .returned (.pointer (some ⟨b, 0, none⟩)) ∧ j ≤ j' ∧ Hid (S1 w0 w w' br c A L res (q x) j') ∧ Hid (wx.grownBy w' (some br)) ∧ Hid (RepS (fun y => wx.heap.size ≤ y) w' (.node x.1 x.2 .no) [.pointer (some ⟨b, 0, none⟩)])) :=
 S.tree D G (fun k w' h hg => .inl ⟨k, rfl, h, hg⟩) (fun x b j' w' h1 h2 h3 h4 => .inr ⟨x, b, j', rfl, h1, h2, h3, h4⟩)
theorem S1.list {P : Par (List T1)} {q : List T1 → Par β} {F : Nat} {args : Array Value} (S : S1 w0 w wx br c A L res (bindP P q) j) (D : Calls Tryz.prog F args wx (ListR wx.heap.size w0 wx br A c L (P L j))) (G : Good2 P) (E : EK res w br K)
 (C : ∀ l sv xs j' w', Hid (P L j = .ok (l, j')) → j ≤ j' → Hid (S1 w0 w w' br c A L res (q l) j') → Hid (wx.grownBy w' (some br)) → Hid (LG wx.heap.size w' sv l xs) → K (.returned sv) w') :
 Calls Tryz.prog F args wx K := by
 have hm := g2_max G L j
 cases hx : P L j with
 | error k =>
   rw [hx] at D
   refine D.mono ?_
   rintro e w' ⟨rfl, hb⟩
   exact E k w' (qh (S.eq.trans (bind_err hx))) (qh (grown_trans S.pg.2 hb))
 | ok r =>
   obtain ⟨x, j'⟩ := r
   rw [hx] at D hm
   refine D.mono ?_
   rintro e w' ⟨sv, xs, rfl, hp, hg, hr⟩
   exact C x sv xs j' w' (qh hx) hm.1 (qh ⟨S.pg.trans ⟨hp, hg⟩, S.eq.trans (bind_ok hx), hm.2.1 S.le⟩) (qh hg) (qh hr)
theorem S1.doneT {x : T1} {b : Nat} {res : Except Nat (T1 × Nat)} (S : S1 w0 w wx br c A L res (retP x) j) (h : RepS (fun y => w.heap.size ≤ y) wx (.node x.1 x.2 .no) [.pointer (some ⟨b, 0, none⟩)]) : TreeR w.heap.size w0 w br A c L res (.returned (.pointer (some ⟨b, 0, none⟩))) wx := by
 rw [S.eq]
 exact ⟨b, rfl, S.pg.1, S.pg.2, h⟩
theorem S1.errT {res : Except Nat (T1 × Nat)} {k : Nat} (h : res = .error k) (hg : w.grownBy w1 (some br)) (B : Nat) : TreeR B w0 w br A c L res (bad k) w1 := by
 rw [h]; exact ⟨rfl, hg⟩
theorem S1.errL {res : Except Nat (List T1 × Nat)} {k : Nat} (h : res = .error k) (hg : w.grownBy w1 (some br)) (B : Nat) : ListR B w0 w br A c L res (bad k) w1 := by
 rw [h]; exact ⟨rfl, hg⟩
theorem S1.doneL {l : List T1} {sv : Value} {xs : List Value} {res : Except Nat (List T1 × Nat)} (S : S1 w0 w wx br c A L res (retP l) j) (h : LG w.heap.size wx sv l xs) : ListR w.heap.size w0 w br A c L res (.returned sv) wx := by
 rw [S.eq]
 exact ⟨sv, xs, rfl, S.pg.1, S.pg.2, h⟩
end
section
variable {B0 B B1 b : Nat} {w : World} {d : Nd} {sv svl : Value} {acc l : List T1} {xs xsl : List Value}
theorem KG.cell_set (h : KG B0 B w b d sv acc xs) (o : Nat) (u : Value) (d' : Nd) (hc : (cellsN d sv).setIfInBounds o u = cellsN d' sv) : KG B0 B (w.setCell ⟨b, o, none⟩ u) b d' sv acc xs := by
 obtain ⟨⟨h1, h2, h4⟩, h3, h5⟩ := h
 have hne : sv.ownBlock ≠ some b := Tr.own_blk_ne h2 h1 (by decide)
 refine ⟨⟨?_, h2.kept (Tr.setCell_grown _ _ _) (.inr hne), h4⟩, h3.keep (Nat.le_of_eq (World.size_setCell _ _ _).symm) (fun y hy _ => Below.heap_setCell w ⟨b, o, none⟩ u y hy.2.1) (fun y hy _ => hy), h5⟩
 have := h1.set_ o u
 rw [hc] at this
 exact this
theorem KG.kids (h : KG B0 B w b d sv acc xs) (hl : LG B1 w svl l xsl) (hb : b < B1) (hB : B0 ≤ B1) (hB2 : B ≤ B1) : KG B0 B (w.setCell ⟨b, 4, none⟩ svl) b d svl l xsl := by
 obtain ⟨⟨h1, h2, h4⟩, h3, h5⟩ := h
 refine ⟨⟨?_, Lx.own_mono (hl.own.kept (Tr.setCell_grown _ _ _) (.inr fun e => ?_)) hB2, h4⟩, hl.rep.keep (Nat.le_of_eq (World.size_setCell _ _ _).symm) (fun y hy _ => Below.heap_setCell w ⟨b, 4, none⟩ svl y (show y ≠ b by have := hy.1; omega)) (fun y hy _ => ⟨by have := hy.1; omega, by have := hy.1; omega, hy.2⟩), hl.len⟩
 ·have := h1.set_ 4 svl
  rwa [Tr.cellsN_set] at this
 ·have := (hl.own.lt _ e).1
  simp only at this
  omega
end
section
variable {α β γ : Type} {p : Par α} {q : α → Par β} {r : β → Par γ} {s : ByteArray} {t : PT → Bool}
theorem bind_assoc : bindP (bindP p q) r = bindP p (fun x => bindP (q x) r) := by
 funext L i; unfold bindP; cases p L i <;> rfl
theorem bind_tok {A : PT → Par α} {B : Par α} : bindP (tokP t A B) q = tokP t (fun u => bindP (A u) q) (bindP B q) := by
 funext L i; unfold bindP tokP
 by_cases h : t (tk L i) = true
 ·simp only [if_pos h]
 ·simp only [if_neg h]
theorem bind_need : bindP (needF s p) q = needF s (bindP p q) := by
 unfold needF; rw [bind_tok]; rfl
theorem bind_ret {a : α} : bindP (retP a) q = q a := by funext L i; rfl
theorem bind_pos {f : PT → Par α} : bindP (posP f) q = posP fun t => bindP (f t) q := by funext L i; rfl
end
theorem bind_pure {α : Type} (p : Par α) (L : List PT) (i : Nat) : p L i = bindP p retP L i := by
 unfold bindP; cases p L i <;> rfl
theorem paramB_t {g : Nat} {p : Nat × Nat} {n : Int} {Q : T1 → Par (List T1)} : bindP (paramB g true p n) Q = bindP (namesF g []) (fun l => needF sCol (bindP (formalF g) fun x => Q (mk 34 p sNil n (l ++ [x])))) := by
 unfold paramB; rw [if_pos rfl, bind_assoc]; simp only [bind_need, bind_assoc, bind_ret]
theorem paramB_f {g : Nat} {p : Nat × Nat} {n : Int} {Q : T1 → Par (List T1)} : bindP (paramB g false p n) Q = bindP (formalF g) (fun x => Q (mk 34 p sNil n [x])) := by
 unfold paramB; rw [if_neg (by decide), bind_assoc]; simp only [bind_ret]
theorem KG.done0 {B b : Nat} {w : World} {d : Nd} {sv : Value} {acc : List T1} {xs : List Value} (h : KG B B w b d sv acc xs) : RepS (fun y => B ≤ y) w (forest [(d, forest acc)]) [.pointer (some ⟨b, 0, none⟩)] := h.done nl
theorem KG.f3 {B0 B b : Nat} {w : World} {d : Nd} {sv : Value} {acc : List T1} {xs : List Value} (h : KG B0 B w b d sv acc xs) : w.cell? ⟨b, 3, none⟩ = some (.int .i64 d.n) ∧ w.frozen? ⟨b, 3, none⟩ = false := ⟨h.kn.blk.cell 3, h.kn.blk.frozen 3⟩
theorem repN_keep {S S' : Nat → Prop} {w w' : World} (hsz : w.heap.size ≤ w'.heap.size) (hk : ∀ x, S x → x < w.heap.size → w'.heap[x]? = w.heap[x]?) (hS : ∀ x, S x → x < w.heap.size → S' x) : ∀ {f : Fo} {vs : List Value}, RepN S w f vs → RepN S' w' f vs
 | .no, vs, h => by unfold RepN at h ⊢; exact h
 | .node d k r, vs, h => by
   unfold RepN at h ⊢
   obtain ⟨v, vs', h1, h2, h3⟩ := h
   exact ⟨v, vs', h1, h2.imp id (fun h => h.keep hsz hk hS), repN_keep hsz hk hS h3⟩
theorem repN_app {S : Nat → Prop} {w : World} {l : List T1} {vs : List Value} (h2 : RepN S w (forest l) vs) : ∀ {acc : List T1} {xs : List Value}, RepN S w (forest acc) xs → RepN S w (forest (acc ++ l)) (xs ++ vs)
 | [], xs, h => by
   unfold forest RepN at h
   subst h
   exact h2
 | x :: acc, xs, h => by
   unfold forest RepN at h
   obtain ⟨v, vs', rfl, h1, h3⟩ := h
   show RepN S w (forest (x :: (acc ++ l))) (v :: (vs' ++ vs))
   unfold forest RepN
   exact ⟨v, _, rfl, h1, repN_app h2 h3⟩
def NilR (B : Nat) (w0 w : World) (br : Nat) (A : Option Addr) (c : Nat) (L : List PT) (r : Except Nat (List T1 × Nat)) (e : Ending) (w' : World) : Prop := match r with
 | .ok (l, j) => ∃ A' c' xs, e = .returned (.slice A' l.length c') ∧ PInv w0 w' br A c L j ∧ w.grownBy w' (some br) ∧ Reads w' w'.heap.size 1 A' l.length xs ∧ RepN (fun y => B ≤ y) w' (forest l) xs ∧ xs.length = l.length ∧ l.length ≤ 1000000
 | .error k => e = bad k ∧ w.grownBy w' (some br)
theorem LG.nil1 {B g cap m : Nat} {W w1 : World} {sv v : Value} {acc : List T1} {x : T1} {xs : List Value} (h : LG B W sv acc xs) (hx : RepN (fun y => B ≤ y ∧ sv.ownBlock ≠ some y) W (forest [x]) [v])
 (hown : w1.ownsRow B 31 1 (.slice (some ⟨g, 0, none⟩) m cap) m (xs ++ [v])) (hm : m = xs.length + 1) (hg : W.grownBy w1 sv.ownBlock) :
 (acc ++ [x]).length = m ∧ Reads w1 w1.heap.size 1 (some ⟨g, 0, none⟩) m (xs ++ [v]) ∧ RepN (fun y => B ≤ y) w1 (forest (acc ++ [x])) (xs ++ [v]) ∧ (xs ++ [v]).length = m := by
 have hl := h.len
 refine ⟨by simp; omega, ?_, repN_app ?_ (repN_keep hg.size (fun y hy hl => hg.block y hl (fun e => hy.2 (by rw [← e]))) (fun y hy _ => hy.1) (repN_of h.rep)), by simp; omega⟩
 ·exact Reads.of_own hown
 ·exact repN_keep hg.size (fun y hy hl => hg.block y hl (fun e => hy.2 (by rw [← e]))) (fun y hy _ => hy.1) hx
theorem zero1 {S : Nat → Prop} {w : World} : RepN S w (forest [zeroT]) [.pointer none] := by
 unfold forest RepN
 exact ⟨_, [], rfl, .inl ⟨rfl, rfl, rfl⟩, by unfold forest RepN; rfl⟩
theorem one1 {S : Nat → Prop} {w : World} {x : T1} {v : Value} (h : RepS S w (.node x.1 x.2 .no) [v]) : RepN S w (forest [x]) [v] := by
 unfold forest RepN
 exact ⟨v, [], rfl, .inr h, by unfold forest RepN; rfl⟩
theorem repN_below {S : Nat → Prop} {w w' : World} {f : Fo} {vs : List Value} (h : RepN S w f vs) (hb : Below w.heap.size w w') : RepN S w' f vs :=
 repN_keep hb.size (fun y _ hy => (grown_of_below hb none).block y hy (by simp)) (fun y hy _ => hy) h
theorem S1.errN {w w1 w0 : World} {br c : Nat} {A : Option Addr} {L : List PT} {res : Except Nat (List T1 × Nat)} {k : Nat} (h : res = .error k) (hg : w.grownBy w1 (some br)) (B : Nat) : NilR B w0 w br A c L res (bad k) w1 := by
 rw [h]; exact ⟨rfl, hg⟩
theorem S1.doneN {w w1 w0 : World} {br c j : Nat} {A : Option Addr} {L : List PT} {res : Except Nat (List T1 × Nat)} {l : List T1} {A' : Option Addr} {m c' : Nat} {xs : List Value} (S : S1 w0 w w1 br c A L res (retP l) j) (h : l.length = m ∧ Reads w1 w1.heap.size 1 A' m xs ∧ RepN (fun y => w.heap.size ≤ y) w1 (forest l) xs ∧ xs.length = m) (hm : m ≤ 1000000) : NilR w.heap.size w0 w br A c L res (.returned (.slice A' m c')) w1 := by
 obtain ⟨rfl, hr, hN, hx⟩ := h
 rw [S.eq]
 exact ⟨A', c', xs, rfl, S.pg.1, S.pg.2, hr, hN, hx, hm⟩
theorem S1.nilr {β : Type} {w0 w wx : World} {br c j : Nat} {A : Option Addr} {L : List PT} {res : Except Nat (β × Nat)} {K : Ending → World → Prop} {P : Par (List T1)} {q : List T1 → Par β} {F : Nat} {args : Array Value} (S : S1 w0 w wx br c A L res (bindP P q) j) (D : Calls Tryz.prog F args wx (NilR wx.heap.size w0 wx br A c L (P L j))) (G : Good2 P) (E : EK res w br K)
 (C : ∀ l A' c' xs j' w', j ≤ j' → Hid (S1 w0 w w' br c A L res (q l) j') → Hid (wx.grownBy w' (some br)) → Hid (Reads w' w'.heap.size 1 A' l.length xs ∧ RepN (fun y => wx.heap.size ≤ y) w' (forest l) xs ∧ xs.length = l.length ∧ l.length ≤ 1000000) → K (.returned (.slice A' l.length c')) w') :
 Calls Tryz.prog F args wx K := by
 have hm := g2_max G L j
 cases hx : P L j with
 | error k =>
   rw [hx] at D
   refine D.mono ?_
   rintro e w' ⟨rfl, hb⟩
   exact E k w' (qh (S.eq.trans (bind_err hx))) (qh (grown_trans S.pg.2 hb))
 | ok r =>
   obtain ⟨x, j'⟩ := r
   rw [hx] at D hm
   refine D.mono ?_
   rintro e w' ⟨A', c', xs, rfl, hp, hg, hr⟩
   exact C x A' c' xs j' w' hm.1 (qh ⟨S.pg.trans ⟨hp, hg⟩, S.eq.trans (bind_ok hx), hm.2.1 S.le⟩) (qh hg) (qh hr)
theorem S1.nilrD {β : Type} {w0 w wx : World} {br c j : Nat} {A : Option Addr} {L : List PT} {res : Except Nat (β × Nat)} {P : Par (List T1)} {q : List T1 → Par β} {F : Nat} {args : Array Value} (S : S1 w0 w wx br c A L res (bindP P q) j) (D : Calls Tryz.prog F args wx (NilR wx.heap.size w0 wx br A c L (P L j))) (G : Good2 P) :
 Calls Tryz.prog F args wx (fun e w' => (∃ k, e = bad k ∧ Hid (res = .error k) ∧ Hid (w.grownBy w' (some br))) ∨ ∃ l A' c' xs j', e = .returned (.slice A' l.length c') ∧ j ≤ j' ∧ Hid (S1 w0 w w' br c A L res (q l) j') ∧ Hid (wx.grownBy w' (some br)) ∧ Hid (Reads w' w'.heap.size 1 A' l.length xs ∧ RepN (fun y => wx.heap.size ≤ y) w' (forest l) xs ∧ xs.length = l.length ∧ l.length ≤ 1000000)) :=
 S.nilr D G (fun k w' h hg => .inl ⟨k, rfl, h, hg⟩) (fun l A' c' xs j' w' h1 h2 h3 h4 => .inr ⟨l, A', c', xs, j', rfl, h1, h2, h3, h4⟩)
theorem new_nr {B B2 : Nat} {w : World} {A' : Option Addr} {c' : Nat} {l : List T1} {xs : List Value} (hw : B ≤ w.heap.size) (kI : Int) (kind : Nat) (hkI : kI = (kind : Int)) (p1 p2 : Nat) (name : ByteArray) (n : Int) (h : Reads w w.heap.size 1 A' l.length xs ∧ RepN (fun y => B2 ≤ y) w (forest l) xs ∧ xs.length = l.length ∧ l.length ≤ 1000000) (hB : B ≤ B2) :
 Calls Tryz.prog 33 #[.int .u8 kI, .complex .f64 (fl p1) (fl p2), .string name, .int .i64 n, .slice A' l.length c'] w fun e w' =>
  ∃ b, e = .returned (.pointer (some ⟨b, 0, none⟩)) ∧ Below w.heap.size w w' ∧ RepS (fun y => B ≤ y) w' (.node (mk kind (p1, p2) name n l).1 (mk kind (p1, p2) name n l).2 .no) [.pointer (some ⟨b, 0, none⟩)] := by
 subst hkI
 obtain ⟨h1, h2, h3, h4⟩ := h
 rw [← h3] at h1 ⊢
 refine (Tr.new_any (fun y => B2 ≤ y) kind p1 p2 name n A' c' xs (forest l) w (by omega) h1 h2).mono ?_
 rintro e w' ⟨u, rfl, hb2, hr⟩
 obtain ⟨b', _, _, _, rfl, _⟩ := hr.rep.one
 exact ⟨b', rfl, hb2, hr.more fun x hx _ => hx.elim (fun h => by omega) (fun h => by omega)⟩
section
variable {β : Type} {w0 w wq w1 : World} {br c i' j b : Nat} {A : Option Addr} {L : List PT} {res : Except Nat (β × Nat)} {p : Par β}
theorem S1.hung {u : Value} {row : Option Nat} (S : S1 w0 w wq br c A L res p j) (hw : PInv w0 w br A c L i') (o : Obj) (hg : (wq.alloc o).grownBy w1 row) (hr : ∀ k, row = some k → w.heap.size ≤ k) (hb : w.heap.size ≤ b) : S1 w0 w (w1.setCell ⟨b, 4, none⟩ u) br c A L res p j :=
 ⟨S.pg.hung hw o hg hr hb, S.eq, S.le⟩
theorem S1.far (S : S1 w0 w wq br c A L res p j) (hw : PInv w0 w br A c L i') (hb : w.heap.size ≤ b) (o : Nat) (u : Value) : S1 w0 w (wq.setCell ⟨b, o, none⟩ u) br c A L res p j :=
 ⟨S.pg.far hw hb o u, S.eq, S.le⟩
theorem S1.join {res' : Except Nat (β × Nat)} {q : Par β} {j' : Nat} (B : S1 w0 w wq br c A L res' q j') (S : S1 w0 wq w1 br c A L res p j) : S1 w0 w w1 br c A L res p j :=
 ⟨⟨S.pg.1, grown_trans B.pg.2 S.pg.2⟩, S.eq, S.le⟩
variable {ops : Array Oper} {rest : List Oper} {o : Oper} {a : Act} {Q : Exit → Act → World → Prop}
theorem wpList_pushL (hgd : o.guard = none) (s x : Operand) (ho : o.op = .call { callee := .builtin .append, args := #[s, x], argTypes := #[36, 36] })
 {B b m : Nat} {sv : Value} {acc : List T1} {xs : List Value} {t : T1} (S : S1 w0 w wq br c A L res p j) (H0 : PInv w0 w br A c L i') (hB : w.heap.size ≤ B) (hB2 : B ≤ wq.heap.size)
 (h : LG B wq sv acc xs) (hl : acc.length ≤ 1000000) (ht : RepS (fun y => B ≤ y ∧ sv.ownBlock ≠ some y) wq (.node t.1 t.2 .no) [.pointer (some ⟨b, 0, none⟩)])
 (hs : a.eval s = sv) (hx : a.eval x = .slice (some ⟨m, 0, none⟩) 1 1) (hm : wq.heap.size = m)
 (hK : ∀ g cap xs' w', Hid (S1 w0 w w' br c A L res p j) → Hid (LG B w' (.slice (some ⟨g, 0, none⟩) (acc.length + 1) cap) (acc ++ [t]) xs') → Hid (wq.grownBy w' sv.ownBlock) → wpList Tryz.prog ops Q rest (a.put o.dst (.slice (some ⟨g, 0, none⟩) (acc.length + 1) cap)) w') :
 wpList Tryz.prog ops Q (o :: rest) a (wq.alloc (.cells #[.pointer (some ⟨b, 0, none⟩)] 31)) := by
 subst hm
 obtain ⟨i0, hi0, hz0, hz1, hz2⟩ := info_parts infoN
 have hlen := h.len
 have Q9 := kid_facts (cs := #[.pointer (some ⟨b, 0, none⟩)]) wq.heap.size rfl hB2 h.own (by omega) (one_ptr (some ⟨b, 0, none⟩)) (by simp)
 obtain ⟨q1, q2, q3, q4, q5⟩ := Q9.out
 refine wpList_append_lies _ hgd s x _ ho B 31 i0 _ 1 8 Tryz.underlying36 hi0 hz0 hz1 hz2 rfl (by omega) sv xs.length xs hs q5 ⟨wq.heap.size, 0, none⟩ 1 1 [.pointer (some ⟨b, 0, none⟩)] hx rfl q1 q2 (by omega) q3 (by omega) q4 (wq.heap.size + 1) (by rw [World.size_alloc]) ?_
 intro g cap w' hown hgrow hor hlt
 have hG := LG.step (x := t) (h.below ((Below.refl _ _).alloc nl _)) (ht.below ((Below.refl _ _).alloc nl _)) hown hgrow (hor.imp id fun e => e.trans (World.size_alloc _ _).symm)
 rw [← hlen] at hK
 exact hK g cap _ w' (qh ⟨(S.pg.alloc _).gfar H0 hgrow (fun k e => Nat.le_trans hB (h.own.lt _ e).1), S.eq, S.le⟩) (qh hG) (qh ((World.grownBy_alloc wq _ _).trans hgrow))
theorem wpList_pushA (hgd : o.guard = none) (s x : Operand) (ho : o.op = .call { callee := .builtin .append, args := #[s, x], argTypes := #[36, 36] })
 {B m : Nat} {pv : Option Addr} {sv : Value} {acc : List T1} {xs : List Value} {t : T1} (S : S1 w0 w wq br c A L res p j) (H0 : PInv w0 w br A c L i') (hB : w.heap.size ≤ B) (hB2 : B ≤ wq.heap.size)
 (h : LG B wq sv acc xs) (hl : acc.length ≤ 1000000) (ht : RepN (fun y => B ≤ y ∧ sv.ownBlock ≠ some y) wq (forest [t]) [.pointer pv])
 (hs : a.eval s = sv) (hx : a.eval x = .slice (some ⟨m, 0, none⟩) 1 1) (hm : wq.heap.size = m)
 (hK : ∀ g cap xs' w', Hid (S1 w0 w w' br c A L res p j) → Hid ((acc ++ [t]).length = acc.length + 1 ∧ Reads w' w'.heap.size 1 (some ⟨g, 0, none⟩) (acc.length + 1) xs' ∧ RepN (fun y => B ≤ y) w' (forest (acc ++ [t])) xs' ∧ xs'.length = acc.length + 1) → wpList Tryz.prog ops Q rest (a.put o.dst (.slice (some ⟨g, 0, none⟩) (acc.length + 1) cap)) w') :
 wpList Tryz.prog ops Q (o :: rest) a (wq.alloc (.cells #[.pointer pv] 31)) := by
 subst hm
 obtain ⟨i0, hi0, hz0, hz1, hz2⟩ := info_parts infoN
 have hlen := h.len
 have Q9 := kid_facts (cs := #[.pointer pv]) wq.heap.size rfl hB2 h.own (by omega) (one_ptr pv) (by simp)
 obtain ⟨q1, q2, q3, q4, q5⟩ := Q9.out
 refine wpList_append_lies _ hgd s x _ ho B 31 i0 _ 1 8 Tryz.underlying36 hi0 hz0 hz1 hz2 rfl (by omega) sv xs.length xs hs q5 ⟨wq.heap.size, 0, none⟩ 1 1 [.pointer pv] hx rfl q1 q2 (by omega) q3 (by omega) q4 (wq.heap.size + 1) (by rw [World.size_alloc]) ?_
 intro g cap w' hown hgrow hor hlt
 obtain ⟨r1, r2, r3, r4⟩ := LG.nil1 (x := t) (h.below ((Below.refl _ _).alloc nl _)) (repN_below ht ((Below.refl _ _).alloc nl _)) hown rfl hgrow
 rw [← hlen] at hK
 exact hK g cap _ w' (qh ⟨(S.pg.alloc _).gfar H0 hgrow (fun k e => Nat.le_trans hB (h.own.lt _ e).1), S.eq, S.le⟩) (qh ⟨r1, r2, r3, r4⟩)
theorem step_pushK {K : Act → World → Prop} {E : Prop} (hgd : o.guard = none) (s x : Operand) (ho : o.op = .call { callee := .builtin .append, args := #[s, x], argTypes := #[36, 36] })
 {b bY m : Nat} {d : Nd} {sv : Value} {acc : List T1} {xs : List Value} {t : T1} (S : S1 w0 w wq br c A L res p j) (H0 : PInv w0 w br A c L i')
 (h : KG w.heap.size w.heap.size wq b d sv acc xs) (hl : acc.length ≤ 1000000) (ht : RepS (fun y => w.heap.size ≤ y ∧ y ≠ b ∧ sv.ownBlock ≠ some y) wq (.node t.1 t.2 .no) [.pointer (some ⟨bY, 0, none⟩)])
 (hs : a.eval s = sv) (hx : a.eval x = .slice (some ⟨m, 0, none⟩) 1 1) (hm : wq.heap.size = m)
 (hK : ∀ g cap xs' w', w'.cell? ⟨b, 4, none⟩ = some sv → w'.frozen? ⟨b, 4, none⟩ = false → b < w'.heap.size → Hid (S1 w0 w (w'.setCell ⟨b, 4, none⟩ (.slice (some ⟨g, 0, none⟩) (acc.length + 1) cap)) br c A L res p j) →
   Hid (KG w.heap.size w.heap.size (w'.setCell ⟨b, 4, none⟩ (.slice (some ⟨g, 0, none⟩) (acc.length + 1) cap)) b d (.slice (some ⟨g, 0, none⟩) (acc.length + 1) cap) (acc ++ [t]) xs') → K (a.put o.dst (.slice (some ⟨g, 0, none⟩) (acc.length + 1) cap)) w') :
 if Region.wanted o (yielded ops a.tmps) = true then Oper.wp Tryz.prog o a (wq.alloc (.cells #[.pointer (some ⟨bY, 0, none⟩)] 31)) K Q else E := by
 subst hm
 obtain ⟨i0, hi0, hz0, hz1, hz2⟩ := info_parts infoN
 have hlen := h.len
 have Q9 := kid_facts (cs := #[.pointer (some ⟨bY, 0, none⟩)]) wq.heap.size rfl (Nat.le_trans h.kn.low (Nat.le_of_lt h.kn.blk.lt)) h.kn.own (by omega) (one_ptr (some ⟨bY, 0, none⟩)) (by simp)
 obtain ⟨q1, q2, q3, q4, q5⟩ := Q9.out
 refine step_append_lies _ hgd s x _ ho w.heap.size 31 i0 _ 1 8 Tryz.underlying36 hi0 hz0 hz1 hz2 rfl (by omega) sv xs.length xs hs q5 ⟨wq.heap.size, 0, none⟩ 1 1 [.pointer (some ⟨bY, 0, none⟩)] hx rfl q1 q2 (by omega) q3 (by omega) q4 (wq.heap.size + 1) (by rw [World.size_alloc]) ?_
 intro g cap w' hown hgrow hor hlt
 obtain ⟨s4, s4f, hb5⟩ := KN.after (h.kn.below ((Below.refl _ _).alloc nl _)) hgrow
 rw [← hlen] at hK
 exact hK g cap _ w' s4 s4f hb5 (qh (S.hung H0 _ hgrow (fun k e => (h.kn.own.lt _ e).1) h.kn.low)) (qh (KG.steps (l := [t]) (h.below ((Below.refl _ _).alloc nl _)) (ht.below ((Below.refl _ _).alloc nl _)) rfl rfl hown hgrow (hor.imp id fun e => e.trans (World.size_alloc _ _).symm)))
end
end De
namespace De
open Go.RowKit
open Tr (Nd Fo RepS RepN Rep cellsN)
open Lx (Tk noTk Blk run_store_complexL TokAt)
open Fl
open Ex
open St (TkS g2_max g2_expr g2_labels Good2 isNm KG KN new_kg new_0 kid_facts one_ptr bind_ok bind_err need_y need_n tok_y tok_n ret_ add_block sSem sCol sEnd sOf sBar sElse sCase sTo armOut isWd6)
attribute [local go_sem] run_store_complexL run_field0 run_field1 run_field3
theorem names_len {L : List PT} : ∀ {f : Nat} {acc : List T1} {i : Nat} {l : List T1} {j : Nat}, namesF f acc L i = .ok (l, j) → l.length + i ≤ acc.length + j
 | 0, _, _, _, _, h => by cases h
 | f + 1, acc, i, l, j, h => by
   rw [namesF] at h
   by_cases hk : isNm (tk L i) = true
   ·rw [tok_y hk] at h
    by_cases hc : tT sCom (tk L (i + 1)) = true
    ·rw [tok_y hc] at h
     have := names_len h
     simp only [List.length_append, List.length_singleton] at this
     omega
    ·rw [tok_n (by simpa using hc)] at h
     injection h with h; injection h with h1 h2; subst h1 h2
     simp only [List.length_append, List.length_singleton]
     omega
   ·rw [tok_n (by simpa using hk)] at h
    cases h
theorem ref_any {g : Nat} {w0 : World} {br c : Nat} {A : Option Addr} {L : List PT} (ht : TkS w0 br A L) (hgL : L.length < g) (i : Nat) (hi : i ≤ L.length) (w : World) (h : PInv w0 w br A c L i) :
 Calls Tryz.prog 146 #[.pointer (some ⟨br, 0, none⟩)] w (TreeR w.heap.size w0 w br A c L (refF g L i)) := by
 have hbr := h.row.lt
 have H0 := qh h
 have HT := qh ht
 obtain ⟨res, hs0⟩ : ∃ r, r = refF g L i := ⟨_, rfl⟩
 rw [← hs0]
 have S := qh (S1.start h hi hs0)
 clear h ht hs0 hi
 go_enter Tryz.func146, Tryz.ntmps146
 unfold refF at S
 go_wp2_with fail
 (with_reducible refine S.out.now HT.out ?_)
 clear S
 intro k_p p1 p2 q3_p q4_p t_p n_p wx HPp S hg
 have HZ := qh S.out.pg.2.size
 go_wp2_with fail
 (with_reducible refine S.out.tree (of_Q HT.out hgL _ (by have := S.out.le; have := HT.out.toks.len; omega) _ S.out.pg.1) (g2_qual (g := g)) ?_ ?_)
 ·intro k w1 h hg; go_wp2; exact ⟨rfl, S1.errT h.out hg.out _⟩
 clear S
 intro x bx j1 wx hj1 S hg Hx
 have Hx := qh (Hx.out.more (S' := fun y => w.heap.size ≤ y) fun y hy _ => Nat.le_trans HZ.out hy)
 clear HZ
 have NW := qh (St.new_lit (B := w.heap.size) (w := wx) S.out.pg.2.size 20 20 rfl p1 p2 sNil [.pointer (some ⟨bx, 0, none⟩)] [x] wx.heap.size rfl 1 rfl (by decide) (repN_of Hx.out))
 go_wp2_with fail
 ((with_reducible refine NW.out.mono ?_); rintro e wy ⟨b, rfl, hb, hr⟩)
 have Hb := qh hr
 have S := qh (S.out.below hb)
 clear hb hr NW
 go_wp2
 go_ret
 exact S.out.doneT Hb.out
theorem formal_any {g : Nat} {w0 : World} {br c : Nat} {A : Option Addr} {L : List PT} (ht : TkS w0 br A L) (hgL : L.length < g) (i : Nat) (hi : i ≤ L.length) (w : World) (h : PInv w0 w br A c L i) :
 Calls Tryz.prog 147 #[.pointer (some ⟨br, 0, none⟩)] w (TreeR w.heap.size w0 w br A c L (formalF g L i)) := by
 have hbr := h.row.lt
 have H0 := qh h
 have HT := qh ht
 obtain ⟨res, hs0⟩ : ∃ r, r = formalF g L i := ⟨_, rfl⟩
 rw [← hs0]
 have S := qh (S1.start h hi hs0)
 clear h ht hs0 hi
 go_enter Tryz.func147, Tryz.ntmps147
 unfold formalF at S
 go_wp2_with fail
 (with_reducible refine S.out.now HT.out ?_)
 clear S
 intro k_p p1 p2 q3_p q4_p t_p n_p wx HPp S hg
 go_wp2_with fail
 (with_reducible refine S.out.eat HT.out ?_ ?_)
 ·clear S
  intro wx S hg hT
  go_wp2_with fail
  (with_reducible refine S.out.need HT.out rfl ?_ ?_)
  ·intro k w1 h hg; go_wp2; exact ⟨rfl, S1.errT h.out hg.out _⟩
  clear S
  intro wx S hg
  have HZ := qh S.out.pg.2.size
  go_wp2_with fail
  (with_reducible refine S.out.tree (ref_any HT.out hgL _ S.out.le _ S.out.pg.1) (g2_ref (g := g)) ?_ ?_)
  ·intro k w1 h hg; go_wp2; exact ⟨rfl, S1.errT h.out hg.out _⟩
  clear S
  intro x bx j1 wx hj1 S hg Hx
  have Hx := qh (Hx.out.more (S' := fun y => w.heap.size ≤ y) fun y hy _ => Nat.le_trans HZ.out hy)
  clear HZ
  have NW := qh (St.new_lit (B := w.heap.size) (w := wx) S.out.pg.2.size 24 24 rfl p1 p2 sNil [.pointer (some ⟨bx, 0, none⟩)] [x] wx.heap.size rfl 1 rfl (by decide) (repN_of Hx.out))
  go_wp2_with fail
  ((with_reducible refine NW.out.mono ?_); rintro e wy ⟨b, rfl, hb, hr⟩)
  have Hb := qh hr
  have S := qh (S.out.below hb)
  clear hb hr NW
  go_wp2
  go_ret
  exact S.out.doneT Hb.out
 ·clear S
  intro wx S hg hT
  have S := qh (S.out.of (bind_pure _ _ _))
  have HZ := qh S.out.pg.2.size
  go_wp2_with fail
  (with_reducible refine S.out.tree (ref_any HT.out hgL _ S.out.le _ S.out.pg.1) (g2_ref (g := g)) ?_ ?_)
  ·intro k w1 h hg; go_wp2; exact ⟨rfl, S1.errT h.out hg.out _⟩
  clear S
  intro x bx j9 wx hj9 S hg Hx
  have Hx := qh (Hx.out.more (S' := fun y => w.heap.size ≤ y) fun y hy _ => Nat.le_trans HZ.out hy)
  clear HZ
  go_wp2
  go_ret
  exact S.out.doneT Hx.out
theorem simple_any {g : Nat} {w0 : World} {br c : Nat} {A : Option Addr} {L : List PT} (ht : TkS w0 br A L) (hgL : L.length < g) (i : Nat) (hi : i ≤ L.length) (w : World) (h : PInv w0 w br A c L i) :
 Calls Tryz.prog 123 #[.pointer (some ⟨br, 0, none⟩)] w (TreeR w.heap.size w0 w br A c L (simpleF g L i)) := by
 have hbr := h.row.lt
 have H0 := qh h
 have HT := qh ht
 obtain ⟨res, hs0⟩ : ∃ r, r = simpleF g L i := ⟨_, rfl⟩
 rw [← hs0]
 have S := qh (S1.start h hi hs0)
 clear h ht hs0 hi
 go_enter Tryz.func123, Tryz.ntmps123
 unfold simpleF at S
 go_wp2_with fail
 (with_reducible refine S.out.now HT.out ?_)
 clear S
 intro k_p p1 p2 q3_p q4_p t_p n_p wx HPp S hg
 go_wp2_with fail
 (with_reducible refine S.out.eat HT.out ?_ ?_)
 ·clear S
  intro wx S hg hT
  unfold enumF at S
  have HZ := qh S.out.pg.2.size
  go_wp2_with fail
  (with_reducible refine S.out.list (names_any HT.out hgL _ S.out.le _ S.out.pg.1) (g2_names g []) ?_ ?_)
  ·intro k w1 h hg; go_wp2; exact ⟨rfl, S1.errT h.out hg.out _⟩
  clear S
  intro l svl xsl j1 wx HEl hj1 S hg Hl
  have Hl := qh (Hl.out.lower HZ.out)
  clear HZ
  have hll := names_len HEl.out
  have hjl := S.out.le
  have hlen := HT.out.toks.len
  have NW := qh (new_lg (B := w.heap.size) (w := wx) S.out.pg.2.size 21 21 rfl p1 p2 sNil 0 Hl.out (by simp at hll; omega))
  go_wp2_with fail
  ((with_reducible refine NW.out.mono ?_); rintro e wy ⟨b, rfl, hb, hr⟩)
  have Hb := qh hr
  have S := qh (S.out.below hb)
  clear hb hr NW
  go_wp2_with fail
  (with_reducible refine S.out.need HT.out rfl ?_ ?_)
  ·intro k w1 h hg; go_wp2; exact ⟨rfl, S1.errT h.out hg.out _⟩
  clear S
  intro wx S hg
  have Hb := qh (repS_grown Hb.out hg.out hbr)
  go_wp2
  go_ret
  exact S.out.doneT Hb.out
 ·clear S
  intro wx S hg hT
  go_wp2_with fail
  (with_reducible refine S.out.eat HT.out ?_ ?_)
  ·clear S
   intro wx S hg hT
   unfold subF at S
   have HZ := qh S.out.pg.2.size
   go_wp2_with fail
   (with_reducible refine S.out.tree (of_E HT.out hgL _ (by have := S.out.le; have := HT.out.toks.len; omega) _ S.out.pg.1) (g2_expr (g := g)) ?_ ?_)
   ·intro k w1 h hg; go_wp2; exact ⟨rfl, S1.errT h.out hg.out _⟩
   clear S
   intro x bx j1 wx hj1 S hg Hx
   have Hx := qh (Hx.out.more (S' := fun y => w.heap.size ≤ y) fun y hy _ => Nat.le_trans HZ.out hy)
   clear HZ
   go_wp2_with fail
   (with_reducible refine S.out.need HT.out rfl ?_ ?_)
   ·intro k w1 h hg; go_wp2; exact ⟨rfl, S1.errT h.out hg.out _⟩
   clear S
   intro wx S hg
   have Hx := qh (repS_grown Hx.out hg.out hbr)
   have HZ := qh S.out.pg.2.size
   go_wp2_with fail
   (with_reducible refine S.out.tree (of_E HT.out hgL _ (by have := S.out.le; have := HT.out.toks.len; omega) _ S.out.pg.1) (g2_expr (g := g)) ?_ ?_)
   ·intro k w1 h hg; go_wp2; exact ⟨rfl, S1.errT h.out hg.out _⟩
   clear S
   intro z bz j2 wx hj2 S hg Hz
   have Hx := qh (repS_grown Hx.out hg.out hbr)
   have Hz := qh (Hz.out.more (S' := fun y => w.heap.size ≤ y) fun y hy _ => Nat.le_trans HZ.out hy)
   clear HZ
   have NW := qh (St.new_lit (B := w.heap.size) (w := wx) S.out.pg.2.size 22 22 rfl p1 p2 sNil [.pointer (some ⟨bx, 0, none⟩), .pointer (some ⟨bz, 0, none⟩)] [x, z] wx.heap.size rfl 2 rfl (by decide) (repN_of (repS_cons Hx.out Hz.out)))
   go_wp2_with fail
   ((with_reducible refine NW.out.mono ?_); rintro e wy ⟨b, rfl, hb, hr⟩)
   have Hb := qh hr
   have S := qh (S.out.below hb)
   clear hb hr NW
   go_wp2_with fail
   (with_reducible refine S.out.need HT.out rfl ?_ ?_)
   ·intro k w1 h hg; go_wp2; exact ⟨rfl, S1.errT h.out hg.out _⟩
   clear S
   intro wx S hg
   have Hb := qh (repS_grown Hb.out hg.out hbr)
   go_wp2
   go_ret
   exact S.out.doneT Hb.out
  ·clear S
   intro wx S hg hT
   have S := qh (S.out.of (bind_pure _ _ _))
   have HZ := qh S.out.pg.2.size
   go_wp2_with fail
   (with_reducible refine S.out.tree (ref_any HT.out hgL _ S.out.le _ S.out.pg.1) (g2_ref (g := g)) ?_ ?_)
   ·intro k w1 h hg; go_wp2; exact ⟨rfl, S1.errT h.out hg.out _⟩
   clear S
   intro x bx j9 wx hj9 S hg Hx
   have Hx := qh (Hx.out.more (S' := fun y => w.heap.size ≤ y) fun y hy _ => Nat.le_trans HZ.out hy)
   clear HZ
   go_wp2
   go_ret
   exact S.out.doneT Hx.out
end De
end Go.Proofs.YtkemhmfdooghkaaGreatDoor
