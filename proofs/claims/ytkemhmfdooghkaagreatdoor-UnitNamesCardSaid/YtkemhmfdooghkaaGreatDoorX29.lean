import Derived.Test.YtkemhmfdooghkaaGreatDoorX28
set_option linter.unusedSimpArgs false
set_option linter.unusedVariables false
set_option maxRecDepth 100000
set_option maxHeartbeats 6400000
namespace Go.Proofs.YtkemhmfdooghkaaGreatDoor
namespace De
open Go.RowKit
open Tr (Nd Fo RepS RepN Rep cellsN)
open Lx (Tk noTk Blk run_store_complexL TokAt)
open Fl
open Ex
open St (TkS g2_max g2_expr g2_labels Good2 isNm KG KN new_kg new_0 kid_facts one_ptr bind_ok bind_err need_y need_n tok_y tok_n ret_ add_block sSem sCol sEnd sOf sBar sElse sCase sTo armOut isWd6)
attribute [local go_sem] run_store_complexL run_field0 run_field1 run_field3
abbrev KP (B0 b : Nat) (sv : Value) : Nat → Prop := fun y => B0 ≤ y ∧ y ≠ b ∧ sv.ownBlock ≠ some y
abbrev Rows_ (P : Nat → Prop) (w : World) (A' : Option Addr) (m : Nat) (l : List T1) (vs : List Value) : Prop := l.length = m ∧ Reads w w.heap.size 1 A' m vs ∧ RepN P w (forest l) vs ∧ vs.length = m ∧ m ≤ 1000000
section
variable {B0 B b : Nat} {w w1 W : World} {d : Nd} {sv svl : Value} {acc l : List T1} {xs xsl : List Value}
theorem KG.bundle {A' : Option Addr} {c' : Nat} (h : KG B0 B W b d sv acc xs) (hB : B0 ≤ B) (hl : LG W.heap.size w1 (.slice A' l.length c') l xsl) (hn : l.length ≤ 100000) : Rows_ (KP B0 b sv) w1 A' l.length l xsl := by
 have h1 := hl.len
 refine ⟨rfl, ?_, repN_of (h.new (hl.rep.more fun y hy _ => hy.1) hB), h1, by omega⟩
 have ho := hl.own
 rw [h1] at ho
 exact Reads.of_own ho
theorem new_inN (h : KG B0 B w b d sv acc xs) (hB : B0 ≤ B) (kI : Int) (kind : Nat) (hkI : kI = (kind : Int)) (p1 p2 : Nat) (name : ByteArray) (n : Int) {A' : Option Addr} {c' m : Nat} (hk : Rows_ (KP B0 b sv) w A' m l xsl) :
 Calls Tryz.prog 33 #[.int .u8 kI, .complex .f64 (fl p1) (fl p2), .string name, .int .i64 n, .slice A' m c'] w fun e w' =>
  ∃ b', e = .returned (.pointer (some ⟨b', 0, none⟩)) ∧ Below w.heap.size w w' ∧ RepS (KP B0 b sv) w' (.node (mk kind (p1, p2) name n l).1 (mk kind (p1, p2) name n l).2 .no) [.pointer (some ⟨b', 0, none⟩)] := by
 subst hkI
 obtain ⟨rfl, h1, h2, h3, h4⟩ := hk
 rw [← h3] at h1 ⊢
 refine (Tr.new_any (KP B0 b sv) kind p1 p2 name n A' c' xsl (forest l) w (by omega) h1 h2).mono ?_
 rintro e w' ⟨u, rfl, hb2, hr⟩
 obtain ⟨b', _, _, _, rfl, _⟩ := hr.rep.one
 refine ⟨b', rfl, hb2, hr.more fun x hx _ => hx.elim id fun hx => ?_⟩
 have h1 := h.kn.blk.lt
 have h2 := h.kn.low
 exact ⟨by omega, by omega, fun e => by have := (h.kn.own.lt _ e).2; omega⟩
end
theorem kids_one {S : Nat → Prop} {w : World} : ∀ {l : List T1} {vs : List Value}, RepS S w (forest l) vs → ∀ u ∈ vs, u.oneCell' = true
 | [], vs, h => by
   unfold forest RepS at h
   subst h
   exact fun u hu => by cases hu
 | x :: l, vs, h => by
   unfold forest RepS at h
   obtain ⟨b, A, c, ks, vs', rfl, g2, g3, g4, g5, g6, g7⟩ := h
   intro u hu
   rcases List.mem_cons.1 hu with rfl | hu
   ·rfl
   ·exact kids_one g7 u hu
structure Cat (P : Nat → Prop) (B : Nat) (W : World) (g0 : Nat) (lab : T1) (v : Value) (A' : Option Addr) (l : List T1) (vs : List Value) : Prop where
 own : W.ownsRow B 31 1 (.slice (some ⟨g0, 0, none⟩) 1 1) 1 [v]
 rlab : RepS (fun y => P y ∧ y ≠ g0) W (forest [lab]) [v]
 reads : ∃ B', Reads W B' 1 A' l.length vs
 rl : RepS (fun y => P y ∧ y ≠ g0) W (forest l) vs
 len : vs.length = l.length
 few : l.length ≤ 100000
section
variable {B0 b bl c' g0 br : Nat} {w x W : World} {d : Nd} {sv : Value} {acc l : List T1} {xs vs : List Value} {lab : T1} {A' : Option Addr}
theorem Cat.after (h : KG B0 B0 W b d sv acc xs) (hlab : RepS (KP B0 b sv) x (forest [lab]) [.pointer (some ⟨bl, 0, none⟩)]) (hl : LG W.heap.size x (.slice A' l.length c') l vs) (hn : l.length ≤ 100000) (hB : B0 ≤ x.heap.size) :
 Cat (KP B0 b sv) B0 (x.alloc (.cells #[.pointer (some ⟨bl, 0, none⟩)] 31)) x.heap.size lab (.pointer (some ⟨bl, 0, none⟩)) A' l vs := by
 have hq := KG.bundle h nl hl hn
 exact ⟨ownl hB, (hlab.more (S' := fun y => KP B0 b sv y ∧ y ≠ x.heap.size) fun y hy h => ⟨hy, by omega⟩).below ((Below.refl _ _).alloc nl _), ⟨_, hq.2.1.alloc nl _⟩,
  ((h.new (hl.rep.more fun y hy _ => hy.1) nl).more (S' := fun y => KP B0 b sv y ∧ y ≠ x.heap.size) fun y hy h => ⟨hy, by omega⟩).below ((Below.refl _ _).alloc nl _), hl.len, hn⟩
theorem Cat.ahead (h : KG B0 B0 W b d sv acc xs) (hlab : RepS (KP B0 b sv) W (forest [lab]) [.pointer (some ⟨bl, 0, none⟩)]) {Wa : World} (ha2 : Below (W.alloc (.cells #[.pointer (some ⟨bl, 0, none⟩)] 31)).heap.size (W.alloc (.cells #[.pointer (some ⟨bl, 0, none⟩)] 31)) Wa) (hs : Wa.heap.size = W.heap.size + 1)
 (hg : Wa.grownBy x (some br)) (hbr : br < B0) (hl : LG Wa.heap.size x (.slice A' l.length c') l vs) (hn : l.length ≤ 100000) (hB : B0 ≤ W.heap.size) :
 Cat (KP B0 b sv) B0 x W.heap.size lab (.pointer (some ⟨bl, 0, none⟩)) A' l vs := by
 have hl1 := hl.len
 refine ⟨((ownl hB).kept (grown_of_below ha2 none) (.inr (by show some W.heap.size ≠ none; simp))).kept hg (.inr (by show some W.heap.size ≠ some br; intro e; injection e with e; omega)), ?_, ?_, ?_, hl1, hn⟩
 ·have h1 := ((hlab.more (S' := fun y => KP B0 b sv y ∧ y ≠ W.heap.size) fun y hy h => ⟨hy, by omega⟩).below ((Below.refl _ _).alloc nl _)).below ha2
  exact h1.keep hg.size (fun y hy hl => hg.block y hl (fun e => by injection e with e; have := hy.1.1; omega)) (fun y hy _ => hy)
 ·have ho := hl.own
  rw [hl1] at ho
  exact ⟨_, Reads.of_own ho⟩
 ·have hb := h.kn.blk.lt
  exact hl.rep.more fun y hy _ => ⟨⟨by omega, by omega, fun e => by have := (h.kn.own.lt _ e).2; omega⟩, by omega⟩
end
section
variable {β : Type} {w0 w wq W0 : World} {br c i' j b g0 : Nat} {A : Option Addr} {L : List PT} {res : Except Nat (β × Nat)} {p : Par β}
variable {ops : Array Oper} {o : Oper} {a : Act} {Q : Exit → Act → World → Prop}
theorem step_cat {K : Act → World → Prop} {E : Prop} (hgd : o.guard = none) (s x : Operand) (ho : o.op = .call { callee := .builtin .append, args := #[s, x], argTypes := #[36, 36] })
 {d : Nd} {sv v : Value} {acc l : List T1} {xs vs : List Value} {lab : T1} {A' : Option Addr} {c' : Nat} (S : S1 w0 w wq br c A L res p j) (H0 : PInv w0 w br A c L i')
 (h : KG w.heap.size w.heap.size W0 b d sv acc xs) (hW : W0.grownBy wq (some br)) (hg0 : W0.heap.size ≤ g0) (C : Cat (KP w.heap.size b sv) w.heap.size wq g0 lab v A' l vs)
 (hs : a.eval s = .slice (some ⟨g0, 0, none⟩) 1 1) (hx : a.eval x = .slice A' l.length c')
 (hK : ∀ A2 c2 xs' w', Hid (S1 w0 w w' br c A L res p j) → Hid (KG w.heap.size w.heap.size w' b d sv acc xs) → Hid (Rows_ (KP w.heap.size b sv) w' A2 (1 + l.length) (lab :: l) xs') → K (a.put o.dst (.slice A2 (1 + l.length) c2)) w') :
 if Region.wanted o (yielded ops a.tmps) = true then Oper.wp Tryz.prog o a wq K Q else E := by
 obtain ⟨i0, hi0, hz0, hz1, hz2⟩ := info_parts infoN
 obtain ⟨B', hrd⟩ := C.reads
 have hbr := H0.row.lt
 have hwW : w.heap.size ≤ W0.heap.size := Nat.le_trans h.kn.low (Nat.le_of_lt h.kn.blk.lt)
 have hlen := C.len
 have hfew := C.few
 have hone : ∀ u ∈ vs, u.oneCell' = true := fun u hu => (kids_one C.rl) u hu
 refine step_app _ hgd s x _ ho w.heap.size 31 i0 _ 1 8 Tryz.underlying36 hi0 hz0 hz1 hz2 rfl (by omega) _ 1 [v] hs C.own B' A' l.length c' vs hx hrd hone (by unfold maxLen; omega) (by omega) (Nat.le_trans hwW hW.size) ?_
 intro A2 c2 w' hown hgk
 have hgk : wq.grownBy w' (some g0) := hgk
 have hWg : W0.grownBy w' (some br) := ⟨hgk.os.trans hW.os, hgk.tape.trans hW.tape, hgk.output.trans hW.output, Nat.le_trans hW.size hgk.size, fun k hk hne => (hgk.block k (Nat.lt_of_lt_of_le hk hW.size) (fun e => by injection e with e; omega)).trans (hW.block k hk hne)⟩
 have hkp : ∀ {f : Fo} {us : List Value}, RepS (fun y => KP w.heap.size b sv y ∧ y ≠ g0) wq f us → RepS (KP w.heap.size b sv) w' f us := fun hr => hr.keep hgk.size (fun y hy hl => hgk.block y hl (fun e => by injection e with e; exact hy.2 e)) (fun y hy _ => hy.1)
 refine hK A2 c2 _ w' (qh ⟨S.pg.gfar H0 hgk (fun k e => by injection e with e; omega), S.eq, S.le⟩) (qh (h.grown hWg hbr nl)) (qh ⟨by rw [List.length_cons]; omega, Reads.of_own hown, ?_, by rw [List.length_append, List.length_singleton, hlen], by omega⟩)
 have := St.rep_app (hkp C.rl) (hkp C.rlab)
 exact repN_of this
end
end De
namespace De
open Go.RowKit
open Tr (Nd Fo RepS RepN Rep cellsN)
open Lx (Tk noTk Blk run_store_complexL TokAt)
open Fl
open Ex
open St (TkS g2_max g2_expr g2_labels Good2 isNm KG KN new_kg new_0 new_1 kid_facts one_ptr bind_ok bind_err need_y need_n tok_y tok_n ret_ add_block sSem sCol sEnd sOf sBar sElse sCase sTo armOut isWd6)
attribute [local go_sem] run_store_complexL run_field0 run_field1 run_field3
theorem bind_ite {α β : Type} {k : Prop} [Decidable k] {p q : Par α} {r : α → Par β} : bindP (if k then p else q) r = if k then bindP p r else bindP q r := by split <;> rfl
theorem S1.isOut {β : Type} {w0 w wx : World} {br c j : Nat} {A : Option Addr} {L : List PT} {res : Except Nat (β × Nat)} {K : Ending → World → Prop} {p : Par β} (S : S1 w0 w wx br c A L res p j) (ht : TkS w0 br A L) {m : Nat} (hm : wx.heap.size = m)
 (C : ∀ w', Hid (S1 w0 w w' br c A L res p j) → Hid (wx.grownBy w' (some br)) → K (.returned (.bool (armOut (tk L j)))) w') :
 Calls Tryz.prog 85 #[.pointer (some ⟨br, 0, none⟩), .slice (some ⟨m, 0, none⟩) 3 3] (wx.alloc (.cells #[.string sBar, .string sElse, .string sEnd] 9)) K := by
 subst hm
 have hl := ht.toks.len
 have hj := S.le
 have hb0 : Below wx.heap.size wx (wx.alloc (.cells #[.string sBar, .string sElse, .string sEnd] 9)) := ((Below.refl _ _).alloc nl _)
 refine (is_any ht.toks (i := j) (by omega) [sBar, sElse, sEnd] (by decide) _ (S.pg.1.below hb0) (S := some ⟨wx.heap.size, 0, none⟩) (c' := 3) (by have := reads_lit wx #[.string sBar, .string sElse, .string sEnd] 9; simpa using this)).mono ?_
 rintro e w' ⟨rfl, hb⟩
 have hb2 := hb0.trans (hb.mono hb0.size)
 rw [show [sBar, sElse, sEnd].any (isT L j) = armOut (tk L j) from by unfold armOut; simp only [List.any_cons, List.any_nil, Bool.or_false, Bool.or_assoc]; rfl]
 exact C w' (qh (S.below hb2)) (qh (grown_of_below hb2 _))
def partQ (g : Nat) (ty : Par T1) (p : Nat × Nat) (nm : ByteArray) (l : List T1) : Par T1 := tokP (tT sElse) (fun u => bindP (plainFs g ty) fun fl => needF sEnd (retP (mk 27 p nm 0 (l ++ [mk 30 u.2.1 sNil 0 fl])))) (needF sEnd (retP (mk 27 p nm 0 l)))
theorem armsR_step {g f : Nat} {ty : Par T1} {acc : List T1} {Q : List T1 → Par T1} : bindP (armsR g ty (f + 1) acc) Q = posP fun t => if armOut t = true then tokP (tT sBar) (fun _ => bindP (armsR g ty f acc) Q) (Q acc)
 else bindP (labelsF g) fun x => needF sCol (bindP (plainFs g ty) fun l => tokP (tT sBar) (fun _ => bindP (armsR g ty f (acc ++ [mk 28 t.2.1 sNil 0 (x :: l)])) Q) (Q (acc ++ [mk 28 t.2.1 sNil 0 (x :: l)]))) := by
 rw [armsR, bind_pos]
 congr 1
 funext t
 rw [bind_ite]
 simp only [bind_assoc, bind_need, bind_tok, bind_ret]
theorem kp_grown {B0 b br : Nat} {sv : Value} {w w' : World} {f : Fo} {vs : List Value} (h : RepS (KP B0 b sv) w f vs) (hg : w.grownBy w' (some br)) (hbr : br < B0) : RepS (KP B0 b sv) w' f vs :=
 h.keep hg.size (fun y hy hl => hg.block y hl (fun e => by injection e with e; have := hy.1; omega)) (fun y hy _ => hy)
theorem part_any {g : Nat} {w0 : World} {br c : Nat} {A : Option Addr} {L : List PT} (ht : TkS w0 br A L) (hgL : L.length < g) {lo : Nat} {ty : Par T1} (hty : Good2 ty) (HTy : Hid (TyOK 100 ty lo w0 br A c L)) (i : Nat) (hlo : lo ≤ i + 1) (hi : i ≤ L.length) (w : World) (h : PInv w0 w br A c L i) :
 Calls Tryz.prog 145 #[.pointer (some ⟨br, 0, none⟩)] w (TreeR w.heap.size w0 w br A c L (partF g ty L i)) := by
 have hbr := h.row.lt
 have H0 := qh h
 have HT := qh ht
 have HFd := qh (fun (j : Nat) (hlo : lo ≤ j) (hj : j ≤ L.length) (w : World) (h : PInv w0 w br A c L j) => (show Calls _ _ _ w (ListB w.heap.size w0 w br A c L (plainFs g ty L j)) from fields_any ht hgL hty St.g2_fail false HTy (qh (fun h => by cases h)) j hlo hj w h))
 obtain ⟨res, hs0⟩ : ∃ r, r = partF g ty L i := ⟨_, rfl⟩
 rw [← hs0]
 have S := qh (S1.start h hi hs0)
 clear h ht hs0 hi
 go_enter Tryz.func145, Tryz.ntmps145
 unfold partF at S
 go_wp2_with fail
 (with_reducible refine S.out.now HT.out ?_)
 clear S
 intro k_p p1 p2 q3_p q4_p t_p n_p wx HPp S hg
 go_wp2_with fail
 (with_reducible refine S.out.need HT.out rfl ?_ ?_)
 ·intro k w1 h hg; go_wp2; exact ⟨rfl, S1.errT h.out hg.out _⟩
 clear S
 intro wx S hg
 go_wp2_with fail
 (with_reducible refine S.out.name HT.out ?_ ?_)
 ·intro k w1 h hg; go_wp2; exact ⟨rfl, S1.errT h.out hg.out _⟩
 clear S
 intro k_n n1 n2 q3_n q4_n t_n n_n wx S hg
 have hbt := S.out.pg.1.row.lt
 have HBt := qh (Blk.new wx 40 #[.int .u8 k_n, .complex .f64 (fl n1) (fl n2), .complex .f64 (fl q3_n) (fl q4_n), .string t_n, .int .i64 n_n])
 have S := qh (S.out.below ((Below.refl _ _).alloc nl (.cells #[.int .u8 k_n, .complex .f64 (fl n1) (fl n2), .complex .f64 (fl q3_n) (fl q4_n), .string t_n, .int .i64 n_n] 40)))
 go_upto_region 4 with fail
 generalize wx.heap.size = bt at *
 generalize wx.alloc (.cells #[.int .u8 k_n, .complex .f64 (fl n1) (fl n2), .complex .f64 (fl q3_n) (fl q4_n), .string t_n, .int .i64 n_n] 40) = wy at *
 go_wp2_with fail
 (with_reducible refine S.out.need HT.out rfl ?_ ?_)
 ·intro k w1 h hg; go_wp2; exact ⟨rfl, S1.errT h.out hg.out _⟩
 clear S
 intro wx S hg
 have HBt := qh (HBt.out.grown hg.out (by intro e; injection e with e; omega))
 go_upto_region 5 with fail
 go_cut [5] (fun xv wc => Hid (∃ b x sv xs J, xv = .pointer (some ⟨b, 0, none⟩) ∧ i ≤ J ∧ S1 w0 w wc br c A L res (needF sOf (bindP (armsR g ty g [x]) (partQ g ty (p1, p2) t_n))) J ∧ KG w.heap.size w.heap.size wc b ⟨27, (p1, p2), t_n, 0⟩ sv [x] xs))
 case first =>
  have S := qh (S.out.below ((Below.refl _ _).drew))
  have HBt := qh (HBt.out.drewN 1)
  have t3 : wx.drew.cell? ⟨bt, 3, none⟩ = some (.string t_n) := HBt.out.cell 3
  have hbl := HBt.out.lt
  have HZ := qh S.out.pg.2.size
  have D1 := qh (S.out.treeD (ref_any HT.out hgL _ S.out.le _ S.out.pg.1) (g2_ref (g := g)))
  clear S
  go_region_law (first
   | (go_simp; go_at_call 146; (with_reducible refine D1.out.mono ?_); rintro e x (⟨k, rfl, h, hgr⟩ | ⟨y, by_, j2, rfl, hj2, S, hgr, hr⟩); (case' inl => exact ⟨rfl, S1.errT h.out hgr.out _⟩); have HB2 := qh (HBt.out.grown hgr.out (by intro e; injection e with e; omega)); have t3 : x.cell? ⟨bt, 3, none⟩ = some (.string t_n) := HB2.out.cell 3; have hbl := HB2.out.lt; have HR := qh (hr.out.more (S' := fun y => w.heap.size ≤ y) fun y hy _ => Nat.le_trans HZ.out hy); have t3b : (x.alloc (.cells #[.pointer (some ⟨by_, 0, none⟩)] 31)).cell? ⟨bt, 3, none⟩ = some (.string t_n) := (HB2.out.below ((Below.refl _ _).alloc nl _) HB2.out.lt).cell 3)
   | (go_simp; go_at_call 33; (with_reducible refine (new_1 (B0 := w.heap.size) (w := x) S.out.pg.2.size 27 27 rfl p1 p2 t_n 0 HR.out x.heap.size rfl).mono ?_); rintro e x2 ⟨b2, sv2, xs2, rfl, hb, hk⟩; have HK := qh (hk.lower S.out.pg.2.size); have S := qh (S.out.below hb); clear hb hk))
  all_goals
   go_wp2_with fail
   go_meet
   exact qh ⟨_, _, _, _, j2, rfl, by omega, S.out, HK.out⟩
 case rest =>
  obtain ⟨b, x0, sv0, xs0, j0, rfl, hij, hc1, hc2⟩ := hcut.out
  clear S HBt hbt
  clear hcut
  have S := qh hc1
  have HK := qh hc2
  clear hc1 hc2
  go_wp2_with fail
  (with_reducible refine S.out.need HT.out rfl ?_ ?_)
  ·intro k w1 h hg; go_wp2; exact ⟨rfl, S1.errT h.out hg.out _⟩
  clear S
  intro wx S hg
  have HK := qh (HK.out.grown hg.out hbr nl)
  go_wp2_with fail
  go_loopg [] (L.length + 1) (fun gh wr => ∃ (acc : List T1) (sv : Value) (xs : List Value) (j f : Nat), lo ≤ j ∧ j ≤ L.length ∧ L.length + 1 - j ≤ gh ∧ L.length < j + f ∧ acc.length ≤ j ∧ Hid (S1 w0 w wr br c A L res (bindP (armsR g ty f acc) (partQ g ty (p1, p2) t_n)) j) ∧ Hid (KG w.heap.size w.heap.size wr b ⟨27, (p1, p2), t_n, 0⟩ sv acc xs))
  case atStart => exact ⟨_, _, _, j0 + 1, g, by omega, S.out.le, by omega, by omega, by simp only [List.length_cons, List.length_nil]; omega, S, HK⟩
  case round =>
   clear S HK
   obtain ⟨acc, sv, xs, j, f, hlj, hj, hgh, hf, hac, S, HK⟩ := hrel
   obtain ⟨f, rfl⟩ : ∃ f', f = f' + 1 := ⟨f - 1, by omega⟩
   have hlen := HT.out.toks.len
   have S := qh (S.out.of (q := posP fun t => if armOut t = true then tokP (tT sBar) (fun _ => bindP (armsR g ty f acc) (partQ g ty (p1, p2) t_n)) (partQ g ty (p1, p2) t_n acc)
    else bindP (labelsF g) fun x => needF sCol (bindP (plainFs g ty) fun l => tokP (tT sBar) (fun _ => bindP (armsR g ty f (acc ++ [mk 28 t.2.1 sNil 0 (x :: l)])) (partQ g ty (p1, p2) t_n)) (partQ g ty (p1, p2) t_n (acc ++ [mk 28 t.2.1 sNil 0 (x :: l)])))) (by rw [armsR_step]))
   go_wp2_with fail
   (with_reducible refine S.out.now HT.out ?_)
   clear S
   intro k_s s1 s2 q3_s q4_s t_s n_s wx HPs S hg
   have HK := qh (HK.out.grown hg.out hbr nl)
   go_wp2_with fail
   (with_reducible refine S.out.isOut HT.out rfl ?_)
   clear S
   intro wx S hg
   have HK := qh (HK.out.grown hg.out hbr nl)
   go_upto_if 36 with fail
   go_cut [] (fun wc => Hid (∃ acc sv xs J, j ≤ J ∧ acc.length ≤ J ∧ S1 w0 w wc br c A L res (tokP (tT sBar) (fun _ => bindP (armsR g ty f acc) (partQ g ty (p1, p2) t_n)) (partQ g ty (p1, p2) t_n acc)) J ∧ KG w.heap.size w.heap.size wc b ⟨27, (p1, p2), t_n, 0⟩ sv acc xs))
   case first =>
    cases hO : armOut (tk L j) with
    | true =>
      have S := qh (S.out.yes (by rw [← HPs.out]; exact hO))
      go_wp2_with fail
      go_meet
      exact qh ⟨acc, _, _, j, Nat.le_refl _, by omega, S.out, HK.out⟩
    | false =>
      have S := qh (S.out.no (by rw [← HPs.out, hO]; simp))
      have HZ := qh S.out.pg.2.size
      go_wp2_with fail
      (with_reducible refine S.out.tree (of_L HT.out hgL _ (by have := S.out.le; have := HT.out.toks.len; omega) _ S.out.pg.1) (g2_labels (g := g)) ?_ ?_)
      ·intro k w1 h hg; go_wp2; exact ⟨rfl, S1.errT h.out hg.out _⟩
      clear S
      intro x bx j1 wx hj1 S hg Hx
      have HX := qh (show RepS (KP w.heap.size b sv) wx (forest [x]) [.pointer (some ⟨bx, 0, none⟩)] from HK.out.new Hx.out nl)
      have HK := qh (HK.out.grown hg.out hbr nl)
      clear HZ Hx
      go_wp2_with fail
      (with_reducible refine S.out.need HT.out rfl ?_ ?_)
      ·intro k w1 h hg; go_wp2; exact ⟨rfl, S1.errT h.out hg.out _⟩
      clear S
      intro wx S hg
      have HX := qh (kp_grown HX.out hg.out hbr)
      have HK := qh (HK.out.grown hg.out hbr nl)
      go_upto_region 11 with fail
      have hwx := S.out.pg.2.size
      have hjl := S.out.le
      have SD := qh (S.out.below ((Below.refl _ _).drew))
      have D1 := qh (SD.out.listBD (HFd.out _ (by omega) SD.out.le _ SD.out.pg.1) (g2_plainFs hty))
      have S2 := qh (S.out.below (((Below.refl _ _).alloc nl (.cells #[.pointer (some ⟨bx, 0, none⟩)] 31)).drew))
      have D2 := qh (S2.out.listBD (HFd.out _ (by omega) S2.out.le _ S2.out.pg.1) (g2_plainFs hty))
      have HK0 := HK
      have HKD := qh (HK.out.below ((Below.refl _ _).drew))
      have HX2 := HX
      obtain ⟨m4, m4f, hbl4⟩ := HK.out.kn.facts
      clear S SD S2 HK
      go_region_law (first
       | (go_simp; go_at_call 122; (with_reducible refine D1.out.mono ?_); rintro e y (⟨k, rfl, h, hgr⟩ | ⟨l, A', c', xsl, j3, rfl, hln, hj3, S, hgr, HL⟩); (case' inl => exact ⟨rfl, S1.errT h.out hgr.out _⟩); have HKX := qh (HKD.out.grown hgr.out hbr nl); obtain ⟨t4, t4f, hbx⟩ := HKX.out.kn.facts; have hg0 := hgr.out.size; have CT := qh (Cat.after (lab := x) (bl := bx) HKD.out (kp_grown (HX.out.below ((Below.refl _ _).drew)) hgr.out hbr) HL.out hln (Nat.le_trans hwx hg0)); have S := qh (S.out.below ((Below.refl _ _).alloc nl (.cells #[.pointer (some ⟨bx, 0, none⟩)] 31))); have HGW := qh (grown_trans (grown_trans (grown_of_below ((Below.refl _ _).drew) _) hgr.out) (grown_of_below ((Below.refl _ _).alloc nl (.cells #[.pointer (some ⟨bx, 0, none⟩)] 31)) _)); clear HL hgr)
       | (go_simp; go_at_call 122; (with_reducible refine D2.out.mono ?_); rintro e y (⟨k, rfl, h, hgr⟩ | ⟨l, A', c', xsl, j3, rfl, hln, hj3, S, hgr, HL⟩); (case' inl => exact ⟨rfl, S1.errT h.out hgr.out _⟩); have hg0 := wx.heap.size; have HGW := qh (grown_trans (grown_of_below (((Below.refl _ _).alloc nl (.cells #[.pointer (some ⟨bx, 0, none⟩)] 31)).drew) _) hgr.out); have HKX := qh (HK0.out.grown HGW.out hbr nl); obtain ⟨t4, t4f, hbx⟩ := HKX.out.kn.facts; have CT := qh (Cat.ahead (lab := x) (bl := bx) HK0.out HX.out ((Below.refl _ _).drew) (by show (wx.alloc _).heap.size = _; rw [World.size_alloc]) hgr.out hbr HL.out hln hwx); clear HL hgr)
       | (refine step_cat (by rfl) _ _ (by rfl) S.out H0.out HK0.out HGW.out (by first | exact Nat.le_refl _ | exact hg0) CT.out (by rfl) (by rfl) ?_; clear S CT HGW; intro A2 c2 xs2 w5 S HK HN; obtain ⟨s4, s4f, hb5⟩ := HK.out.kn.facts)
       | (go_simp; go_at_call 33; (with_reducible refine (new_inN HK.out nl 28 28 rfl s1 s2 sNil 0 HN.out).mono ?_); rintro e w6 ⟨b6, rfl, hb, hr⟩; have HR := qh hr; have S := qh (S.out.below hb); have HK := qh (HK.out.below hb); clear hb hr; obtain ⟨r4, r4f, hb6⟩ := HK.out.kn.facts)
       | (refine step_pushK (by rfl) _ _ (by rfl) (m := w6.heap.size) (bY := b6) (t := mk 28 (s1, s2) sNil 0 (x :: l)) S.out H0.out HK.out (by omega) HR.out (by rfl) (by rfl) (by rfl) ?_; clear S HK; intro g' cap xs' w7 u4 u4f hb7 S HK))
      all_goals
       have hjl3 := S.out.le
       go_wp2_with fail
       go_meet
       exact qh ⟨_, _, _, j3, by omega, by simp only [List.length_append, List.length_cons, List.length_nil]; omega, S.out, HK.out⟩
   case rest =>
    obtain ⟨acc, sv, xs, J, hjJ, hac, hc1, hc2⟩ := hcut.out
    clear S HK HPs
    clear hcut
    have S := qh hc1
    have HK := qh hc2
    clear hc1 hc2
    go_wp2_with fail
    (with_reducible refine S.out.eatb HT.out ?_)
    clear S
    intro bv j4 wx hbv hj4 S hg
    have HK := qh (HK.out.grown hg.out hbr nl)
    cases bv with
    | true =>
      have hjl := S.out.le
      have hj5 := hj4.2 rfl
      go_wp2
      go_roundg (L.length + 1 - j4)
      case rel => exact ⟨_, _, _, j4, f, by omega, by omega, by omega, by omega, by omega, S, HK⟩
      case measure => omega
    | false =>
      go_wp2_with fail
      (with_reducible refine S.out.now' HT.out ?_)
      clear S
      intro k_s s1 s2 q3_s q4_s t_s n_s wx HPs S hg
      have HK := qh (HK.out.grown hg.out hbr nl)
      unfold partQ at S
      go_wp2_with fail
      (with_reducible refine S.out.eatb HT.out ?_)
      clear S
      intro bv j4 wx hbv hj4 S hg
      have HK := qh (HK.out.grown hg.out hbr nl)
      have hj4 := hj4.1
      go_upto_if 65 with fail
      go_cut [] (fun wc => Hid (∃ acc sv xs J, S1 w0 w wc br c A L res (needF sEnd (retP (mk 27 (p1, p2) t_n 0 acc))) J ∧ KG w.heap.size w.heap.size wc b ⟨27, (p1, p2), t_n, 0⟩ sv acc xs))
      case first =>
       cases bv with
       | true =>
         have S := qh (show S1 w0 w wx br c A L res (bindP (plainFs g ty) fun fl => needF sEnd (retP (mk 27 (p1, p2) t_n 0 (acc ++ [mk 30 (s1, s2) sNil 0 fl])))) j4 from by have h := S.out; dsimp only at h; rw [HPs.out] at h; exact h)
         have hjl9 := S.out.le
         go_wp2_with fail
         have HSZ := qh S.out.pg.2.size
         have D1 := qh ((S.out.below ((Below.refl _ _).drew)).listBD (HFd.out _ (by omega) S.out.le _ (S.out.pg.1.below ((Below.refl _ _).drew))) (g2_plainFs hty))
         have HKD := qh (HK.out.below ((Below.refl _ _).drew))
         have HKL := qh HK.out.len
         obtain ⟨m4, m4f, hbl4⟩ := HK.out.kn.facts
         clear S HK
         go_region_law (first
          | (go_simp; go_at_call 122; (with_reducible refine D1.out.mono ?_); rintro e y (⟨k, rfl, h, hgr⟩ | ⟨l, A', c', xsl, j3, rfl, hln, hj3, S, hgr, HL⟩); (case' inl => exact ⟨rfl, S1.errT h.out hgr.out _⟩); have HK := qh (HKD.out.grown hgr.out hbr nl); obtain ⟨t4, t4f, hbx⟩ := HK.out.kn.facts; have HN := qh (KG.bundle HKD.out nl HL.out hln); clear HL hgr)
          | (go_simp; go_at_call 33; (with_reducible refine (new_inN HK.out nl 30 30 rfl s1 s2 sNil 0 HN.out).mono ?_); rintro e w6 ⟨b6, rfl, hb, hr⟩; have HR := qh hr; have S := qh (S.out.below hb); have HK := qh (HK.out.below hb); clear hb hr; obtain ⟨r4, r4f, hb6⟩ := HK.out.kn.facts)
          | (refine step_pushK (by rfl) _ _ (by rfl) (m := w6.heap.size) (bY := b6) (t := mk 30 (s1, s2) sNil 0 l) S.out H0.out HK.out (by omega) HR.out (by rfl) (by rfl) (by rfl) ?_; clear S HK; intro g' cap xs' w7 u4 u4f hb7 S HK))
         all_goals
          go_wp2_with fail
          go_meet
          exact qh ⟨_, _, _, j3, S.out, HK.out⟩
       | false =>
         go_wp2_with fail
         go_meet
         exact qh ⟨acc, _, _, j4, S.out, HK.out⟩
      case rest =>
       obtain ⟨acc2, sv2, xs2, J2, hc1, hc2⟩ := hcut.out
       clear S HK
       clear hcut
       have S := qh hc1
       have HK := qh hc2
       clear hc1 hc2
       go_wp2_with fail
       (with_reducible refine S.out.need HT.out rfl ?_ ?_)
       ·intro k w1 h hg; go_wp2; exact ⟨rfl, S1.errT h.out hg.out _⟩
       clear S
       intro wx S hg
       have HK := qh (HK.out.grown hg.out hbr nl)
       have Hb := qh (HK.out.done nl)
       go_wp2
       go_ret
       exact S.out.doneT Hb.out
end De
namespace De
open Go.RowKit
open Tr (Nd Fo RepS RepN Rep cellsN)
open Lx (Tk noTk Blk run_store_complexL TokAt)
open Fl
open Ex
open St (TkS g2_max g2_expr g2_labels Good2 isNm KG KN new_kg new_0 kid_facts one_ptr bind_ok bind_err need_y need_n tok_y tok_n ret_ add_block sSem sCol sEnd sOf sBar sElse sCase sTo armOut isWd6)
attribute [local go_sem] run_store_complexL run_field0 run_field1 run_field3
theorem array_step {g : Nat} {w0 : World} {br c : Nat} {A : Option Addr} {L : List PT} (ht : TkS w0 br A L) (hgL : L.length < g) {lo : Nat} {ty : Par T1} (hty : Good2 ty) (HTy : Hid (TyOK 100 ty lo w0 br A c L)) (f p1 p2 i : Nat) (HAr : Hid (∀ j, i < j → j ≤ L.length → ∀ q1 q2 w, PInv w0 w br A c L j → Calls Tryz.prog 121 #[.pointer (some ⟨br, 0, none⟩), .complex .f64 (fl q1) (fl q2)] w (TreeR w.heap.size w0 w br A c L (arrayR g ty f (q1, q2) L j)))) (hlo : lo ≤ i + 1) (hi : i ≤ L.length) (w : World) (h : PInv w0 w br A c L i) :
 Calls Tryz.prog 121 #[.pointer (some ⟨br, 0, none⟩), .complex .f64 (fl p1) (fl p2)] w (TreeR w.heap.size w0 w br A c L (arrayR g ty (f + 1) (p1, p2) L i)) := by
 have hbr := h.row.lt
 have H0 := qh h
 have HT := qh ht
 obtain ⟨res, hs0⟩ : ∃ r, r = arrayR g ty (f + 1) (p1, p2) L i := ⟨_, rfl⟩
 rw [← hs0]
 have S := qh (S1.start h hi hs0)
 clear h ht hs0 hi
 go_enter Tryz.func121, Tryz.ntmps121
 unfold arrayR at S
 have HZ := qh S.out.pg.2.size
 go_wp2_with fail
 (with_reducible refine S.out.tree (simple_any HT.out hgL _ S.out.le _ S.out.pg.1) (g2_simple (g := g)) ?_ ?_)
 ·intro k w1 h hg; go_wp2; exact ⟨rfl, S1.errT h.out hg.out _⟩
 clear S
 intro x bx j1 wx hj1 S hg Hx
 have Hx := qh (Hx.out.more (S' := fun y => w.heap.size ≤ y) fun y hy _ => Nat.le_trans HZ.out hy)
 clear HZ
 go_wp2_with fail
 (with_reducible refine S.out.now' HT.out ?_)
 clear S
 intro k_s s1 s2 q3_s q4_s t_s n_s wx HPs S hg
 have Hx := qh (repS_grown Hx.out hg.out hbr)
 go_wp2_with fail
 (with_reducible refine S.out.eat HT.out ?_ ?_)
 ·clear S
  intro wx S hg hT
  have Hx := qh (repS_grown Hx.out hg.out hbr)
  have S := qh (show S1 w0 w wx br c A L res (bindP (arrayR g ty f (s1, s2)) fun y => retP (mk 23 (p1, p2) sNil 0 [x, y])) (j1 + 1) from by have h := S.out; rw [HPs.out] at h; exact h)
  have HZ := qh S.out.pg.2.size
  go_wp2_with fail
  (with_reducible refine S.out.tree (HAr.out _ (by omega) S.out.le _ _ _ S.out.pg.1) (g2_array hty _ _) ?_ ?_)
  ·intro k w1 h hg; go_wp2; exact ⟨rfl, S1.errT h.out hg.out _⟩
  clear S
  intro y b_y j2 wx hj2 S hg Hy
  have Hx := qh (repS_grown Hx.out hg.out hbr)
  have Hy := qh (Hy.out.more (S' := fun y => w.heap.size ≤ y) fun y hy _ => Nat.le_trans HZ.out hy)
  clear HZ
  have NW := qh (St.new_lit (B := w.heap.size) (w := wx) S.out.pg.2.size 23 23 rfl p1 p2 sNil [.pointer (some ⟨bx, 0, none⟩), .pointer (some ⟨b_y, 0, none⟩)] [x, y] wx.heap.size rfl 2 rfl (by decide) (repN_of (repS_cons Hx.out Hy.out)))
  go_wp2_with fail
  ((with_reducible refine NW.out.mono ?_); rintro e wy ⟨b, rfl, hb, hr⟩)
  have Hb := qh hr
  have S := qh (S.out.below hb)
  clear hb hr NW
  go_wp2
  go_ret
  exact S.out.doneT Hb.out
 ·clear S
  intro wx S hg hT
  have Hx := qh (repS_grown Hx.out hg.out hbr)
  go_wp2_with fail
  (with_reducible refine S.out.need HT.out rfl ?_ ?_)
  ·intro k w1 h hg; go_wp2; exact ⟨rfl, S1.errT h.out hg.out _⟩
  clear S
  intro wx S hg
  have Hx := qh (repS_grown Hx.out hg.out hbr)
  have HZ := qh S.out.pg.2.size
  go_wp2_with fail
  (with_reducible refine S.out.tree (HTy.out _ (by omega) S.out.le _ S.out.pg.1) (hty) ?_ ?_)
  ·intro k w1 h hg; go_wp2; exact ⟨rfl, S1.errT h.out hg.out _⟩
  clear S
  intro y b_y j2 wx hj2 S hg Hy
  have Hx := qh (repS_grown Hx.out hg.out hbr)
  have Hy := qh (Hy.out.more (S' := fun y => w.heap.size ≤ y) fun y hy _ => Nat.le_trans HZ.out hy)
  clear HZ
  have NW := qh (St.new_lit (B := w.heap.size) (w := wx) S.out.pg.2.size 23 23 rfl p1 p2 sNil [.pointer (some ⟨bx, 0, none⟩), .pointer (some ⟨b_y, 0, none⟩)] [x, y] wx.heap.size rfl 2 rfl (by decide) (repN_of (repS_cons Hx.out Hy.out)))
  go_wp2_with fail
  ((with_reducible refine NW.out.mono ?_); rintro e wy ⟨b, rfl, hb, hr⟩)
  have Hb := qh hr
  have S := qh (S.out.below hb)
  clear hb hr NW
  go_wp2
  go_ret
  exact S.out.doneT Hb.out
theorem array_any {g : Nat} {w0 : World} {br c : Nat} {A : Option Addr} {L : List PT} (ht : TkS w0 br A L) (hgL : L.length < g) {lo : Nat} {ty : Par T1} (hty : Good2 ty) (HTy : Hid (TyOK 100 ty lo w0 br A c L)) : ∀ (f i : Nat), lo ≤ i + 1 → i ≤ L.length → L.length < i + f → ∀ p1 p2 w, PInv w0 w br A c L i →
 Calls Tryz.prog 121 #[.pointer (some ⟨br, 0, none⟩), .complex .f64 (fl p1) (fl p2)] w (TreeR w.heap.size w0 w br A c L (arrayR g ty f (p1, p2) L i)) := by
 intro f
 induction f with
 | zero => intro i hlo hi hf; omega
 | succ f ih =>
   intro i hlo hi hf p1 p2 w h
   exact array_step ht hgL hty HTy f p1 p2 i (qh fun j hj hjl q1 q2 w h => ih j (by omega) hjl (by omega) q1 q2 w h) hlo hi w h
theorem typ_step {g : Nat} {w0 : World} {br c : Nat} {A : Option Addr} {L : List PT} (ht : TkS w0 br A L) (hgL : L.length < g) {ty : Par T1} (hty : Good2 ty) (i : Nat) (HTy : Hid (TyOK 100 ty (i + 1) w0 br A c L)) (hi : i ≤ L.length) (w : World) (h : PInv w0 w br A c L i) :
 Calls Tryz.prog 100 #[.pointer (some ⟨br, 0, none⟩)] w (TreeR w.heap.size w0 w br A c L (typG g ty L i)) := by
 have hbr := h.row.lt
 have H0 := qh h
 have HT := qh ht
 have HPt := qh (show PartOK true 145 (partF g ty) (i + 1) w0 br A c L from fun _ j hlj hj w h => part_any ht hgL hty HTy j (by omega) hj w h)
 have HFt := qh (fun (j : Nat) (hlo : i + 1 ≤ j) (hj : j ≤ L.length) (w : World) (h : PInv w0 w br A c L j) => (show Calls _ _ _ w (ListB w.heap.size w0 w br A c L (fieldsR g ty (partF g ty) true g [] L j)) from fields_any ht hgL hty (g2_part hty) true HTy HPt j hlo hj w h))
 clear HPt
 obtain ⟨res, hs0⟩ : ∃ r, r = typG g ty L i := ⟨_, rfl⟩
 rw [← hs0]
 have S := qh (S1.start h hi hs0)
 clear h ht hs0 hi
 go_enter Tryz.func100, Tryz.ntmps100
 unfold typG at S
 go_wp2_with fail
 (with_reducible refine S.out.now HT.out ?_)
 clear S
 intro k_p p1 p2 q3_p q4_p t_p n_p wx HPp S hg
 go_wp2_with fail
 (with_reducible refine S.out.eat HT.out ?_ ?_)
 ·clear S
  intro wx S hg hT
  have S := qh (S.out.of (bind_pure _ _ _))
  have HZ := qh S.out.pg.2.size
  go_wp2_with fail
  (with_reducible refine S.out.tree (array_any HT.out hgL hty HTy g _ (by omega) S.out.le (by omega) _ _ _ S.out.pg.1) (g2_array hty _ _) ?_ ?_)
  ·intro k w1 h hg; go_wp2; exact ⟨rfl, S1.errT h.out hg.out _⟩
  clear S
  intro x bx j9 wx hj9 S hg Hx
  have Hx := qh (Hx.out.more (S' := fun y => w.heap.size ≤ y) fun y hy _ => Nat.le_trans HZ.out hy)
  clear HZ
  go_wp2
  go_ret
  exact S.out.doneT Hx.out
 ·clear S
  intro wx S hg hT
  go_wp2_with fail
  (with_reducible refine S.out.eat HT.out ?_ ?_)
  ·clear S
   intro wx S hg hT
   unfold recF at S
   have HZ := qh S.out.pg.2.size
   go_wp2_with fail
   (with_reducible refine S.out.listB (HFt.out _ (by omega) S.out.le _ S.out.pg.1) (g2_fields hty (g2_part hty) _ _) ?_ ?_)
   ·intro k w1 h hg; go_wp2; exact ⟨rfl, S1.errT h.out hg.out _⟩
   clear S
   intro l A' c' xsl j1 wx hln hj1 S hg Hl
   have Hl := qh (Hl.out.lower HZ.out)
   clear HZ
   have NW := qh (new_lg (B := w.heap.size) (w := wx) S.out.pg.2.size 25 25 rfl p1 p2 sNil 0 Hl.out (by omega))
   go_wp2_with fail
   ((with_reducible refine NW.out.mono ?_); rintro e wy ⟨b, rfl, hb, hr⟩)
   have Hb := qh hr
   have S := qh (S.out.below hb)
   clear hb hr NW
   go_wp2_with fail
   (with_reducible refine S.out.need HT.out rfl ?_ ?_)
   ·intro k w1 h hg; go_wp2; exact ⟨rfl, S1.errT h.out hg.out _⟩
   clear S
   intro wx S hg
   have Hb := qh (repS_grown Hb.out hg.out hbr)
   go_wp2
   go_ret
   exact S.out.doneT Hb.out
  ·clear S
   intro wx S hg hT
   go_wp2_with fail
   (with_reducible refine S.out.eat HT.out ?_ ?_)
   ·clear S
    intro wx S hg hT
    unfold setF at S
    go_wp2_with fail
    (with_reducible refine S.out.need HT.out rfl ?_ ?_)
    ·intro k w1 h hg; go_wp2; exact ⟨rfl, S1.errT h.out hg.out _⟩
    clear S
    intro wx S hg
    have HZ := qh S.out.pg.2.size
    go_wp2_with fail
    (with_reducible refine S.out.tree (simple_any HT.out hgL _ S.out.le _ S.out.pg.1) (g2_simple (g := g)) ?_ ?_)
    ·intro k w1 h hg; go_wp2; exact ⟨rfl, S1.errT h.out hg.out _⟩
    clear S
    intro x bx j1 wx hj1 S hg Hx
    have Hx := qh (Hx.out.more (S' := fun y => w.heap.size ≤ y) fun y hy _ => Nat.le_trans HZ.out hy)
    clear HZ
    have NW := qh (St.new_lit (B := w.heap.size) (w := wx) S.out.pg.2.size 31 31 rfl p1 p2 sNil [.pointer (some ⟨bx, 0, none⟩)] [x] wx.heap.size rfl 1 rfl (by decide) (repN_of Hx.out))
    go_wp2_with fail
    ((with_reducible refine NW.out.mono ?_); rintro e wy ⟨b, rfl, hb, hr⟩)
    have Hb := qh hr
    have S := qh (S.out.below hb)
    clear hb hr NW
    go_wp2
    go_ret
    exact S.out.doneT Hb.out
   ·clear S
    intro wx S hg hT
    go_wp2_with fail
    (with_reducible refine S.out.eat HT.out ?_ ?_)
    ·clear S
     intro wx S hg hT
     unfold ptrF at S
     go_wp2_with fail
     (with_reducible refine S.out.need HT.out rfl ?_ ?_)
     ·intro k w1 h hg; go_wp2; exact ⟨rfl, S1.errT h.out hg.out _⟩
     clear S
     intro wx S hg
     have HZ := qh S.out.pg.2.size
     go_wp2_with fail
     (with_reducible refine S.out.tree (HTy.out _ (by omega) S.out.le _ S.out.pg.1) (hty) ?_ ?_)
     ·intro k w1 h hg; go_wp2; exact ⟨rfl, S1.errT h.out hg.out _⟩
     clear S
     intro x bx j1 wx hj1 S hg Hx
     have Hx := qh (Hx.out.more (S' := fun y => w.heap.size ≤ y) fun y hy _ => Nat.le_trans HZ.out hy)
     clear HZ
     have NW := qh (St.new_lit (B := w.heap.size) (w := wx) S.out.pg.2.size 32 32 rfl p1 p2 sNil [.pointer (some ⟨bx, 0, none⟩)] [x] wx.heap.size rfl 1 rfl (by decide) (repN_of Hx.out))
     go_wp2_with fail
     ((with_reducible refine NW.out.mono ?_); rintro e wy ⟨b, rfl, hb, hr⟩)
     have Hb := qh hr
     have S := qh (S.out.below hb)
     clear hb hr NW
     go_wp2
     go_ret
     exact S.out.doneT Hb.out
    ·clear S
     intro wx S hg hT
     go_wp2_with fail
     (with_reducible refine S.out.eat HT.out ?_ ?_)
     ·clear S
      intro wx S hg hT
      unfold prcF at S
      have HZ := qh S.out.pg.2.size
      go_wp2_with fail
      (with_reducible refine S.out.nilr (formals_any HT.out hgL _ S.out.le _ S.out.pg.1) (g2_params (g := g)) ?_ ?_)
      ·intro k w1 h hg; go_wp2; exact ⟨rfl, S1.errT h.out hg.out _⟩
      clear S
      intro l A' c' xsl j1 wx hj1 S hg HN
      have NW := qh (new_nr (c' := c') (B := w.heap.size) (w := wx) S.out.pg.2.size 33 33 rfl p1 p2 sNil 0 HN.out HZ.out)
      go_wp2_with fail
      ((with_reducible refine NW.out.mono ?_); rintro e wy ⟨b, rfl, hb, hr⟩)
      have Hb := qh hr
      have S := qh (S.out.below hb)
      clear hb hr NW
      go_wp2
      go_ret
      exact S.out.doneT Hb.out
     ·clear S
      intro wx S hg hT
      have S := qh (S.out.of (bind_pure _ _ _))
      have HZ := qh S.out.pg.2.size
      go_wp2_with fail
      (with_reducible refine S.out.tree (simple_any HT.out hgL _ S.out.le _ S.out.pg.1) (g2_simple (g := g)) ?_ ?_)
      ·intro k w1 h hg; go_wp2; exact ⟨rfl, S1.errT h.out hg.out _⟩
      clear S
      intro x bx j9 wx hj9 S hg Hx
      have Hx := qh (Hx.out.more (S' := fun y => w.heap.size ≤ y) fun y hy _ => Nat.le_trans HZ.out hy)
      clear HZ
      go_wp2
      go_ret
      exact S.out.doneT Hx.out
theorem typ_any {g : Nat} {w0 : World} {br c : Nat} {A : Option Addr} {L : List PT} (ht : TkS w0 br A L) (hgL : L.length < g) : ∀ (f i : Nat), L.length < i + f → i ≤ L.length → ∀ w, PInv w0 w br A c L i →
 Calls Tryz.prog 100 #[.pointer (some ⟨br, 0, none⟩)] w (TreeR w.heap.size w0 w br A c L (typF g f L i)) := by
 intro f
 induction f with
 | zero => intro i hf hi; omega
 | succ f ih =>
   intro i hf hi w h
   exact typ_step (ty := typF g f) ht hgL (g2_typF f) i (qh fun j hj hjl w h => ih j (by omega) hjl w h) hi w h
end De
end Go.Proofs.YtkemhmfdooghkaaGreatDoor
