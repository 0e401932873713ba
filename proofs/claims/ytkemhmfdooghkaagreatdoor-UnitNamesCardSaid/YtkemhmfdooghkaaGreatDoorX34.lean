import Derived.Test.YtkemhmfdooghkaaGreatDoorX33
set_option linter.unusedSimpArgs false
set_option linter.unusedVariables false
set_option maxRecDepth 100000
set_option maxHeartbeats 6400000
namespace Go.Proofs.YtkemhmfdooghkaaGreatDoor
namespace St
open Go.RowKit
open Tr (Nd Fo RepS RepN Rep cellsN)
open Lx (Tk noTk Blk run_store_complexL TokAt)
open Fl
open Ex
attribute [local go_sem] run_store_complexL run_fieldY0 run_field1 run_field3
theorem repNy_cons {S : Nat → Prop} {w : World} {x : T1} {v : Value} {l : List T1} {vs : List Value} (h1 : RepN S w (forest [x]) [v]) (h2 : RepN S w (forest l) vs) : RepN S w (forest (x :: l)) (v :: vs) := by
 unfold forest RepN at h1 ⊢
 obtain ⟨v', vs', e, h3, _⟩ := h1
 injection e with e _
 subst e
 exact ⟨v, vs, rfl, h3, h2⟩
theorem repNy_keep {S S' : Nat → Prop} {w w' : World} (hsz : w.heap.size ≤ w'.heap.size) (hk : ∀ x, S x → x < w.heap.size → w'.heap[x]? = w.heap[x]?) (hS : ∀ x, S x → x < w.heap.size → S' x) : ∀ {f : Fo} {vs : List Value}, RepN S w f vs → RepN S' w' f vs
 | .no, vs, h => by unfold RepN at h ⊢; exact h
 | .node d k r, vs, h => by
   unfold RepN at h ⊢
   obtain ⟨v, vs', h1, h2, h3⟩ := h
   exact ⟨v, vs', h1, h2.imp id (fun h => h.keep hsz hk hS), repNy_keep hsz hk hS h3⟩
theorem repNy_grown {B br : Nat} {w w' : World} {f : Fo} {vs : List Value} (h : RepN (fun y => B ≤ y) w f vs) (hg : w.grownBy w' (some br)) (hbr : br < B) : RepN (fun y => B ≤ y) w' f vs :=
 repNy_keep hg.size (fun y hy hl => hg.block y hl (fun e => by injection e with e; omega)) (fun y hy _ => hy) h
theorem zeroy {S : Nat → Prop} {w : World} : RepN S w (forest [zeroT]) [.pointer none] := by
 unfold forest RepN
 exact ⟨_, [], rfl, .inl ⟨rfl, rfl, rfl⟩, by unfold forest RepN; rfl⟩
theorem oney {S : Nat → Prop} {w : World} {x : T1} {v : Value} (h : RepS S w (.node x.1 x.2 .no) [v]) : RepN S w (forest [x]) [v] := by
 unfold forest RepN
 exact ⟨v, [], rfl, .inr h, by unfold forest RepN; rfl⟩
theorem between_y {e : Par T1} {g : Nat} {s : ByteArray} {β : Type} {Q : List T1 → Par β} : bindP (betweenF e g s) Q = tokP (tT s) (fun _ => Q []) (bindP e fun x => bindP (manyRF e g [x]) fun l => needF s (Q l)) := by
 unfold betweenF manyF
 simp only [sb_tok, sb_assoc, sb_need, sb_ret]
theorem manyR_y {e : Par T1} {f : Nat} {acc : List T1} {β : Type} {Q : List T1 → Par β} : bindP (manyRF e (f + 1) acc) Q = tokP (tT sCom) (fun _ => bindP e fun y => bindP (manyRF e f (acc ++ [y])) Q) (Q acc) := by
 rw [manyRF]
 simp only [sb_tok, sb_assoc, sb_ret]
theorem retOut_yes {t : PT} {s : ByteArray} (hs : s ∈ [sSem, sBar, sEnd, sElse, sElsif, sUntil]) (h : tT s t = true) : retOut t = true := by
 simp only [List.mem_cons, List.not_mem_nil, or_false] at hs
 unfold retOut
 rcases hs with rfl | rfl | rfl | rfl | rfl | rfl <;> rw [h] <;> simp
theorem retOut_no {t : PT} (h0 : decide (t.1.kind = 0) = false) (h : ∀ s ∈ [sSem, sBar, sEnd, sElse, sElsif, sUntil], tT s t = false) : retOut t = false := by
 unfold retOut
 rw [h0, h sSem (by simp), h sBar (by simp), h sEnd (by simp), h sElse (by simp), h sElsif (by simp), h sUntil (by simp)]
 rfl
theorem retOut_y {t : PT} : retOut t = (decide (t.1.kind = 0) || [sSem, sBar, sEnd, sElse, sElsif, sUntil].any fun s => tT s t) := by
 unfold retOut
 simp only [List.any_cons, List.any_nil, Bool.or_false, Bool.or_assoc]
theorem fors_y {g : Nat} {w0 : World} {br c : Nat} {A : Option Addr} {L : List PT} (ht : TkS w0 br A L) (hgL : L.length < g) {bd : Par T1} (hbd : Good2 bd) {lo : Nat} (HBd : Hid (TyS 97 bd lo w0 br A c L)) (i : Nat) (hlo : lo ≤ i) (hi : i ≤ L.length) (p1 p2 : Nat) (w : World) (h : PInv w0 w br A c L i) :
 Calls Tryz.prog 114 #[.pointer (some ⟨br, 0, none⟩), .complex .f64 (fl p1) (fl p2)] w (TreeR w.heap.size w0 w br A c L (forS g bd (p1, p2) L i)) := by
 have hbr := h.row.lt
 have H0 := qh h
 have HT := qh ht
 obtain ⟨res, hs0⟩ : ∃ r, r = forS g bd (p1, p2) L i := ⟨_, rfl⟩
 rw [← hs0]
 have S := qh (S1.start h hi hs0)
 clear h ht hs0 hi
 go_enter Tryz.func114, Tryz.ntmps114
 unfold forS at S
 go_wp2_with fail
 (with_reducible refine S.out.now' HT.out ?_)
 clear S
 intro k_n n1 n2 q3_n q4_n t_n n_n wx HPn S hg
 have hbt := S.out.pg.1.row.lt
 have HBt := qh (Blk.new wx 40 #[.int .u8 k_n, .complex .f64 (fl n1) (fl n2), .complex .f64 (fl q3_n) (fl q4_n), .string t_n, .int .i64 n_n])
 have S := qh (S.out.below ((Below.refl _ _).alloc nl (.cells #[.int .u8 k_n, .complex .f64 (fl n1) (fl n2), .complex .f64 (fl q3_n) (fl q4_n), .string t_n, .int .i64 n_n] 40)))
 go_upto_region 2 with fail
 generalize wx.heap.size = bt at *
 generalize wx.alloc (.cells #[.int .u8 k_n, .complex .f64 (fl n1) (fl n2), .complex .f64 (fl q3_n) (fl q4_n), .string t_n, .int .i64 n_n] 40) = wx at *
 have t0 := HBt.out.cell 0
 simp only [List.getElem?_toArray, List.getElem?_cons_zero, List.getElem?_cons_succ] at t0
 obtain ⟨m1, f1, hlt⟩ := S.out.pg.1.at_
 have x0 : (0 : Int) ≤ (i : Int) := by omega
 have hix : i ≤ 900000 := by have := S.out.le; have := HT.out.toks.len; omega
 cases hN : isNm (tk L i) with
 | false =>
   have k1 : ((k_n : Int) != 1) = true := by
    rw [HPn.out] at hN
    have : ¬ k_n = 1 := of_decide_eq_false hN
    rw [bne_iff_ne]; omega
   have HS := qh (S.out.eq.trans (tok_n (t := isNm) hN))
   clear hN
   go_wp2
   exact ⟨rfl, S1.errT HS.out S.out.pg.2 _⟩
 | true =>
   have k1 : ((k_n : Int) != 1) = false := by
    rw [HPn.out] at hN
    have : k_n = 1 := of_decide_eq_true hN
    rw [bne_eq_false_iff_eq]; omega
   have S2 := S.out.inc hN rfl
   rw [HPn.out] at S2
   have HBt := qh (HBt.out.far (p := ⟨br, 1, none⟩) (show bt ≠ br by omega) (.int .i64 (i + 1 : Nat)))
   rw [show ((i + 1 : Nat) : Int) = (i : Int) + 1 from rfl] at S2 HBt
   clear S hN
   have S := qh (show S1 w0 w (wx.setCell ⟨br, 1, none⟩ (.int .i64 ((i : Int) + 1))) br c A L res (needF sAsg (bindP (exprF g) fun a => needF sTo (bindP (exprF g) fun z => tokP (tT sBy) (fun _ => bindP (exprF g) fun y => forE bd (p1, p2) t_n a z y) (forE bd (p1, p2) t_n a z zeroT)))) (i + 1) from S2)
   clear S2
   go_wp2_with fail
   (with_reducible refine S.out.need HT.out ?_ ?_)
   ·intro k w1 h hg; go_wp2; exact ⟨rfl, S1.errT h.out hg.out _⟩
   clear S m1 f1 hlt t0 k1
   intro wx S hg
   have HBt := qh (HBt.out.grown hg.out (by intro e; injection e with e; omega))
   have HZ := qh S.out.pg.2.size
   go_wp2_with fail
   (with_reducible refine S.out.tree (expr_s HT.out hgL _ (by have := S.out.le; have := HT.out.toks.len; omega) _ S.out.pg.1) (g2_expr (g := g)) ?_ ?_)
   ·intro k w1 h hg; go_wp2; exact ⟨rfl, S1.errT h.out hg.out _⟩
   clear S
   intro x bx j1 wx hj1 S hg Hx
   have Hx := qh (Hx.out.more (S' := fun y => w.heap.size ≤ y) fun y hy _ => Nat.le_trans HZ.out hy)
   clear HZ
   have HBt := qh (HBt.out.grown hg.out (by intro e; injection e with e; omega))
   go_wp2_with fail
   (with_reducible refine S.out.need HT.out ?_ ?_)
   ·intro k w1 h hg; go_wp2; exact ⟨rfl, S1.errT h.out hg.out _⟩
   clear S
   intro wx S hg
   have Hx := qh (repS_grown Hx.out hg.out hbr)
   have HBt := qh (HBt.out.grown hg.out (by intro e; injection e with e; omega))
   have HZ := qh S.out.pg.2.size
   go_wp2_with fail
   (with_reducible refine S.out.tree (expr_s HT.out hgL _ (by have := S.out.le; have := HT.out.toks.len; omega) _ S.out.pg.1) (g2_expr (g := g)) ?_ ?_)
   ·intro k w1 h hg; go_wp2; exact ⟨rfl, S1.errT h.out hg.out _⟩
   clear S
   intro z bz j2 wx hj2 S hg Hz
   have Hx := qh (repS_grown Hx.out hg.out hbr)
   have Hz := qh (Hz.out.more (S' := fun y => w.heap.size ≤ y) fun y hy _ => Nat.le_trans HZ.out hy)
   clear HZ
   have HBt := qh (HBt.out.grown hg.out (by intro e; injection e with e; omega))
   go_wp2_with fail
   (with_reducible refine S.out.eatb HT.out ?_)
   clear S
   intro bv j5 wx hbv hj5 S hg
   have Hx := qh (repS_grown Hx.out hg.out hbr)
   have Hz := qh (repS_grown Hz.out hg.out hbr)
   have hj5 := hj5.1
   have HBt := qh (HBt.out.grown hg.out (by intro e; injection e with e; omega))
   go_upto_if 35 with fail
   go_cut [8] (fun v8 wc => ∃ pv : Option Addr, v8 = .pointer pv ∧ Hid (∃ y J, i < J ∧ S1 w0 w wc br c A L res (forE bd (p1, p2) t_n x z y) J ∧ RepN (fun y => w.heap.size ≤ y) wc (forest [y]) [.pointer pv] ∧ RepS (fun y => w.heap.size ≤ y) wc (.node x.1 x.2 .no) [.pointer (some ⟨bx, 0, none⟩)] ∧ RepS (fun y => w.heap.size ≤ y) wc (.node z.1 z.2 .no) [.pointer (some ⟨bz, 0, none⟩)] ∧ Blk wc bt 40 #[.int .u8 k_n, .complex .f64 (fl n1) (fl n2), .complex .f64 (fl q3_n) (fl q4_n), .string t_n, .int .i64 n_n]))
   case first =>
    cases bv with
    | true =>
      have HZ := qh S.out.pg.2.size
      go_wp2_with fail
      (with_reducible refine S.out.tree (expr_s HT.out hgL _ (by have := S.out.le; have := HT.out.toks.len; omega) _ S.out.pg.1) (g2_expr (g := g)) ?_ ?_)
      ·intro k w1 h hg; go_wp2; exact ⟨rfl, S1.errT h.out hg.out _⟩
      clear S
      intro y b_y j6 wx hj6 S hg Hy
      have Hx := qh (repS_grown Hx.out hg.out hbr)
      have Hz := qh (repS_grown Hz.out hg.out hbr)
      have Hy := qh (Hy.out.more (S' := fun y => w.heap.size ≤ y) fun y hy _ => Nat.le_trans HZ.out hy)
      clear HZ
      have HBt := qh (HBt.out.grown hg.out (by intro e; injection e with e; omega))
      go_wp2_with fail
      go_meet
      exact ⟨_, rfl, qh ⟨y, j6, by omega, S.out, oney Hy.out, Hx.out, Hz.out, HBt.out⟩⟩
    | false =>
      go_wp2_with fail
      go_meet
      exact ⟨none, rfl, qh ⟨zeroT, j5, by omega, S.out, zeroy, Hx.out, Hz.out, HBt.out⟩⟩
   case rest =>
    obtain ⟨pv, rfl, hc9⟩ := hcut
    obtain ⟨y, J, hiJ, hc1, hc2, hc3, hc4, hc5⟩ := hc9.out
    clear S Hx Hz HBt hc9
    have S := qh hc1
    have HN := qh hc2
    have Hx := qh hc3
    have Hz := qh hc4
    have HBt := qh hc5
    clear hc1 hc2 hc3 hc4 hc5
    unfold forE at S
    go_wp2_with fail
    (with_reducible refine S.out.need HT.out ?_ ?_)
    ·intro k w1 h hg; go_wp2; exact ⟨rfl, S1.errT h.out hg.out _⟩
    clear S
    intro wx S hg
    have Hx := qh (repS_grown Hx.out hg.out hbr)
    have Hz := qh (repS_grown Hz.out hg.out hbr)
    have HN := qh (repNy_grown HN.out hg.out hbr)
    have HBt := qh (HBt.out.grown hg.out (by intro e; injection e with e; omega))
    go_upto_region 13 with fail
    have S := qh (S.out.below ((Below.refl _ _).drew))
    have HBt := qh (HBt.out.drewN 1)
    have t3 : wx.drew.cell? ⟨bt, 3, none⟩ = some (.string t_n) := HBt.out.cell 3
    have HZ := qh S.out.pg.2.size
    have S := qh (S.out.of (endedF_then (f := fun b => [x, z, y, b])))
    have D1 := qh (S.out.treeD (ended_y HT.out hbd HBd _ (by omega) S.out.le _ S.out.pg.1) (g2_endedF hbd))
    clear S
    go_region_law (first
     | (go_simp; go_at_call 138; (with_reducible refine D1.out.mono ?_); rintro e v (⟨k, rfl, h, hgr⟩ | ⟨u, b_u, j9, rfl, hj9, S, hgr, hr⟩); (case' inl => exact ⟨rfl, S1.errT h.out hgr.out _⟩); have HB2 := qh (HBt.out.grown hgr.out (by intro e; injection e with e; omega)); have t3 : v.cell? ⟨bt, 3, none⟩ = some (.string t_n) := HB2.out.cell 3; have HR := qh (show RepN (fun y => w.heap.size ≤ y) v (forest [x, z, y, u]) [.pointer (some ⟨bx, 0, none⟩), .pointer (some ⟨bz, 0, none⟩), .pointer pv, .pointer (some ⟨b_u, 0, none⟩)] from repNy_cons (oney (repS_grown (Hx.out.below ((Below.refl _ _).drew)) hgr.out hbr)) (repNy_cons (oney (repS_grown (Hz.out.below ((Below.refl _ _).drew)) hgr.out hbr)) (repNy_cons (repNy_grown (repNy_keep (w := wx) (w' := wx.drew) nl (fun y hy hl => rfl) (fun y hy _ => hy) HN.out) hgr.out hbr) (oney (hr.out.more (S' := fun y => w.heap.size ≤ y) fun y hy _ => Nat.le_trans HZ.out hy))))); have t3b : (v.alloc (.cells #[.pointer (some ⟨bx, 0, none⟩), .pointer (some ⟨bz, 0, none⟩), .pointer pv, .pointer (some ⟨b_u, 0, none⟩)] 31)).cell? ⟨bt, 3, none⟩ = some (.string t_n) := (HB2.out.below ((Below.refl _ _).alloc nl _) HB2.out.lt).cell 3)
     | (go_simp; go_at_call 33; (with_reducible refine (new_lit (B := w.heap.size) (w := v) S.out.pg.2.size 68 68 rfl p1 p2 t_n [.pointer (some ⟨bx, 0, none⟩), .pointer (some ⟨bz, 0, none⟩), .pointer pv, .pointer (some ⟨b_u, 0, none⟩)] [x, z, y, u] v.heap.size rfl 4 rfl (by decide) HR.out).mono ?_); rintro e v2 ⟨b2, rfl, hb, hr⟩; have S := qh (S.out.below hb); have HR2 := qh hr; clear hb hr))
    all_goals
     go_wp2
     go_ret
     exact S.out.doneT HR2.out
theorem returns_y {g : Nat} {w0 : World} {br c : Nat} {A : Option Addr} {L : List PT} (ht : TkS w0 br A L) (hgL : L.length < g) (i : Nat) (hi : i ≤ L.length) (p1 p2 : Nat) (w : World) (h : PInv w0 w br A c L i) :
 Calls Tryz.prog 116 #[.pointer (some ⟨br, 0, none⟩), .complex .f64 (fl p1) (fl p2)] w (TreeR w.heap.size w0 w br A c L (returnS g (p1, p2) L i)) := by
 have hbr := h.row.lt
 have H0 := qh h
 have HT := qh ht
 obtain ⟨res, hs0⟩ : ∃ r, r = returnS g (p1, p2) L i := ⟨_, rfl⟩
 rw [← hs0]
 have S := qh (S1.start h hi hs0)
 clear h ht hs0 hi
 go_enter Tryz.func116, Tryz.ntmps116
 unfold returnS at S
 have NW := qh (new_0 (B0 := w.heap.size) (w := w) S.out.pg.2.size 70 70 rfl p1 p2 sNil 0)
 go_wp2_with fail
 ((with_reducible refine NW.out.mono ?_); rintro e wx ⟨b, sv0, xs0, rfl, hb, hk⟩)
 have HK := qh (hk.lower S.out.pg.2.size)
 have S := qh (S.out.below hb)
 clear hb hk NW
 go_wp2_with fail
 (with_reducible refine S.out.now HT.out ?_)
 clear S
 intro k_u u1 u2 q3_u q4_u t_u n_u wx HPu S hg
 have HK := qh (HK.out.grown hg.out hbr nl)
 have hbo := S.out.pg.1.row.lt
 cases hk : decide (k_u = 0) with
 | true =>
   have k0 : ((k_u : Int) == 0) = true := by have := of_decide_eq_true hk; rw [beq_iff_eq]; omega
   have HR := qh (show retOut (tkOf k_u u1 u2 q3_u q4_u t_u n_u) = true by rw [retOut_y]; show (decide (k_u = 0) || _) = true; rw [hk]; rfl)
   clear hk
   have S := qh (S.out.yes HR.out)
   go_wp2
   go_ret
   exact S.out.doneT (HK.out.done nl)
 | false =>
   have k0 : ((k_u : Int) == 0) = false := by have := of_decide_eq_false hk; rw [beq_eq_false_iff_ne]; omega
   have HNK := qh (show decide ((tk L i).1.kind = 0) = false by rw [HPu.out]; exact hk)
   have S := qh (show S1 w0 w wx br c A L res (if retOut (tk L i) = true then retP (mk 70 (p1, p2) sNil 0 []) else bindP (exprF g) fun x => retP (mk 70 (p1, p2) sNil 0 [x])) i from by rw [HPu.out]; exact S.out)
   clear hk
   have O0 := qh (Lx.Blk.new wx 9 ([sSem, sBar, sEnd, sElse, sElsif, sUntil].map Value.string).toArray)
   have HK := qh (HK.out.below ((Below.refl _ _).alloc nl (.cells ([sSem, sBar, sEnd, sElse, sElsif, sUntil].map Value.string).toArray 9)))
   have S := qh (S.out.below ((Below.refl _ _).alloc nl (.cells ([sSem, sBar, sEnd, sElse, sElsif, sUntil].map Value.string).toArray 9)))
   go_wp2
   go_loopw [17] (fun iv wr => ∃ m : Nat, m ≤ 6 ∧ iv = .int .i64 m ∧ Hid (Lx.Blk wr wx.heap.size 9 ([sSem, sBar, sEnd, sElse, sElsif, sUntil].map Value.string).toArray) ∧ Hid (S1 w0 w wr br c A L res (if retOut (tk L i) = true then retP (mk 70 (p1, p2) sNil 0 []) else bindP (exprF g) fun x => retP (mk 70 (p1, p2) sNil 0 [x])) i) ∧ Hid (KG w.heap.size w.heap.size wr b ⟨70, (p1, p2), sNil, 0⟩ sv0 [] xs0) ∧ Hid (∀ s ∈ [sSem, sBar, sEnd, sElse, sElsif, sUntil].take m, isT L i s = false)) (fun iv _ => 6 - (intOf iv).toNat)
   case atStart => exact ⟨0, by omega, rfl, O0, S, HK, qh (fun s hs => by simp at hs)⟩
   case round =>
    clear O0 S HK
    obtain ⟨m, hm, rfl, O0, S, HK, HA⟩ := hrel
    obtain ⟨ol, hol⟩ : ∃ ol : List ByteArray, ol = [sSem, sBar, sEnd, sElse, sElsif, sUntil] := ⟨_, rfl⟩
    have O0 := qh (show Lx.Blk wr wx.heap.size 9 (ol.map Value.string).toArray from hol ▸ O0.out)
    have HA := qh (show ∀ s ∈ ol.take m, isT L i s = false from hol ▸ HA.out)
    have hl6 : ol.length = 6 := by rw [hol]; rfl
    have HOL := qh hol
    clear hol
    by_cases hlt : m < 6
    ·have y0 : (0 : Int) ≤ (m : Int) := by omega
     have y1 : (m : Int) < 6 := by omega
     have hlt' : m < ol.length := by omega
     have co : wr.cell? ⟨wx.heap.size, m, none⟩ = some (.string ol[m]) := by rw [O0.out.cell m]; simp [hlt']
     have hbl : wx.heap.size < wr.heap.size := O0.out.lt
     go_wp2_with fail
     (with_reducible refine S.out.is HT.out ?_)
     clear S
     intro wy S hg
     have HK := qh (HK.out.grown hg.out hbr nl)
     have O0 := qh (O0.out.grown hg.out (by intro e; injection e with e; omega))
     cases hT : isT L i ol[m] with
     | true =>
       have S := qh (S.out.yes (retOut_yes (HOL.out ▸ List.getElem_mem hlt') hT))
       go_wp2
       go_ret
       exact S.out.doneT (HK.out.done nl)
     | false =>
       have HT2 := qh hT
       clear hT
       go_wp2
       go_roundw
       case rel =>
        refine ⟨m + 1, by omega, by go_num, qh (HOL.out ▸ O0.out), S, HK, qh ?_⟩
        rw [← HOL.out]
        intro s hs
        rw [List.take_succ_eq_append_getElem hlt'] at hs
        rcases List.mem_append.1 hs with hs | hs
        ·exact HA.out s hs
        ·simp only [List.mem_singleton] at hs; subst hs; exact HT2.out
       case measure => simp [intOf]; omega
    ·have hm6 : m = 6 := by omega
     subst hm6
     have HAA : ∀ s ∈ [sSem, sBar, sEnd, sElse, sElsif, sUntil], isT L i s = false := by
      have := HA.out
      rw [← hl6, List.take_length, HOL.out] at this
      exact this
     have S := qh (S.out.no (by rw [retOut_no HNK.out HAA]; simp))
     clear HAA HA O0 HOL hl6
     go_wp2_with fail
     have HKD := qh (HK.out.below ((Below.refl _ _).drew))
     have HKL := qh HK.out.len
     have D1 := qh ((S.out.below ((Below.refl _ _).drew)).treeD (expr_s HT.out hgL _ (by have := S.out.le; have := HT.out.toks.len; omega) _ (S.out.pg.1.below ((Below.refl _ _).drew))) (g2_expr (g := g)))
     obtain ⟨m4, m4f, hbl4⟩ := HK.out.kn.facts
     clear S HK
     go_region_law (first
      | (go_simp; go_at_call 133; (with_reducible refine D1.out.mono ?_); rintro e x (⟨k, rfl, h, hgr⟩ | ⟨y, b_y, j3, rfl, hj3, S, hgr, hr⟩); (case' inl => exact ⟨rfl, S1.errT h.out hgr.out _⟩); have HK := qh (HKD.out.grown hgr.out hbr nl); have HY := qh (show RepS (KPy w.heap.size _ _) _ (forest [y]) [.pointer (some ⟨b_y, 0, none⟩)] from HKD.out.new hr.out nl); obtain ⟨t4, t4f, hbx⟩ := HK.out.kn.facts)
      | (refine step_pushKn (by rfl) _ _ (by rfl) (m := x.heap.size) (n := 1) (vs := [.pointer (some ⟨b_y, 0, none⟩)]) (l := [y]) S.out H0.out HK.out (Nat.zero_le _) (HY.out) (by rfl) (by rfl) (by decide) (by decide) (fun v hv => one_ptr _ v hv) (by rfl) (by rfl) (by rfl) ?_; clear S HK; intro g' cap xs' w7 u4 u4f hb7 S HK))
     all_goals
      go_wp2
      go_ret
      exact S.out.doneT (HK.out.done nl)
theorem plain_y {g : Nat} {w0 : World} {br c : Nat} {A : Option Addr} {L : List PT} (ht : TkS w0 br A L) (hgL : L.length < g) (i : Nat) (hi : i ≤ L.length) (w : World) (h : PInv w0 w br A c L i) :
 Calls Tryz.prog 117 #[.pointer (some ⟨br, 0, none⟩)] w (TreeR w.heap.size w0 w br A c L (plainS g L i)) := by
 have hbr := h.row.lt
 have H0 := qh h
 have HT := qh ht
 obtain ⟨res, hs0⟩ : ∃ r, r = plainS g L i := ⟨_, rfl⟩
 rw [← hs0]
 have S := qh (S1.start h hi hs0)
 clear h ht hs0 hi
 go_enter Tryz.func117, Tryz.ntmps117
 unfold plainS at S
 go_wp2_with fail
 (with_reducible refine S.out.now HT.out ?_)
 clear S
 intro k_p p1 p2 q3_p q4_p t_p n_p wx HPp S hg
 have HZ := qh S.out.pg.2.size
 go_wp2_with fail
 (with_reducible refine S.out.tree (of_D HT.out hgL _ (by have := S.out.le; have := HT.out.toks.len; omega) _ S.out.pg.1) (g2_design (g := g)) ?_ ?_)
 ·intro k w1 h hg; go_wp2; exact ⟨rfl, S1.errT h.out hg.out _⟩
 clear S
 intro d bd j1 wx hj1 S hg Hd
 have Hd := qh (Hd.out.more (S' := fun y => w.heap.size ≤ y) fun y hy _ => Nat.le_trans HZ.out hy)
 clear HZ
 go_wp2_with fail
 (with_reducible refine S.out.now HT.out ?_)
 clear S
 intro k_r r1 r2 q3_r q4_r t_r n_r wx HPr S hg
 have Hd := qh (repS_grown Hd.out hg.out hbr)
 go_wp2_with fail
 (with_reducible refine S.out.eat HT.out ?_ ?_)
 ·clear S
  intro wx S hg hT
  have Hd := qh (repS_grown Hd.out hg.out hbr)
  have hjl := S.out.le
  have HZ := qh S.out.pg.2.size
  go_wp2_with fail
  (with_reducible refine S.out.tree (expr_s HT.out hgL _ (by have := S.out.le; have := HT.out.toks.len; omega) _ S.out.pg.1) (g2_expr (g := g)) ?_ ?_)
  ·intro k w1 h hg; go_wp2; exact ⟨rfl, S1.errT h.out hg.out _⟩
  clear S
  intro y b_y j3 wx hj3 S hg Hy
  have Hd := qh (repS_grown Hd.out hg.out hbr)
  have Hy := qh (Hy.out.more (S' := fun y => w.heap.size ≤ y) fun y hy _ => Nat.le_trans HZ.out hy)
  clear HZ
  have NW := qh (new_lit (B := w.heap.size) (w := wx) S.out.pg.2.size 60 60 rfl r1 r2 sNil [.pointer (some ⟨bd, 0, none⟩), .pointer (some ⟨b_y, 0, none⟩)] [d, y] wx.heap.size rfl 2 rfl (by decide) (repN_of (repS_cons Hd.out Hy.out)))
  go_wp2_with fail
  ((with_reducible refine NW.out.mono ?_); rintro e wy ⟨b, rfl, hb, hr⟩)
  have Hb := qh hr
  have S := qh (S.out.below hb)
  clear hb hr NW
  go_wp2
  go_ret
  exact S.out.doneT Hb.out
 ·clear S
  intro wx S hg hT
  have Hd := qh (repS_grown Hd.out hg.out hbr)
  have NW := qh (new_1 (B0 := w.heap.size) (w := wx) S.out.pg.2.size 61 61 rfl p1 p2 sNil 0 Hd.out wx.heap.size rfl)
  go_wp2_with fail
  ((with_reducible refine NW.out.mono ?_); rintro e wy ⟨b, sv0, xs0, rfl, hb, hk⟩)
  have HK := qh (hk.lower S.out.pg.2.size)
  have S := qh (S.out.below hb)
  clear hb hk NW Hd
  go_wp2_with fail
  (with_reducible refine S.out.eat HT.out ?_ ?_)
  ·clear S
   intro wx S hg hT
   have HK := qh (HK.out.grown hg.out hbr nl)
   have S := qh (S.out.of (q := tokP (tT sRap) (fun _ => retP (mk 61 (p1, p2) sNil 0 (d :: []))) (bindP (exprF g) fun x => bindP (manyRF (exprF g) g [x]) (fun l => needF sRap (retP (mk 61 (p1, p2) sNil 0 (d :: l)))))) (by rw [between_y]; rfl))
   go_wp2_with fail
   (with_reducible refine S.out.eat HT.out ?_ ?_)
   ·clear S
    intro wx S hg hT
    have HK := qh (HK.out.grown hg.out hbr nl)
    go_wp2
    go_ret
    exact S.out.doneT (HK.out.done nl)
   ·clear S
    intro wx S hg hT
    have HK := qh (HK.out.grown hg.out hbr nl)
    go_wp2_with fail
    have HKD := qh (HK.out.below ((Below.refl _ _).drew))
    have HKL := qh HK.out.len
    have D1 := qh ((S.out.below ((Below.refl _ _).drew)).treeD (expr_s HT.out hgL _ (by have := S.out.le; have := HT.out.toks.len; omega) _ (S.out.pg.1.below ((Below.refl _ _).drew))) (g2_expr (g := g)))
    obtain ⟨m4, m4f, hbl4⟩ := HK.out.kn.facts
    clear S HK
    go_region_law (first
     | (go_simp; go_at_call 133; (with_reducible refine D1.out.mono ?_); rintro e x (⟨k, rfl, h, hgr⟩ | ⟨y, b_y, j4, rfl, hj4, S, hgr, hr⟩); (case' inl => exact ⟨rfl, S1.errT h.out hgr.out _⟩); have HK := qh (HKD.out.grown hgr.out hbr nl); have HY := qh (show RepS (KPy w.heap.size _ _) _ (forest [y]) [.pointer (some ⟨b_y, 0, none⟩)] from HKD.out.new hr.out nl); obtain ⟨t4, t4f, hbx⟩ := HK.out.kn.facts)
     | (refine step_pushKn (by rfl) _ _ (by rfl) (m := x.heap.size) (n := 1) (vs := [.pointer (some ⟨b_y, 0, none⟩)]) (l := [y]) S.out H0.out HK.out (Nat.le_trans (show 1 ≤ 1 from Nat.le_refl _) (by decide)) (HY.out) (by rfl) (by rfl) (by decide) (by decide) (fun v hv => one_ptr _ v hv) (by rfl) (by rfl) (by rfl) ?_; clear S HK; intro g' cap xs' w7 u4 u4f hb7 S HK))
    all_goals
     have hjl2 := S.out.le
     go_wp2_with fail
     go_loopg [] (L.length + 1) (fun gh wr => ∃ (l : List T1) (sv : Value) (xs : List Value) (j f : Nat), L.length + 1 - j ≤ gh ∧ L.length < j + f ∧ l.length ≤ j ∧ Hid (S1 w0 w wr br c A L res (bindP (manyRF (exprF g) f l) (fun l => needF sRap (retP (mk 61 (p1, p2) sNil 0 (d :: l))))) j) ∧ Hid (KG w.heap.size w.heap.size wr b ⟨61, (p1, p2), sNil, 0⟩ sv (d :: l) xs))
     case atStart => exact ⟨[y], _, _, j4, g, by omega, by omega, by simp only [List.length_cons, List.length_nil]; omega, S, HK⟩
     case round =>
      clear S HK
      obtain ⟨l, sv, xs, j, f, hgh, hf, hac, S, HK⟩ := hrel
      have hjl := S.out.le
      have hlen := HT.out.toks.len
      obtain ⟨f, rfl⟩ : ∃ f', f = f' + 1 := ⟨f - 1, by omega⟩
      have S := qh (S.out.of (q := tokP (tT sCom) (fun _ => bindP (exprF g) fun y => bindP (manyRF (exprF g) f (l ++ [y])) (fun l => needF sRap (retP (mk 61 (p1, p2) sNil 0 (d :: l))))) ((fun l => needF sRap (retP (mk 61 (p1, p2) sNil 0 (d :: l)))) l)) (by rw [manyR_y]))
      go_wp2_with fail
      (with_reducible refine S.out.eat (s := sCom) HT.out ?_ ?_)
      ·clear S
       intro wx S hg hT
       have HK := qh (HK.out.grown hg.out hbr nl)
       go_wp2_with fail
       have HKD := qh (HK.out.below ((Below.refl _ _).drew))
       have HKL := qh HK.out.len
       have D1 := qh ((S.out.below ((Below.refl _ _).drew)).treeD (expr_s HT.out hgL _ (by have := S.out.le; have := HT.out.toks.len; omega) _ (S.out.pg.1.below ((Below.refl _ _).drew))) (g2_expr (g := g)))
       obtain ⟨m4, m4f, hbl4⟩ := HK.out.kn.facts
       clear S HK
       go_region_law (first
        | (go_simp; go_at_call 133; (with_reducible refine D1.out.mono ?_); rintro e x (⟨k, rfl, h, hgr⟩ | ⟨y, b_y, j4, rfl, hj4, S, hgr, hr⟩); (case' inl => exact ⟨rfl, S1.errT h.out hgr.out _⟩); have HK := qh (HKD.out.grown hgr.out hbr nl); have HY := qh (show RepS (KPy w.heap.size _ _) _ (forest [y]) [.pointer (some ⟨b_y, 0, none⟩)] from HKD.out.new hr.out nl); obtain ⟨t4, t4f, hbx⟩ := HK.out.kn.facts)
        | (refine step_pushKn (by rfl) _ _ (by rfl) (m := x.heap.size) (n := 1) (vs := [.pointer (some ⟨b_y, 0, none⟩)]) (l := [y]) S.out H0.out HK.out (by rw [List.length_cons]; omega) (HY.out) (by rfl) (by rfl) (by decide) (by decide) (fun v hv => one_ptr _ v hv) (by rfl) (by rfl) (by rfl) ?_; clear S HK; intro g' cap xs' w7 u4 u4f hb7 S HK))
       all_goals
        have hjl2 := S.out.le
        go_wp2
        go_roundg (L.length + 1 - j4)
        case rel => exact ⟨l ++ [y], _, _, j4, f, by omega, by omega, by simp only [List.length_append, List.length_cons, List.length_nil]; omega, S, HK⟩
        case measure => omega
      ·clear S
       intro wx S hg hT
       have HK := qh (HK.out.grown hg.out hbr nl)
       go_wp2_with fail
       (with_reducible refine S.out.need HT.out ?_ ?_)
       ·intro k w1 h hg; go_wp2; exact ⟨rfl, S1.errT h.out hg.out _⟩
       clear S
       intro wx S hg
       have HK := qh (HK.out.grown hg.out hbr nl)
       go_wp2
       go_ret
       exact S.out.doneT (HK.out.done nl)
  ·clear S
   intro wx S hg hT
   have HK := qh (HK.out.grown hg.out hbr nl)
   go_wp2
   go_ret
   exact S.out.doneT (HK.out.done nl)
end St
namespace St
open Go.RowKit
open Tr (Nd Fo RepS RepN Rep cellsN)
open Lx (Tk noTk Blk run_store_complexL TokAt)
open Fl
open Ex
attribute [local go_sem] run_store_complexL run_field1 run_field3
def entsV (l : List (ByteArray × Value)) : List (Value × Value) := l.map fun x => (.string x.1, x.2)
theorem find_ents (t : ByteArray) : ∀ (l : List (ByteArray × Value)) (i b : Nat), (∀ v, (l.find? (fun x => decide (x.1 = t))).map (·.2) = some v → ∃ j, Instr.findNow .string (.string t) (esF b (entsV l)) i = some (some (j, v))) ∧ ((∀ x ∈ l, x.1 ≠ t) → Instr.findNow .string (.string t) (esF b (entsV l)) i = some none)
 | [], i, b => ⟨(fun v h => by cases h), fun _ => rfl⟩
 | (s, u) :: l, i, b => by
   have ih := find_ents t l (i + 1) (b + 1)
   have e : Instr.findNow .string (.string t) (esF b (entsV ((s, u) :: l))) i = if (t == s) = true then some (some (i, u)) else Instr.findNow .string (.string t) (esF (b + 1) (entsV l)) (i + 1) := by
    show (match Instr.sameNow .string (.string t) (.string s) with | some true => _ | some false => _ | none => _) = _
    simp only [Instr.sameNow]
    all_goals (cases h : t == s <;> rfl)
   have hb : (t == s) = decide (s = t) := by
    rw [Bool.eq_iff_iff, decide_eq_true_eq]
    constructor
    ·intro h; exact ((MapKept.bytes_beq _ _).1 h).symm
    ·intro h; exact (MapKept.bytes_beq _ _).2 h.symm
   rw [e, hb]
   by_cases h : s = t
   ·simp [h]
   ·simp only [List.find?_cons, decide_eq_false h, Bool.false_eq_true, if_false]
    exact ⟨ih.1, fun hx => ih.2 fun x hxm => hx x (List.mem_cons_of_mem _ hxm)⟩
theorem ents_snoc (l : List (ByteArray × Value)) (s : ByteArray) (v : Value) : entsV l ++ [(.string s, v)] = entsV (l ++ [(s, v)]) := by simp [entsV]
def wordE (br : Nat) : List (ByteArray × Value) := [(sIf, .func (.func 108) #[.pointer (some ⟨br, 0, none⟩)] #[]), (sCase, .func (.func 109) #[.pointer (some ⟨br, 0, none⟩)] #[]), (sWhile, .func (.func 110) #[.pointer (some ⟨br, 0, none⟩)] #[]), (sRepeat, .func (.func 111) #[.pointer (some ⟨br, 0, none⟩)] #[]), (sLoop, .func (.func 112) #[.pointer (some ⟨br, 0, none⟩)] #[]), (sExit, .func (.func 113) #[.pointer (some ⟨br, 0, none⟩)] #[]), (sFor, .func (.func 114) #[.pointer (some ⟨br, 0, none⟩)] #[]), (sWith, .func (.func 115) #[.pointer (some ⟨br, 0, none⟩)] #[]), (sReturn, .func (.func 116) #[.pointer (some ⟨br, 0, none⟩)] #[])]
theorem ins_w (l : List (ByteArray × Value)) (s : ByteArray) (v : Value) (hn : ∀ x ∈ l, x.1 ≠ s) (W : World) (m : Nat) (hm : W.heap.size = m) : (Instr.mapUpdate 139 (.map (some m)) (.string s) v).run Tryz.prog (W.alloc (mapO (entsV l))) = .ok () (W.alloc (mapO (entsV (l ++ [(s, v)])))) := by
 rw [← ents_snoc]
 exact run_ins Tryz.underlying139 Tryz.underlying9 (entsV l) (.string s) v (by simp [MapKept.IsKey]) ((find_ents _ _ 0 0).2 hn) W m hm
theorem look_no {br : Nat} {t : ByteArray} (h : ∀ x ∈ wordE br, x.1 ≠ t) (w : World) (m : Nat) (hm : w.heap[m]? = some (mapO (entsV (wordE br)))) : (Instr.lookup 139 (.map (some m)) (.string t) true).run Tryz.prog w = .ok (.tuple #[.nilFunc, .bool false]) w :=
 run_look_no Tryz.underlying139 Tryz.underlying9 (entsV (wordE br)) (.string t) (by simp [MapKept.IsKey]) ((find_ents _ _ 0 0).2 h) true w (by kernel_rfl) m hm
theorem look_yes {br : Nat} {t : ByteArray} {v : Value} (h : ((wordE br).find? (fun x => decide (x.1 = t))).map (·.2) = some v) (w : World) (m : Nat) (hm : w.heap[m]? = some (mapO (entsV (wordE br)))) : (Instr.lookup 139 (.map (some m)) (.string t) true).run Tryz.prog w = .ok (.tuple #[v, .bool true]) w := by
 obtain ⟨j, hj⟩ := (find_ents t (wordE br) 0 0).1 v h
 exact run_look Tryz.underlying139 Tryz.underlying9 (entsV (wordE br)) (.string t) (by simp [MapKept.IsKey]) hj true w m hm
section
variable {g : Nat} {bd : Par T1} {L : List PT} {j : Nat}
theorem nw {s s' : ByteArray} {t : PT} (h : t.1.text = s') (hn : s' ≠ s) : isWd6 s t = false := by unfold isWd6; rw [h]; simp [hn]
theorem yw {s : ByteArray} {t : PT} (hk : t.1.kind = 6) (h : t.1.text = s) : isWd6 s t = true := by unfold isWd6; rw [h, hk]; simp
theorem k6 {s : ByteArray} {t : PT} (hk : ¬ t.1.kind = 6) : isWd6 s t = false := by unfold isWd6; simp [hk]
theorem stm_skipL : ∀ (l : List (ByteArray × (Nat × Nat → Par T1))), (∀ x ∈ l, isWd6 x.1 (tk L j) = false) → stmL g l L j = stmL g [] L j
 | [], _ => rfl
 | (s, q) :: r, h => (tok_n (h _ (List.mem_cons_self ..))).trans (stm_skipL r fun x hx => h x (List.mem_cons_of_mem _ hx))
end
section
variable {W W' w5 x5 : World} {mb br b B : Nat} {l : List (Value × Value)} {d : Nd} {sv u : Value} {xs : List Value}
theorem hm_below (h : W.heap[mb]? = some (mapO l)) (hb : Below W.heap.size W W') : W'.heap[mb]? = some (mapO l) := (hb.block mb (obj_lt h)).trans h
theorem hm_grown (h : W.heap[mb]? = some (mapO l)) (hg : W.grownBy W' (some br)) (hne : mb ≠ br) : W'.heap[mb]? = some (mapO l) := (hg.block mb (obj_lt h) (fun e => hne (by simpa using e))).trans h
theorem hm_set (h : W.heap[mb]? = some (mapO l)) {k : Nat} (hne : mb ≠ b) : (W.setCell ⟨b, k, none⟩ u).heap[mb]? = some (mapO l) := (Below.heap_setCell W ⟨b, k, none⟩ u mb hne).trans h
theorem hm_hung {o : Obj} (h : x5.heap[mb]? = some (mapO l)) (hk : KN B x5 b d sv xs) (hg : (x5.alloc o).grownBy w5 sv.ownBlock) : (w5.setCell ⟨b, 4, none⟩ u).heap[mb]? = some (mapO l) := by
 have h1 : (x5.alloc o).heap[mb]? = some (mapO l) := (Below.heap_alloc x5 o mb (obj_lt h)).trans h
 have hne : some mb ≠ sv.ownBlock := by
  intro e
  rcases hk.own.2 with ⟨e2, _⟩ | ⟨g', cap, cur, e2, _, hh, _⟩
  ·rw [e2] at e; cases e
  ·rw [e2] at e
   have e : mb = g' := by injection e
   subst e
   rw [h] at hh
   cases hh
 have h2 : w5.heap[mb]? = some (mapO l) := (hg.block mb (obj_lt h1) hne).trans h1
 have hb : mb ≠ b := by
  intro e
  subst e
  have := hk.blk
  unfold Tr.Blk at this
  rw [h] at this
  cases this
 exact hm_set h2 hb
end
end St
end Go.Proofs.YtkemhmfdooghkaaGreatDoor
