import Derived.Test.YtkemhmfdooghkaaGreatDoorX37
set_option linter.unusedSimpArgs false
set_option linter.unusedVariables false
set_option maxRecDepth 100000
set_option maxHeartbeats 6400000
namespace Go.Proofs.YtkemhmfdooghkaaGreatDoor
namespace Un
open Go.RowKit
open Tr (Nd Fo RepS RepN Rep cellsN)
open Lx (Tk noTk Blk run_store_complexL TokAt)
open Fl
open Ex hiding LG new_lg tkOf tkV
open St (TkS g2_max Good2 isNm KG KN new_kg new_0 kid_facts one_ptr sSem sCol sEnd isWd6 ret_ bind_err need_n)
open De (LG new_leaf new_lg namesF sImport sModule run_field0 tkOf tkV KP bind_assoc ParD)
attribute [local go_sem] run_store_complexL run_field0 run_field1 run_field3
theorem toL_eq2 (t s : ByteArray) : (t.toList == s.data.toList) = decide (t = s) := by
 have hl : t.toList = t.data.toList := ByteArray.toList_eq t
 rw [hl]
 rw [Bool.eq_iff_iff, beq_iff_eq, decide_eq_true_iff]
 exact ⟨fun h => by obtain ⟨⟨a⟩⟩ := t; obtain ⟨⟨b⟩⟩ := s; simp at h; subst h; rfl, fun h => by rw [h]⟩
theorem isThe_nil : isThe sNil = isNm := by
 funext t
 simp [isThe]
theorem imports_len2 {g : Nat} {L : List PT} {i j : Nat} {l : List T1} (hi : i ≤ L.length) (h : importsR g g [] L i = .ok (l, j)) : l.length ≤ L.length := by
 have key : ∀ (f : Nat) (acc : List T1) (i : Nat) (l : List T1) (j : Nat), importsR g f acc L i = .ok (l, j) → l.length + i ≤ acc.length + j := by
  intro f
  induction f with
  | zero => intro acc i l j h; cases h
  | succ f ih =>
    intro acc i l j h
    have hl : ∀ (x : List T1 → T1) (k : Nat), i < k → bindP (namesF g []) (fun l => needF sSem (importsR g f (acc ++ [x l]))) L k = .ok (l, j) → l.length + i ≤ acc.length + j := fun x k hk h => by
     obtain ⟨y, m, h1, h2⟩ := De.bind_inv2 h
     have a1 := De.names_lt h1
     unfold needF tokP at h2
     dsimp only at h2
     split at h2
     ·have := ih _ _ _ _ h2
      simp only [List.length_append, List.length_cons, List.length_nil] at this
      omega
     ·cases h2
    rw [importsR] at h
    by_cases ht : tT sFrom (tk L i) = true
    ·rw [tok_y ht] at h
     by_cases hn : isNm (tk L (i + 1)) = true
     ·rw [tok_y hn] at h
      unfold needF tokP at h
      dsimp only at h
      split at h
      ·exact hl (fun l => _) (i + 1 + 1 + 1) (by omega) h
      ·cases h
     ·rw [tok_n (by simpa using hn)] at h
      cases h
    ·rw [tok_n (by simpa using ht)] at h
     by_cases ht2 : tT sImport (tk L i) = true
     ·rw [tok_y ht2] at h
      exact hl (fun l => _) (i + 1) (by omega) h
     ·rw [tok_n (by simpa using ht2)] at h
      injection h with h; injection h with h1 h2; subst h1 h2
      exact Nat.le_refl _
 have h1 := key g [] i l j h
 have h2 := (g2_max (g2_imports (g := g) g []) L i).2.1 hi
 rw [h] at h2
 simp only [posE, List.length_nil] at h1 h2
 omega
section
variable {β : Type} {w0 w wx w1 : World} {br c j b : Nat} {A : Option Addr} {L : List PT} {res : Except Nat (β × Nat)} {K : Ending → World → Prop} {d : Nd}
theorem S1.imp {P : Par (List T1)} {q : List T1 → Par β} {F : Nat} {args : Array Value} (S : S1 w0 w wx br c A L res (bindP P q) j) (D : Calls Tryz.prog F args wx (ImpR w0 w br A c L b d (P L j))) (G : Good2 P) (E : EK res w br K)
 (C : ∀ l sv xs j' w', Hid (P L j = .ok (l, j')) → j ≤ j' → Hid (S1 w0 w w' br c A L res (q l) j') → Hid (KG w.heap.size w.heap.size w' b d sv l xs) → K (.returned (.tuple #[])) w') :
 Calls Tryz.prog F args wx K := by
 have hm := g2_max G L j
 cases hx : P L j with
 | error k =>
   rw [hx] at D
   refine D.mono ?_
   rintro e w' ⟨rfl, hb⟩
   exact E k w' (qh (S.eq.trans (bind_err hx))) (qh hb)
 | ok r =>
   obtain ⟨x, j'⟩ := r
   rw [hx] at D hm
   refine D.mono ?_
   rintro e w' ⟨rfl, hp, sv, xs, hk⟩
   exact C x sv xs j' w' (qh hx) hm.1 (qh ⟨hp, S.eq.trans (bind_ok hx), hm.2.1 S.le⟩) (qh hk)
theorem S1.rest {P : Par (List T1)} {q : List T1 → Par β} {F : Nat} {args : Array Value} (S : S1 w0 w wx br c A L res (bindP P q) j) (D : Calls Tryz.prog F args wx (RestR w0 w br A c L b d (P L j))) (G : Good2 P) (E : EK res w br K)
 (C : ∀ l j' w', j ≤ j' → Hid (S1 w0 w w' br c A L res (q l) j') → Hid (∃ sv, Tr.Blk w' b 38 (cellsN d sv)) → Hid (RepS (fun y => w.heap.size ≤ y) w' (.node d (forest l) .no) [.pointer (some ⟨b, 0, none⟩)]) → K (.returned (.tuple #[])) w') :
 Calls Tryz.prog F args wx K := by
 have hm := g2_max G L j
 cases hx : P L j with
 | error k =>
   rw [hx] at D
   refine D.mono ?_
   rintro e w' ⟨rfl, hb⟩
   exact E k w' (qh (S.eq.trans (bind_err hx))) (qh hb)
 | ok r =>
   obtain ⟨x, j'⟩ := r
   rw [hx] at D hm
   refine D.mono ?_
   rintro e w' ⟨rfl, hp, hbk, hr⟩
   exact C x j' w' hm.1 (qh ⟨hp, S.eq.trans (bind_ok hx), hm.2.1 S.le⟩) (qh hbk) (qh hr)
end
def tailN (g : Nat) (bl : Par T1) (df : Par (List T1)) (kind : Nat) (p : Nat × Nat) : Par T1 := tokP isNm (fun n => needF sSem (bindP (importsR g g []) fun l => bindP (restF bl df kind l) fun l2 => tokP (isThe n.1.text) (fun _ => needF sDot (retP (mk kind p n.1.text 0 l2))) failP)) failP
def SameW (a b : World) : Prop := a = b
theorem rest_any2 {bl : Par T1} {df : Par (List T1)} (hdf : Good2 df) {w0 wB : World} {br c iB : Nat} {A : Option Addr} {L : List PT} (ht : TkS w0 br A L) (hwB : PInv w0 wB br A c L iB) (i : Nat) (hi : i ≤ L.length) (w : World) (hG : PG w0 wB w br A c L i)
 {b : Nat} {p : Nat × Nat} {nm : ByteArray} {kind : Nat} {sv : Value} {acc : List T1} {xs : List Value} (hK : KG wB.heap.size wB.heap.size w b ⟨kind, p, nm, 0⟩ sv acc xs) (hac : acc.length ≤ 900000)
 (HBk : ∀ i, i ≤ L.length → ∀ wx, RowAt wx A L → Calls Tryz.prog 50 #[.slice A L.length c, .int .i64 i] wx (ParR wx (bl L i)))
 (HDf : ∀ i, i ≤ L.length → ∀ wx, RowAt wx A L → Calls Tryz.prog 51 #[.slice A L.length c, .int .i64 i, .bool true] wx (ParD wx (df L i)))
 (hdl : ∀ i l j, i ≤ L.length → df L i = .ok (l, j) → l.length ≤ 100000) :
 Calls Tryz.prog 37 #[.pointer (some ⟨br, 0, none⟩), .pointer (some ⟨b, 0, none⟩)] w (RestR w0 wB br A c L b ⟨kind, p, nm, 0⟩ (restF bl df kind acc L i)) := by
 by_cases hk : kind = 50
 ·exact rest_def ht hwB i hi w hG hK hac hk (HDf i hi) hdf (hdl i · · hi)
 ·exact rest_blk ht hwB i hi w hG hK hac hk (HBk i hi)
theorem unit2_any {g : Nat} {w0 : World} {br c : Nat} {A : Option Addr} {L : List PT} (ht : TkS w0 br A L) (hgL : L.length < g) {bl : Par T1} {df : Par (List T1)} (hbl : Good2 bl) (hdf : Good2 df)
 (HBk : ∀ i, i ≤ L.length → ∀ wx, RowAt wx A L → Calls Tryz.prog 50 #[.slice A L.length c, .int .i64 i] wx (ParR wx (bl L i)))
 (HDf : ∀ i, i ≤ L.length → ∀ wx, RowAt wx A L → Calls Tryz.prog 51 #[.slice A L.length c, .int .i64 i, .bool true] wx (ParD wx (df L i)))
 (hdl : ∀ i l j, i ≤ L.length → df L i = .ok (l, j) → l.length ≤ 100000) (i : Nat) (hi : i ≤ L.length) (w : World) (h : PInv w0 w br A c L i) :
 Calls Tryz.prog 20 #[.pointer (some ⟨br, 0, none⟩)] w (TreeR w.heap.size w0 w br A c L (unitG g bl df L i)) := by
 have hbr := h.row.lt
 have H0 := qh h
 have HT := qh ht
 have HBL := qh HBk
 have HDF := qh HDf
 have HDL := qh hdl
 clear HBk HDf hdl
 obtain ⟨res, hs0⟩ : ∃ r, r = unitG g bl df L i := ⟨_, rfl⟩
 rw [← hs0]
 have S := qh (S1.start h hi hs0)
 clear h ht hs0 hi
 go_enter Tryz.func20, Tryz.ntmps20
 unfold unitG at S
 go_wp2_with fail
 (with_reducible refine S.out.now HT.out ?_)
 clear S
 intro k_p p1 p2 q3_p q4_p t_p n_p wx HPp S hg
 have HBt := qh (Blk.new wx 40 #[.int .u8 k_p, .complex .f64 (fl p1) (fl p2), .complex .f64 (fl q3_p) (fl q4_p), .string t_p, .int .i64 n_p])
 have S := qh (S.out.below ((Below.refl _ _).alloc nl (.cells #[.int .u8 k_p, .complex .f64 (fl p1) (fl p2), .complex .f64 (fl q3_p) (fl q4_p), .string t_p, .int .i64 n_p] 40)))
 go_upto_region 2 with fail
 generalize wx.heap.size = bt at *
 generalize wx.alloc (.cells #[.int .u8 k_p, .complex .f64 (fl p1) (fl p2), .complex .f64 (fl q3_p) (fl q4_p), .string t_p, .int .i64 n_p] 40) = wx at *
 have t1 := HBt.out.cell 1
 simp only [List.getElem?_toArray, List.getElem?_cons_zero, List.getElem?_cons_succ] at t1
 have NW := qh (new_0 (B0 := w.heap.size) (w := wx) S.out.pg.2.size 52 52 rfl p1 p2 sNil 0)
 go_wp2_with fail
 ((with_reducible refine NW.out.mono ?_); rintro e wy ⟨b, sv0, xs0, rfl, hb, hk⟩)
 have HK := qh (hk.lower S.out.pg.2.size)
 have S := qh (S.out.below hb)
 have HBt := qh (HBt.out.below hb HBt.out.lt)
 clear hb hk NW t1
 have t0 := HBt.out.cell 0
 have t3 := HBt.out.cell 3
 simp only [List.getElem?_toArray, List.getElem?_cons_zero, List.getElem?_cons_succ] at t0 t3
 go_upto_if 15 with fail
 go_cut [5] (fun v wc => ∃ wd, v = .string wd ∧ Hid (SameW wy wc ∧ isWd6 sDefn (tk L i) = decide (wd = sDefn) ∧ isWd6 sImpl (tk L i) = decide (wd = sImpl)))
 case first =>
  by_cases hk : k_p = 6
  ·have k6 : ((k_p : Int) != 6) = false := by rw [bne_eq_false_iff_eq]; omega
   have HK6 := qh hk
   clear hk
   go_wp2_with fail
   go_meet
   exact ⟨t_p, rfl, qh ⟨rfl, by rw [HPp.out]; unfold isWd6 tkOf; simp [HK6.out], by rw [HPp.out]; unfold isWd6 tkOf; simp [HK6.out]⟩⟩
  ·have k6 : ((k_p : Int) != 6) = true := by rw [bne_iff_ne]; omega
   have HK6 := qh hk
   clear hk
   go_wp2_with fail
   go_meet
   exact ⟨sNil, rfl, qh ⟨rfl, by rw [HPp.out]; unfold isWd6 tkOf; simp [HK6.out], by rw [HPp.out]; unfold isWd6 tkOf; simp [HK6.out]⟩⟩
 case rest =>
  obtain ⟨wd, rfl, hcw⟩ := hcut
  obtain rfl : wy = _ := hcw.out.1
  have HW1 := qh hcw.out.2
  clear hcw t0 t3 HBt
  have S := qh (show S1 w0 w wy br c A L res (tokP (isWd6 sDefn) (fun _ => tailF g bl df 50 (p1, p2)) (tokP (isWd6 sImpl) (fun _ => tailF g bl df 51 (p1, p2)) (tailF g bl df 52 (p1, p2)))) i from S.out)
  go_upto_block 0 with fail
  go_cut [17, 19] (fun v17 v19 wc => Hid (∃ kind sv xs J, S1 w0 w wc br c A L res (tailN g bl df kind (p1, p2)) J ∧ KG w.heap.size w.heap.size wc b ⟨kind, (p1, p2), sNil, 0⟩ sv [] xs))
  case first =>
   have hs1 := (toL_eq2 wd sDefn).trans (HW1.out.1).symm
   have hs2 := (toL_eq2 wd sImpl).trans (HW1.out.2).symm
   cases hD : isWd6 sDefn (tk L i) with
   | true =>
     rw [hD] at hs1
     clear hs2
     obtain ⟨c0, c0f, _, _⟩ := KG.f02 HK.out
     have hbk := HK.out.kn.blk.lt
     have hbn : ¬ b = br := by have := HK.out.kn.low; omega
     have HK2 := qh (KG.cell_set HK.out 0 (.int .u8 50) ⟨50, (p1, p2), sNil, 0⟩ rfl)
     have S2 := qh (S.out.far H0.out HK.out.kn.low 0 (.int .u8 50))
     obtain ⟨m1, f1, hlt⟩ := S2.out.pg.1.at_
     have x0 : (0 : Int) ≤ (i : Int) := by omega
     have hix : i ≤ 900000 := by have := S.out.le; have := HT.out.toks.len; omega
     have S3 := qh (S2.out.inc hD (De.isWd6_no _))
     have HK := qh (HK2.out.grown (Lx.grown_set _ br 1 (.int .i64 (i + 1 : Nat))) hbr nl)
     clear S S2 HK2
     have S := qh (S3.out.of (q := needF sModule (tailN g bl df 50 (p1, p2))) rfl)
     clear S3
     rw [show ((i + 1 : Nat) : Int) = (i : Int) + 1 from rfl] at S HK
     go_wp2_with fail
     (with_reducible refine S.out.need HT.out ?_ ?_)
     ·intro k w1 h hg; go_wp2; exact ⟨rfl, S1.errT h.out hg.out _⟩
     clear S
     intro wx S hg
     have HK := qh (HK.out.grown hg.out hbr nl)
     go_wp2_with fail
     go_meet
     exact qh ⟨50, _, _, _, S.out, HK.out⟩
   | false =>
     rw [hD] at hs1
     have S := qh (S.out.of (q := tokP (isWd6 sImpl) (fun _ => tailF g bl df 51 (p1, p2)) (tailF g bl df 52 (p1, p2))) (tok_n hD))
     cases hI : isWd6 sImpl (tk L i) with
     | true =>
       rw [hI] at hs2
       obtain ⟨c0, c0f, _, _⟩ := KG.f02 HK.out
       have hbk := HK.out.kn.blk.lt
       have hbn : ¬ b = br := by have := HK.out.kn.low; omega
       have HK2 := qh (KG.cell_set HK.out 0 (.int .u8 51) ⟨51, (p1, p2), sNil, 0⟩ rfl)
       have S2 := qh (S.out.far H0.out HK.out.kn.low 0 (.int .u8 51))
       obtain ⟨m1, f1, hlt⟩ := S2.out.pg.1.at_
       have x0 : (0 : Int) ≤ (i : Int) := by omega
       have hix : i ≤ 900000 := by have := S.out.le; have := HT.out.toks.len; omega
       have S3 := qh (S2.out.inc hI (De.isWd6_no _))
       have HK := qh (HK2.out.grown (Lx.grown_set _ br 1 (.int .i64 (i + 1 : Nat))) hbr nl)
       clear S S2 HK2
       have S := qh (S3.out.of (q := needF sModule (tailN g bl df 51 (p1, p2))) rfl)
       clear S3
       rw [show ((i + 1 : Nat) : Int) = (i : Int) + 1 from rfl] at S HK
       go_wp2_with fail
       (with_reducible refine S.out.need HT.out ?_ ?_)
       ·intro k w1 h hg; go_wp2; exact ⟨rfl, S1.errT h.out hg.out _⟩
       clear S
       intro wx S hg
       have HK := qh (HK.out.grown hg.out hbr nl)
       go_wp2_with fail
       go_meet
       exact qh ⟨51, _, _, _, S.out, HK.out⟩
     | false =>
       rw [hI] at hs2
       have S := qh (S.out.of (q := needF sModule (tailN g bl df 52 (p1, p2))) (tok_n hI))
       go_wp2_with fail
       (with_reducible refine S.out.need HT.out ?_ ?_)
       ·intro k w1 h hg; go_wp2; exact ⟨rfl, S1.errT h.out hg.out _⟩
       clear S
       intro wx S hg
       have HK := qh (HK.out.grown hg.out hbr nl)
       go_wp2_with fail
       go_meet
       exact qh ⟨52, _, _, _, S.out, HK.out⟩
  case rest =>
   obtain ⟨kind, sv, xs, J, hc1, hc2⟩ := hcut.out
   clear S HK
   clear hcut
   have S := qh hc1
   have HK := qh hc2
   clear hc1 hc2
   have S := qh (S.out.of (q := tokP (isThe sNil) (fun n => needF sSem (bindP (importsR g g []) fun l => bindP (restF bl df kind l) fun l2 => tokP (isThe n.1.text) (fun _ => needF sDot (retP (mk kind (p1, p2) n.1.text 0 l2))) failP)) failP) (by unfold tailN; rw [isThe_nil]))
   go_wp2_with fail
   (with_reducible refine S.out.name HT.out ?_ ?_)
   ·intro k w1 h hg; go_wp2; exact ⟨rfl, S1.errT h.out hg.out _⟩
   clear S
   intro k_n n1 n2 q3_n q4_n t_n n_n wx S hg
   have HK := qh (HK.out.grown hg.out hbr nl)
   have S := qh (show S1 w0 w wx br c A L res (needF sSem (bindP (importsR g g []) fun l => bindP (restF bl df kind l) fun l2 => tokP (isThe t_n) (fun _ => needF sDot (retP (mk kind (p1, p2) t_n 0 l2))) failP)) (J + 1) from S.out)
   obtain ⟨_, _, z2, z2f⟩ := KG.f02 HK.out
   have hbk := HK.out.kn.blk.lt
   have HK2 := qh (KG.cell_set HK.out 2 (.string t_n) ⟨kind, (p1, p2), t_n, 0⟩ rfl)
   have S := qh (S.out.far H0.out HK.out.kn.low 2 (.string t_n))
   have HK := HK2
   clear HK2
   go_wp2_with fail
   (with_reducible refine S.out.need HT.out ?_ ?_)
   ·intro k w1 h hg; go_wp2; exact ⟨rfl, S1.errT h.out hg.out _⟩
   clear S z2 z2f hbk
   intro wx S hg
   have HK := qh (HK.out.grown hg.out hbr nl)
   go_wp2_with fail
   (with_reducible refine S.out.imp (imports_any HT.out hgL H0.out _ S.out.le _ S.out.pg HK.out (Nat.zero_le _)) (g2_imports _ _) ?_ ?_)
   ·intro k w1 h hg; go_wp2; exact ⟨rfl, S1.errT h.out hg.out _⟩
   have hsl := S.out.le
   clear S HK
   intro l sv2 xs2 j5 wx HEl hj5 S HK
   have hll := imports_len2 hsl HEl.out
   have hlen := HT.out.toks.len
   go_wp2_with fail
   (with_reducible refine S.out.rest (rest_any2 hdf HT.out H0.out _ S.out.le _ S.out.pg HK.out (by omega) HBL.out HDF.out HDL.out) (g2_rest hbl hdf) ?_ ?_)
   ·intro k w1 h hg; go_wp2; exact ⟨rfl, S1.errT h.out hg.out _⟩
   clear S HK
   intro l2 j7 wx hj7 S HBk2 Hb
   obtain ⟨sv9, hb9⟩ := HBk2.out
   have z2 : wx.cell? ⟨b, 2, none⟩ = some (.string t_n) := hb9.cell 2
   have hbk := hb9.lt
   clear hb9
   go_wp2_with fail
   (with_reducible refine S.out.name HT.out ?_ ?_)
   ·intro k w1 h hg; go_wp2; exact ⟨rfl, S1.errT h.out hg.out _⟩
   clear S z2 hbk HBk2
   intro k_m m1 m2 q3_m q4_m t_m n_m wx S hg
   have Hb := qh (repS_grown Hb.out hg.out hbr)
   go_wp2_with fail
   (with_reducible refine S.out.need HT.out ?_ ?_)
   ·intro k w1 h hg; go_wp2; exact ⟨rfl, S1.errT h.out hg.out _⟩
   clear S
   intro wx S hg
   have Hb := qh (repS_grown Hb.out hg.out hbr)
   go_wp2
   go_ret
   exact S.out.doneT Hb.out
end Un
namespace Un
open Go.RowKit
open Tr (Nd Fo RepS RepN Rep cellsN)
open Lx (Tk noTk Blk run_store_complexL TokAt)
open Fl
open Ex hiding LG new_lg tkOf tkV
open St (TkS g2_max Good2 isNm KG KN new_kg new_0 kid_facts one_ptr sSem sCol sEnd isWd6 ret_ bind_err need_n)
open De (LG new_leaf new_lg namesF sImport sModule run_field0)
attribute [local go_sem] run_store_complexL run_field0 run_field1 run_field3
section
variable {α β : Type} {p : Par α} {q : α → Par β} {s : ByteArray} {L : List PT} {i j : Nat} {x : β}
end
end Un
namespace Un
open Go.RowKit
open Tr (Nd Fo RepS RepN Rep cellsN)
open Lx (Tk noTk Blk run_store_complexL TokAt)
open Fl
open Ex hiding LG new_lg tkOf tkV
open St (TkS g2_max Good2 isNm KG KN new_kg new_0 kid_facts one_ptr sSem sCol sEnd isWd6 ret_ bind_err need_n)
open De (LG new_leaf new_lg run_field0)
attribute [local go_sem] run_store_complexL run_field0 run_field1 run_field3
theorem catch_idle (p q r : Addr) (w : World) :
 CallsD Tryz.prog 19 #[.pointer (some p), .pointer (some q), .pointer (some r)] .returning w fun e u' w' => e = .returned (.tuple #[]) ∧ u' = .returning ∧ w' = w := by
 refine callsD_of_wpS Tryz.func19 rfl fun c₀ cs hu => ?_
 apply wpS_seq
 apply wpS_region
 simp [wpOpsS, go_sem, recoverD, hu, Tryz.ntmps19, Exit.thenS]
 apply wpS_seq
 apply wpS_region
 simp [wpOpsS, go_sem, Exit.thenS, Array.replicate]
 refine wpS_cond (t := false) (by simp [Act.eval, Array.replicate]) ?_
 simp only [Bool.false_eq_true, if_false]
 refine wpS_of_wp (wp_skip ?_)
 cases c₀
 simp_all [bodyPostS, results, Tryz.results19]
theorem run_bad (k : Int) (w : World) : (Instr.typeAssert (.iface 62 (.int .i64 k)) 20 62 false).run Tryz.prog w = .ok (.int .i64 k) w := by
 kernel_rfl
theorem catch_bad (b1 b2 b3 : Nat) (v1 : Option Addr) (k : Nat) (w : World)
 (h1 : w.cell? ⟨b1, 0, none⟩ = some (.pointer v1)) (h2 : w.cell? ⟨b2, 0, none⟩ = some (.int .i64 0)) (h3 : w.cell? ⟨b3, 0, none⟩ = some (.int .i64 0)) (f1 : w.frozen? ⟨b1, 0, none⟩ = false) (f2 : w.frozen? ⟨b2, 0, none⟩ = false) (f3 : w.frozen? ⟨b3, 0, none⟩ = false)
 (n12 : b1 < b2) (n23 : b2 < b3) :
 CallsD Tryz.prog 19 #[.pointer (some ⟨b1, 0, none⟩), .pointer (some ⟨b2, 0, none⟩), .pointer (some ⟨b3, 0, none⟩)] (.panicking [{ v := .iface 62 (.int .i64 k), recovered := false }]) w fun e u' w' =>
  e = .returned (.tuple #[]) ∧ u' = .panicking [{ v := .iface 62 (.int .i64 k), recovered := true }] ∧ w' = (((w.setCell ⟨b1, 0, none⟩ (.pointer none)).setCell ⟨b2, 0, none⟩ (.int .i64 k)).setCell ⟨b3, 0, none⟩ (.int .i64 60)).drew := by
 refine callsD_of_wpS Tryz.func19 rfl fun c₀ cs hu => ?_
 apply wpS_seq
 apply wpS_region
 simp [wpOpsS, go_sem, recoverD, hu, Tryz.ntmps19, Exit.thenS]
 apply wpS_seq
 apply wpS_region
 simp [wpOpsS, go_sem, Exit.thenS, Array.replicate]
 refine wpS_cond (t := true) (by simp [Act.eval, Array.replicate]) ?_
 simp only [if_true]
 refine wpS_of_wp ?_
 have hne12 : ¬ b1 = b2 := by omega
 have hne13 : ¬ b1 = b3 := by omega
 have hne23 : ¬ b2 = b3 := by omega
 have hne21 : ¬ b2 = b1 := by omega
 have hne31 : ¬ b3 = b1 := by omega
 have hne32 : ¬ b3 = b2 := by omega
 have hta := run_bad k
 go_region
 all_goals
  simp [bodyPostS, results, Tryz.results19]
theorem par_world (w : World) (A : Option Addr) (c : Nat) (L : List PT) (i : Nat) : Below w.heap.size w ((((w.alloc (.cells #[.pointer none] 31)).alloc (.cells #[.int .i64 0] 3)).alloc (.cells #[.int .i64 0] 32)).alloc (.cells #[.slice A L.length c, .int .i64 i] 65)) ∧ ((((w.alloc (.cells #[.pointer none] 31)).alloc (.cells #[.int .i64 0] 3)).alloc (.cells #[.int .i64 0] 32)).alloc (.cells #[.slice A L.length c, .int .i64 i] 65)).heap.size = w.heap.size + 4 ∧ Blk ((((w.alloc (.cells #[.pointer none] 31)).alloc (.cells #[.int .i64 0] 3)).alloc (.cells #[.int .i64 0] 32)).alloc (.cells #[.slice A L.length c, .int .i64 i] 65)) w.heap.size 31 #[.pointer none] ∧ Blk ((((w.alloc (.cells #[.pointer none] 31)).alloc (.cells #[.int .i64 0] 3)).alloc (.cells #[.int .i64 0] 32)).alloc (.cells #[.slice A L.length c, .int .i64 i] 65)) (w.heap.size + 1) 3 #[.int .i64 0] ∧ Blk ((((w.alloc (.cells #[.pointer none] 31)).alloc (.cells #[.int .i64 0] 3)).alloc (.cells #[.int .i64 0] 32)).alloc (.cells #[.slice A L.length c, .int .i64 i] 65)) (w.heap.size + 1 + 1) 32 #[.int .i64 0] ∧ Blk ((((w.alloc (.cells #[.pointer none] 31)).alloc (.cells #[.int .i64 0] 3)).alloc (.cells #[.int .i64 0] 32)).alloc (.cells #[.slice A L.length c, .int .i64 i] 65)) (w.heap.size + 1 + 1 + 1) 65 #[.slice A L.length c, .int .i64 i] := by
 have hn : ∀ (W : World) (o : Obj) (m : Nat), W.heap.size = m → (W.alloc o).heap[m]? = some o := fun W o m h => by rw [← h]; exact heap_alloc_new W o
 have ho : ∀ (W : World) (o o' : Obj) (m : Nat), W.heap[m]? = some o' → (W.alloc o).heap[m]? = some o' := fun W o o' m h => (Below.heap_alloc W o m (obj_lt h)).trans h
 have ha : ∀ {W : World} (h : Below w.heap.size w W) (o : Obj), Below w.heap.size w (W.alloc o) := fun h o => h.alloc h.size o
 refine ⟨ha (ha (ha (ha (Below.refl _ _) _) _) _) _, by simp [World.size_alloc], ?_, ?_, ?_, ?_⟩
 ·exact ho _ _ _ _ (ho _ _ _ _ (ho _ _ _ _ (hn _ _ _ rfl)))
 ·exact ho _ _ _ _ (ho _ _ _ _ (hn _ _ _ (by simp [World.size_alloc])))
 ·exact ho _ _ _ _ (hn _ _ _ (by simp [World.size_alloc]))
 ·exact hn _ _ _ (by simp [World.size_alloc])
def ParU (w : World) (r : Except Nat (T1 × Nat)) (e : Ending) (w' : World) : Prop := match r with
 | .ok (x, _) => ∃ b, e = .returned (.tuple #[.pointer (some ⟨b, 0, none⟩), .int .i64 0, .int .i64 0]) ∧ RepS (fun y => w.heap.size ≤ y) w' (.node x.1 x.2 .no) [.pointer (some ⟨b, 0, none⟩)] ∧ Below w.heap.size w w'
 | .error k => e = .returned (.tuple #[.pointer none, .int .i64 k, .int .i64 60]) ∧ Below w.heap.size w w'
def finR (L : List PT) : Except Nat (T1 × Nat) → Except Nat (T1 × Nat)
 | .ok (x, j) => if isFin (tk L j) = true then .ok (x, j) else .error j
 | .error k => .error k
theorem fin_y {L : List PT} {x : T1} {j : Nat} (h : isFin (tk L j) = true) : finR L (.ok (x, j)) = .ok (x, j) := if_pos h
theorem fin_n {L : List PT} {x : T1} {j : Nat} (h : isFin (tk L j) = false) : finR L (.ok (x, j)) = .error j := if_neg (by rw [h]; simp)
theorem Parse_any {w : World} {A : Option Addr} {L : List PT} (h : RowAt w A L) (c : Nat) {ru : Except Nat (T1 × Nat)} (hj : ∀ x j, ru = .ok (x, j) → j ≤ 60000)
 (HF0 : ∀ w0 br, TkS w0 br A L → PInv w0 w0 br A c L 0 → Calls Tryz.prog 20 #[.pointer (some ⟨br, 0, none⟩)] w0 (TreeR w0.heap.size w0 w0 br A c L ru)) :
 Calls Tryz.prog 10 #[.slice A L.length c] w (ParU w (finR L ru)) := by
 have HF := qh HF0
 have HJ := qh hj
 have hL := h.len
 have hA := h.reads
 have hlow := h.low
 clear h HF0 hj
 have hmf : ∀ (fn : Fn) (first cap : Array Value) (w : World), (Instr.makeFunc fn first cap).run Tryz.prog w = .ok (.func fn first cap) w := fun _ _ _ _ => rfl
 have HA := qh hA
 clear hA
 have HPW := qh (par_world w A c L 0)
 go_enter_defers Tryz.func10, Tryz.ntmps10
 go_wp2_with fail
 obtain ⟨hb0, hs0, k1, k2, k3, kr⟩ := HPW.out
 clear HPW
 change Calls _ _ _ ((((w.alloc (.cells #[.pointer none] 31)).alloc (.cells #[.int .i64 0] 3)).alloc (.cells #[.int .i64 0] 32)).alloc (.cells #[.slice A L.length c, .int .i64 (0 : Nat)] 65)) _
 generalize ((((w.alloc (.cells #[.pointer none] 31)).alloc (.cells #[.int .i64 0] 3)).alloc (.cells #[.int .i64 0] 32)).alloc (.cells #[.slice A L.length c, .int .i64 (0 : Nat)] 65)) = w0 at *
 have HT : Hid (TkS w0 (w.heap.size + 1 + 1 + 1) A L) := qh ⟨⟨(HA.out.below hb0).more hb0.size, by omega, fun ad e => by have := hlow ad e; omega, hL⟩, fun ad e => by have := hlow ad e; have := hb0.size; omega⟩
 have H := qh (PG.start (⟨kr, ⟨rfl, rfl, rfl, Nat.le_refl _, fun _ _ _ => rfl⟩⟩ : PInv w0 w0 (w.heap.size + 1 + 1 + 1) A c L 0))
 have d1 := HF.out w0 _ HT.out H.out.1
 have hbz : w.heap.size + 1 + 1 + 1 < w0.heap.size := by omega
 have K := qh (And.intro k1 (And.intro k2 k3))
 have HB0 := qh hb0
 clear kr k1 k2 k3 hb0
 cases ru with
 | error k =>
   have D1 := qh d1
   clear d1
   ((with_reducible refine D1.out.mono ?_); rintro e wv ⟨rfl, hg⟩)
   have G := qh (And.intro (K.out.1.grown hg (by intro e; injection e with e; omega)) (And.intro (K.out.2.1.grown hg (by intro e; injection e with e; omega)) (K.out.2.2.grown hg (by intro e; injection e with e; omega))))
   have HBV := qh (Lx.below_grown HB0.out hg (fun k e => by injection e with e; omega) HB0.out.size)
   clear hg
   obtain ⟨g1, g2, g3⟩ := G.out
   refine leaves_cons (f := 19) (args := #[.pointer (some ⟨w.heap.size, 0, none⟩), .pointer (some ⟨w.heap.size + 1, 0, none⟩), .pointer (some ⟨w.heap.size + 1 + 1, 0, none⟩)]) (by simp) (by simp [go_sem]) ?_
   refine (catch_bad w.heap.size (w.heap.size + 1) (w.heap.size + 1 + 1) none k wv (g1.cell 0) (g2.cell 0) (g3.cell 0) (g1.frozen 0) (g2.frozen 0) (g3.frozen 0) (by omega) (by omega)).mono ?_
   rintro e u' w'' ⟨rfl, rfl, rfl⟩
   have z1 := ((((g1.set_ 0 (.pointer none)).far (p := ⟨w.heap.size + 1, 0, none⟩) (show w.heap.size ≠ w.heap.size + 1 by omega) (.int .i64 k)).far (p := ⟨w.heap.size + 1 + 1, 0, none⟩) (show w.heap.size ≠ w.heap.size + 1 + 1 by omega) (.int .i64 60)).drewN 1).cell 0
   have z2 := ((((g2.far (p := ⟨w.heap.size, 0, none⟩) (show w.heap.size + 1 ≠ w.heap.size by omega) (.pointer none)).set_ 0 (.int .i64 k)).far (p := ⟨w.heap.size + 1 + 1, 0, none⟩) (show w.heap.size + 1 ≠ w.heap.size + 1 + 1 by omega) (.int .i64 60)).drewN 1).cell 0
   have z3 := ((((g3.far (p := ⟨w.heap.size, 0, none⟩) (show w.heap.size + 1 + 1 ≠ w.heap.size by omega) (.pointer none)).far (p := ⟨w.heap.size + 1, 0, none⟩) (show w.heap.size + 1 + 1 ≠ w.heap.size + 1 by omega) (.int .i64 k)).set_ 0 (.int .i64 60)).drewN 1).cell 0
   have hbz2 : Below w.heap.size w ((((wv.setCell ⟨w.heap.size, 0, none⟩ (.pointer none)).setCell ⟨w.heap.size + 1, 0, none⟩ (.int .i64 k)).setCell ⟨w.heap.size + 1 + 1, 0, none⟩ (.int .i64 60)).drewN 1) := Lx.below_drewN (((HBV.out.setCell nl _).setCell (Nat.le_succ _) _).setCell (show w.heap.size ≤ w.heap.size + 1 + 1 by omega) _) 1
   have HBZ := qh hbz2
   clear g1 g2 g3 hbz2
   change Leaves _ _ _ _ _ _ ((((wv.setCell ⟨w.heap.size, 0, none⟩ (.pointer none)).setCell ⟨w.heap.size + 1, 0, none⟩ (.int .i64 k)).setCell ⟨w.heap.size + 1 + 1, 0, none⟩ (.int .i64 60)).drewN 1)
   generalize (((wv.setCell ⟨w.heap.size, 0, none⟩ (.pointer none)).setCell ⟨w.heap.size + 1, 0, none⟩ (.int .i64 k)).setCell ⟨w.heap.size + 1 + 1, 0, none⟩ (.int .i64 60)).drewN 1 = z at *
   have z1' : z.cell? ⟨w.heap.size, 0, none⟩ = some (.pointer none) := by simpa using z1
   have z2' : z.cell? ⟨w.heap.size + 1, 0, none⟩ = some (.int .i64 k) := by simpa using z2
   have z3' : z.cell? ⟨w.heap.size + 1 + 1, 0, none⟩ = some (.int .i64 60) := by simpa using z3
   clear z1 z2 z3
   simp [Leaves, settle, results, Tryz.results10, go_sem, z1', z2', z3']
   exact ⟨rfl, HBZ.out⟩
 | ok r =>
   obtain ⟨x, j⟩ := r
   have hj := HJ.out _ _ rfl
   have D1 := qh d1
   clear d1
   ((with_reducible refine D1.out.mono ?_); rintro e wv ⟨b, rfl, hp, hg, hr⟩)
   have g1 := K.out.1.grown hg (by intro e; injection e with e; omega)
   have g2 := K.out.2.1.grown hg (by intro e; injection e with e; omega)
   have g3 := K.out.2.2.grown hg (by intro e; injection e with e; omega)
   have m1 := g1.cell 0
   have f1 := g1.frozen 0
   have h1l := g1.lt
   simp only [List.getElem?_toArray, List.getElem?_cons_zero] at m1
   have G := qh (And.intro (g1.set_ 0 (.pointer (some ⟨b, 0, none⟩))) (And.intro (g2.far (p := ⟨w.heap.size, 0, none⟩) (show w.heap.size + 1 ≠ w.heap.size by omega) (.pointer (some ⟨b, 0, none⟩))) (g3.far (p := ⟨w.heap.size, 0, none⟩) (show w.heap.size + 1 + 1 ≠ w.heap.size by omega) (.pointer (some ⟨b, 0, none⟩)))))
   have hqr := hp.row.far (p := ⟨w.heap.size, 0, none⟩) (show w.heap.size + 1 + 1 + 1 ≠ w.heap.size by omega) (.pointer (some ⟨b, 0, none⟩))
   have HBV := qh ((Lx.below_grown HB0.out hg (fun k e => by injection e with e; omega) HB0.out.size).setCell (p := ⟨w.heap.size, 0, none⟩) nl (.pointer (some ⟨b, 0, none⟩)))
   have HR := qh ((hr.more (S' := fun y => w.heap.size + 4 ≤ y) fun y hy _ => by omega).keep (S' := fun y => w.heap.size + 4 ≤ y) (w' := wv.setCell ⟨w.heap.size, 0, none⟩ (.pointer (some ⟨b, 0, none⟩))) (by rw [World.size_setCell]; exact Nat.le_refl _) (fun y hy _ => Below.heap_setCell _ ⟨w.heap.size, 0, none⟩ _ _ (show y ≠ w.heap.size by omega)) (fun y h _ => h))
   have HQR := qh hqr
   clear hp hg hr g1 g2 g3 hqr K D1 H HT
   have HW : Hid (∀ wz, wv.setCell ⟨w.heap.size, 0, none⟩ (.pointer (some ⟨b, 0, none⟩)) = wz → Calls Tryz.prog 21 #[.pointer (some ⟨w.heap.size + 1 + 1 + 1, 0, none⟩)] wz fun e w' => e = .returned (PT.val (tk L j)) ∧ Below wz.heap.size wz w') := qh (fun wz hz => by
    subst hz
    have hbv := HBV.out
    have ht : TkS (wv.setCell ⟨w.heap.size, 0, none⟩ (.pointer (some ⟨b, 0, none⟩))) (w.heap.size + 1 + 1 + 1) A L := ⟨⟨(HA.out.below hbv).more hbv.size, by have := HQR.out.lt; omega, fun ad e => by have := hlow ad e; omega, hL⟩, fun ad e => by have := hlow ad e; have := hbv.size; omega⟩
    exact now_any ht.toks (i := j) (by omega) _ (⟨HQR.out, ⟨rfl, rfl, rfl, Nat.le_refl _, fun _ _ _ => rfl⟩⟩ : PInv _ _ (w.heap.size + 1 + 1 + 1) A c L j))
   obtain ⟨k_p, p1, p2, q3_p, q4_p, t_p, n_p, e1, e2⟩ := val_form (tk L j)
   have N1 := qh (e2 ▸ HW.out _ rfl)
   have hfin : isFin (tk L j) = decide (k_p = 0) := by rw [e1]; rfl
   clear HW e1 e2
   go_wp2_with fail
   ((with_reducible refine N1.out.mono ?_); rintro e wx ⟨rfl, hb⟩)
   have hb' := hb
   rw [World.size_setCell] at hb'
   have G := qh (And.intro (G.out.1.below hb G.out.1.lt) (And.intro (G.out.2.1.below hb G.out.2.1.lt) (G.out.2.2.below hb G.out.2.2.lt)))
   have HR := qh (HR.out.below hb)
   have HBV := qh (HBV.out.trans (hb.mono HBV.out.size))
   have HQR := qh (HQR.out.below hb HQR.out.lt)
   clear hb hb' N1 m1 f1
   by_cases hk0 : k_p = 0
   ·have hk0' : (k_p : Int) = 0 := by omega
    have FY := qh (fin_y (x := x) (hfin.trans (decide_eq_true hk0)))
    obtain ⟨g1, g2, g3⟩ := G.out
    have m1 := g1.cell 0
    have m2 := g2.cell 0
    have m3 := g3.cell 0
    have f1 := g1.frozen 0
    have f2 := g2.frozen 0
    have f3 := g3.frozen 0
    have hlx := g3.lt
    simp only [List.getElem?_toArray, List.getElem?_cons_zero] at m1 m2 m3
    clear g1 g2 g3
    go_wp2_with fail
    clear m1 m2 m3 f1 f2 f3
    obtain ⟨g1, g2, g3⟩ := G.out
    refine leaves_cons (f := 19) (args := #[.pointer (some ⟨w.heap.size, 0, none⟩), .pointer (some ⟨w.heap.size + 1, 0, none⟩), .pointer (some ⟨w.heap.size + 1 + 1, 0, none⟩)]) (by simp) (by simp [go_sem]) ?_
    refine (catch_idle ⟨w.heap.size, 0, none⟩ ⟨w.heap.size + 1, 0, none⟩ ⟨w.heap.size + 1 + 1, 0, none⟩ _).mono ?_
    rintro e u' w'' ⟨rfl, rfl, rfl⟩
    have z1 := (((g1.set_ 0 (.pointer (some ⟨b, 0, none⟩))).far (p := ⟨w.heap.size + 1, 0, none⟩) (show w.heap.size ≠ w.heap.size + 1 by omega) (.int .i64 0)).far (p := ⟨w.heap.size + 1 + 1, 0, none⟩) (show w.heap.size ≠ w.heap.size + 1 + 1 by omega) (.int .i64 0)).cell 0
    have z2 := (((g2.far (p := ⟨w.heap.size, 0, none⟩) (show w.heap.size + 1 ≠ w.heap.size by omega) (.pointer (some ⟨b, 0, none⟩))).set_ 0 (.int .i64 0)).far (p := ⟨w.heap.size + 1 + 1, 0, none⟩) (show w.heap.size + 1 ≠ w.heap.size + 1 + 1 by omega) (.int .i64 0)).cell 0
    have z3 := (((g3.far (p := ⟨w.heap.size, 0, none⟩) (show w.heap.size + 1 + 1 ≠ w.heap.size by omega) (.pointer (some ⟨b, 0, none⟩))).far (p := ⟨w.heap.size + 1, 0, none⟩) (show w.heap.size + 1 + 1 ≠ w.heap.size + 1 by omega) (.int .i64 0)).set_ 0 (.int .i64 0)).cell 0
    have HBZ := qh (((HBV.out.setCell (p := ⟨w.heap.size, 0, none⟩) nl (.pointer (some ⟨b, 0, none⟩))).setCell (p := ⟨w.heap.size + 1, 0, none⟩) (Nat.le_succ _) (.int .i64 0)).setCell (p := ⟨w.heap.size + 1 + 1, 0, none⟩) (show w.heap.size ≤ w.heap.size + 1 + 1 by omega) (.int .i64 0))
    have h1 := HR.out.keep (S' := fun y => w.heap.size + 4 ≤ y) (w' := wx.setCell ⟨w.heap.size, 0, none⟩ (.pointer (some ⟨b, 0, none⟩))) (Nat.le_of_eq (World.size_setCell _ _ _).symm) (fun y hy _ => Below.heap_setCell _ ⟨w.heap.size, 0, none⟩ _ _ (show y ≠ w.heap.size by omega)) (fun y h _ => h)
    have h2 := h1.keep (S' := fun y => w.heap.size + 4 ≤ y) (w' := (wx.setCell ⟨w.heap.size, 0, none⟩ (.pointer (some ⟨b, 0, none⟩))).setCell ⟨w.heap.size + 1, 0, none⟩ (.int .i64 0)) (Nat.le_of_eq (World.size_setCell _ _ _).symm) (fun y hy _ => Below.heap_setCell _ ⟨w.heap.size + 1, 0, none⟩ _ _ (show y ≠ w.heap.size + 1 by omega)) (fun y h _ => h)
    have h3 := h2.keep (S' := fun y => w.heap.size + 4 ≤ y) (w' := (((wx.setCell ⟨w.heap.size, 0, none⟩ (.pointer (some ⟨b, 0, none⟩))).setCell ⟨w.heap.size + 1, 0, none⟩ (.int .i64 0)).setCell ⟨w.heap.size + 1 + 1, 0, none⟩ (.int .i64 0))) (Nat.le_of_eq (World.size_setCell _ _ _).symm) (fun y hy _ => Below.heap_setCell _ ⟨w.heap.size + 1 + 1, 0, none⟩ _ _ (show y ≠ w.heap.size + 1 + 1 by omega)) (fun y h _ => h)
    have HRZ := qh (h3.more (S' := fun y => w.heap.size ≤ y) fun y hy _ => by omega)
    clear g1 g2 g3 h1 h2 h3
    generalize (((wx.setCell ⟨w.heap.size, 0, none⟩ (.pointer (some ⟨b, 0, none⟩))).setCell ⟨w.heap.size + 1, 0, none⟩ (.int .i64 0)).setCell ⟨w.heap.size + 1 + 1, 0, none⟩ (.int .i64 0)) = z at *
    have z1' : z.cell? ⟨w.heap.size, 0, none⟩ = some (.pointer (some ⟨b, 0, none⟩)) := by simpa using z1
    have z2' : z.cell? ⟨w.heap.size + 1, 0, none⟩ = some (.int .i64 0) := by simpa using z2
    have z3' : z.cell? ⟨w.heap.size + 1 + 1, 0, none⟩ = some (.int .i64 0) := by simpa using z3
    clear z1 z2 z3
    simp [Leaves, settle, results, Tryz.results10, go_sem, z1', z2', z3']
    rw [FY.out]
    exact ⟨b, rfl, HRZ.out, HBZ.out⟩
   ·have hk0' : ¬ (k_p : Int) = 0 := by omega
    have FY := qh (fin_n (x := x) (hfin.trans (decide_eq_false hk0)))
    have mr := HQR.out.cell 1
    simp only [List.getElem?_toArray, List.getElem?_cons_zero, List.getElem?_cons_succ] at mr
    clear HR HQR
    go_wp2_with fail
    generalize wx = wv at *
    obtain ⟨g1, g2, g3⟩ := G.out
    refine leaves_cons (f := 19) (args := #[.pointer (some ⟨w.heap.size, 0, none⟩), .pointer (some ⟨w.heap.size + 1, 0, none⟩), .pointer (some ⟨w.heap.size + 1 + 1, 0, none⟩)]) (by simp) (by simp [go_sem]) ?_
    refine (catch_bad w.heap.size (w.heap.size + 1) (w.heap.size + 1 + 1) (some ⟨b, 0, none⟩) j wv (g1.cell 0) (g2.cell 0) (g3.cell 0) (g1.frozen 0) (g2.frozen 0) (g3.frozen 0) (by omega) (by omega)).mono ?_
    rintro e u' w'' ⟨rfl, rfl, rfl⟩
    have z1 := ((((g1.set_ 0 (.pointer none)).far (p := ⟨w.heap.size + 1, 0, none⟩) (show w.heap.size ≠ w.heap.size + 1 by omega) (.int .i64 j)).far (p := ⟨w.heap.size + 1 + 1, 0, none⟩) (show w.heap.size ≠ w.heap.size + 1 + 1 by omega) (.int .i64 60)).drewN 1).cell 0
    have z2 := ((((g2.far (p := ⟨w.heap.size, 0, none⟩) (show w.heap.size + 1 ≠ w.heap.size by omega) (.pointer none)).set_ 0 (.int .i64 j)).far (p := ⟨w.heap.size + 1 + 1, 0, none⟩) (show w.heap.size + 1 ≠ w.heap.size + 1 + 1 by omega) (.int .i64 60)).drewN 1).cell 0
    have z3 := ((((g3.far (p := ⟨w.heap.size, 0, none⟩) (show w.heap.size + 1 + 1 ≠ w.heap.size by omega) (.pointer none)).far (p := ⟨w.heap.size + 1, 0, none⟩) (show w.heap.size + 1 + 1 ≠ w.heap.size + 1 by omega) (.int .i64 j)).set_ 0 (.int .i64 60)).drewN 1).cell 0
    have hbz2 : Below w.heap.size w ((((wv.setCell ⟨w.heap.size, 0, none⟩ (.pointer none)).setCell ⟨w.heap.size + 1, 0, none⟩ (.int .i64 j)).setCell ⟨w.heap.size + 1 + 1, 0, none⟩ (.int .i64 60)).drewN 1) := Lx.below_drewN (((HBV.out.setCell nl _).setCell (Nat.le_succ _) _).setCell (show w.heap.size ≤ w.heap.size + 1 + 1 by omega) _) 1
    have HBZ := qh hbz2
    clear g1 g2 g3 hbz2
    change Leaves _ _ _ _ _ _ ((((wv.setCell ⟨w.heap.size, 0, none⟩ (.pointer none)).setCell ⟨w.heap.size + 1, 0, none⟩ (.int .i64 j)).setCell ⟨w.heap.size + 1 + 1, 0, none⟩ (.int .i64 60)).drewN 1)
    generalize (((wv.setCell ⟨w.heap.size, 0, none⟩ (.pointer none)).setCell ⟨w.heap.size + 1, 0, none⟩ (.int .i64 j)).setCell ⟨w.heap.size + 1 + 1, 0, none⟩ (.int .i64 60)).drewN 1 = z at *
    have z1' : z.cell? ⟨w.heap.size, 0, none⟩ = some (.pointer none) := by simpa using z1
    have z2' : z.cell? ⟨w.heap.size + 1, 0, none⟩ = some (.int .i64 j) := by simpa using z2
    have z3' : z.cell? ⟨w.heap.size + 1 + 1, 0, none⟩ = some (.int .i64 60) := by simpa using z3
    clear z1 z2 z3
    simp [Leaves, settle, results, Tryz.results10, go_sem, z1', z2', z3']
    rw [FY.out]
    exact ⟨rfl, HBZ.out⟩
end Un
end Go.Proofs.YtkemhmfdooghkaaGreatDoor
