/- A part of the proof: K16. -/
import Derived.Test.YtkemhmfdooghkaaGreatDoorW1
import Derived.Test.YtkemhmfdooghkaaGreatDoorW41
import Derived.Deep.CutBlock
import Derived.Deep.DeepCutAuto
set_option linter.unusedSimpArgs false
set_option linter.unusedVariables false
set_option maxRecDepth 100000
set_option maxHeartbeats 6400000
namespace Go.Proofs.YtkemhmfdooghkaaGreatDoor.Un
open Go.RowKit
open Tr (Nd Fo RepS RepN Rep cellsN)
open Lx (Tk noTk Blk run_store_complexL TokAt)
open Fl
open Ex
open St (TkS g2_max Good2 isNm KG KN new_kg new_0 kid_facts one_ptr sSem sCol sEnd isWd6 ret_ bind_err need_n)
open De (LG new_leaf new_lg namesF sImport sModule run_field0 tkOf tkV KP bind_assoc ParD)
attribute [local go_sem] run_store_complexL run_field0 run_field1 run_field3
theorem toL_eq2 (t s : ByteArray) : (t.toList == s.data.toList) = decide (t = s) := by
 have hl : t.toList = t.data.toList := ByteArray.toList_eq t
 rw [hl]
 rw [Bool.eq_iff_iff, beq_iff_eq, decide_eq_true_iff]
 exact ⟨fun h => by obtain ⟨⟨a⟩⟩ := t; obtain ⟨⟨b⟩⟩ := s; simp at h; subst h; rfl, fun h => by rw [h]⟩
theorem isThe_nil : isThe sNil = isNm := by
 funext t
 simp [isThe]
theorem imports_len2 {g : Nat} {L : List PT} {i j : Nat} {l : List T1} (hi : i ≤ L.length) (h : importsR g g [] L i = .ok (l, j)) : l.length ≤ L.length := by
 have key : ∀ (f : Nat) (acc : List T1) (i : Nat) (l : List T1) (j : Nat), importsR g f acc L i = .ok (l, j) → l.length + i ≤ acc.length + j := by
  intro f
  induction f with
  | zero => intro acc i l j h; cases h
  | succ f ih =>
    intro acc i l j h
    have hl : ∀ (x : List T1 → T1) (k : Nat), i < k → bindP (namesF g []) (fun l => needF sSem (importsR g f (acc ++ [x l]))) L k = .ok (l, j) → l.length + i ≤ acc.length + j := fun x k hk h => by
     obtain ⟨y, m, h1, h2⟩ := De.bind_inv2 h
     have a1 := De.names_lt h1
     unfold needF tokP at h2
     dsimp only at h2
     split at h2
     ·have := ih _ _ _ _ h2
      simp only [List.length_append, List.length_cons, List.length_nil] at this
      omega
     ·cases h2
    rw [importsR] at h
    by_cases ht : tT sFrom (tk L i) = true
    ·rw [tok_y ht] at h
     by_cases hn : isNm (tk L (i + 1)) = true
     ·rw [tok_y hn] at h
      unfold needF tokP at h
      dsimp only at h
      split at h
      ·exact hl (fun l => _) (i + 1 + 1 + 1) (by omega) h
      ·cases h
     ·rw [tok_n (by simpa using hn)] at h
      cases h
    ·rw [tok_n (by simpa using ht)] at h
     by_cases ht2 : tT sImport (tk L i) = true
     ·rw [tok_y ht2] at h
      exact hl (fun l => _) (i + 1) (by omega) h
     ·rw [tok_n (by simpa using ht2)] at h
      injection h with h; injection h with h1 h2; subst h1 h2
      exact Nat.le_refl _
 have h1 := key g [] i l j h
 have h2 := (g2_max (g2_imports (g := g) g []) L i).2.1 hi
 rw [h] at h2
 simp only [posE, List.length_nil] at h1 h2
 omega
section
variable {β : Type} {w0 w wx w1 : World} {br c j b : Nat} {A : Option Addr} {L : List PT} {res : Except Nat (β × Nat)} {K : Ending → World → Prop} {d : Nd}
theorem S1.imp {P : Par (List T1)} {q : List T1 → Par β} {F : Nat} {args : Array Value} (S : S1 w0 w wx br c A L res (bindP P q) j) (D : Calls Tryz.prog F args wx (ImpR w0 w br A c L b d (P L j))) (G : Good2 P) (E : EK res w br K)
 (C : ∀ l sv xs j' w', Hid (P L j = .ok (l, j')) → j ≤ j' → Hid (S1 w0 w w' br c A L res (q l) j') → Hid (KG w.heap.size w.heap.size w' b d sv l xs) → K (.returned (.tuple #[])) w') :
 Calls Tryz.prog F args wx K := by
 have hm := g2_max G L j
 cases hx : P L j with
 | error k =>
   rw [hx] at D
   refine D.mono ?_
   rintro e w' ⟨rfl, hb⟩
   exact E k w' (qh (S.eq.trans (bind_err hx))) (qh hb)
 | ok r =>
   obtain ⟨x, j'⟩ := r
   rw [hx] at D hm
   refine D.mono ?_
   rintro e w' ⟨rfl, hp, sv, xs, hk⟩
   exact C x sv xs j' w' (qh hx) hm.1 (qh ⟨hp, S.eq.trans (bind_ok hx), hm.2.1 S.le⟩) (qh hk)
theorem S1.rest {P : Par (List T1)} {q : List T1 → Par β} {F : Nat} {args : Array Value} (S : S1 w0 w wx br c A L res (bindP P q) j) (D : Calls Tryz.prog F args wx (RestR w0 w br A c L b d (P L j))) (G : Good2 P) (E : EK res w br K)
 (C : ∀ l j' w', j ≤ j' → Hid (S1 w0 w w' br c A L res (q l) j') → Hid (∃ sv, Tr.Blk w' b 38 (cellsN d sv)) → Hid (RepS (fun y => w.heap.size ≤ y) w' (.node d (forest l) .no) [.pointer (some ⟨b, 0, none⟩)]) → K (.returned (.tuple #[])) w') :
 Calls Tryz.prog F args wx K := by
 have hm := g2_max G L j
 cases hx : P L j with
 | error k =>
   rw [hx] at D
   refine D.mono ?_
   rintro e w' ⟨rfl, hb⟩
   exact E k w' (qh (S.eq.trans (bind_err hx))) (qh hb)
 | ok r =>
   obtain ⟨x, j'⟩ := r
   rw [hx] at D hm
   refine D.mono ?_
   rintro e w' ⟨rfl, hp, hbk, hr⟩
   exact C x j' w' hm.1 (qh ⟨hp, S.eq.trans (bind_ok hx), hm.2.1 S.le⟩) (qh hbk) (qh hr)
end
def tailN (g : Nat) (bl : Par T1) (df : Par (List T1)) (kind : Nat) (p : Nat × Nat) : Par T1 := tokP isNm (fun n => needF sSem (bindP (importsR g g []) fun l => bindP (restF bl df kind l) fun l2 => tokP (isThe n.1.text) (fun _ => needF sDot (retP (mk kind p n.1.text 0 l2))) failP)) failP
def SameW (a b : World) : Prop := a = b
theorem rest_any2 {bl : Par T1} {df : Par (List T1)} (hdf : Good2 df) {w0 wB : World} {br c iB : Nat} {A : Option Addr} {L : List PT} (ht : TkS w0 br A L) (hwB : PInv w0 wB br A c L iB) (i : Nat) (hi : i ≤ L.length) (w : World) (hG : PG w0 wB w br A c L i)
 {b : Nat} {p : Nat × Nat} {nm : ByteArray} {kind : Nat} {sv : Value} {acc : List T1} {xs : List Value} (hK : KG wB.heap.size wB.heap.size w b ⟨kind, p, nm, 0⟩ sv acc xs) (hac : acc.length ≤ 900000)
 (HBk : ∀ i, i ≤ L.length → ∀ wx, RowAt wx A L → Calls Tryz.prog 50 #[.slice A L.length c, .int .i64 i] wx (ParR wx (bl L i)))
 (HDf : ∀ i, i ≤ L.length → ∀ wx, RowAt wx A L → Calls Tryz.prog 51 #[.slice A L.length c, .int .i64 i, .bool true] wx (ParD wx (df L i)))
 (hdl : ∀ i l j, i ≤ L.length → df L i = .ok (l, j) → l.length ≤ 100000) :
 Calls Tryz.prog 37 #[.pointer (some ⟨br, 0, none⟩), .pointer (some ⟨b, 0, none⟩)] w (RestR w0 wB br A c L b ⟨kind, p, nm, 0⟩ (restF bl df kind acc L i)) := by
 by_cases hk : kind = 50
 ·exact rest_def ht hwB i hi w hG hK hac hk (HDf i hi) hdf (hdl i · · hi)
 ·exact rest_blk ht hwB i hi w hG hK hac hk (HBk i hi)
theorem unit2_any {g : Nat} {w0 : World} {br c : Nat} {A : Option Addr} {L : List PT} (ht : TkS w0 br A L) (hgL : L.length < g) {bl : Par T1} {df : Par (List T1)} (hbl : Good2 bl) (hdf : Good2 df)
 (HBk : ∀ i, i ≤ L.length → ∀ wx, RowAt wx A L → Calls Tryz.prog 50 #[.slice A L.length c, .int .i64 i] wx (ParR wx (bl L i)))
 (HDf : ∀ i, i ≤ L.length → ∀ wx, RowAt wx A L → Calls Tryz.prog 51 #[.slice A L.length c, .int .i64 i, .bool true] wx (ParD wx (df L i)))
 (hdl : ∀ i l j, i ≤ L.length → df L i = .ok (l, j) → l.length ≤ 100000) (i : Nat) (hi : i ≤ L.length) (w : World) (h : PInv w0 w br A c L i) :
 Calls Tryz.prog 20 #[.pointer (some ⟨br, 0, none⟩)] w (TreeR w.heap.size w0 w br A c L (unitG g bl df L i)) := by
 have hbr := h.row.lt
 have H0 := qh h
 have HT := qh ht
 have HBL := qh HBk
 have HDF := qh HDf
 have HDL := qh hdl
 clear HBk HDf hdl
 obtain ⟨res, hs0⟩ : ∃ r, r = unitG g bl df L i := ⟨_, rfl⟩
 rw [← hs0]
 have S := qh (S1.start h hi hs0)
 clear h ht hs0 hi
 go_enter Tryz.func20, Tryz.ntmps20
 unfold unitG at S
 go_wp2_with fail
 (with_reducible refine S.out.now HT.out ?_)
 clear S
 intro k_p p1 p2 q3_p q4_p t_p n_p wx HPp S hg
 have HBt := qh (Blk.new wx 40 #[.int .u8 k_p, .complex .f64 (fl p1) (fl p2), .complex .f64 (fl q3_p) (fl q4_p), .string t_p, .int .i64 n_p])
 have S := qh (S.out.below ((Below.refl _ _).alloc (Nat.le_refl _) (.cells #[.int .u8 k_p, .complex .f64 (fl p1) (fl p2), .complex .f64 (fl q3_p) (fl q4_p), .string t_p, .int .i64 n_p] 40)))
 go_upto_region 2 with fail
 generalize wx.heap.size = bt at *
 generalize wx.alloc (.cells #[.int .u8 k_p, .complex .f64 (fl p1) (fl p2), .complex .f64 (fl q3_p) (fl q4_p), .string t_p, .int .i64 n_p] 40) = wx at *
 have t1 := HBt.out.cell 1
 simp only [List.getElem?_toArray, List.getElem?_cons_zero, List.getElem?_cons_succ] at t1
 have NW := qh (new_0 (B0 := w.heap.size) (w := wx) S.out.pg.2.size 52 52 rfl p1 p2 sNil 0)
 go_wp2_with fail
 ((with_reducible refine NW.out.mono ?_); rintro e wy ⟨b, sv0, xs0, rfl, hb, hk⟩)
 have HK := qh (hk.lower S.out.pg.2.size)
 have S := qh (S.out.below hb)
 have HBt := qh (HBt.out.below hb HBt.out.lt)
 clear hb hk NW t1
 have t0 := HBt.out.cell 0
 have t3 := HBt.out.cell 3
 simp only [List.getElem?_toArray, List.getElem?_cons_zero, List.getElem?_cons_succ] at t0 t3
 go_upto_if 15 with fail
 go_cut [5] (fun v wc => ∃ wd, v = .string wd ∧ Hid (SameW wy wc ∧ isWd6 sDefn (tk L i) = decide (wd = sDefn) ∧ isWd6 sImpl (tk L i) = decide (wd = sImpl)))
 case first =>
  by_cases hk : k_p = 6
  ·have k6 : ((k_p : Int) != 6) = false := by rw [bne_eq_false_iff_eq]; omega
   have HK6 := qh hk
   clear hk
   go_wp2_with fail
   go_meet
   exact ⟨t_p, rfl, qh ⟨rfl, by rw [HPp.out]; unfold isWd6 tkOf; simp [HK6.out], by rw [HPp.out]; unfold isWd6 tkOf; simp [HK6.out]⟩⟩
  ·have k6 : ((k_p : Int) != 6) = true := by rw [bne_iff_ne]; omega
   have HK6 := qh hk
   clear hk
   go_wp2_with fail
   go_meet
   exact ⟨sNil, rfl, qh ⟨rfl, by rw [HPp.out]; unfold isWd6 tkOf; simp [HK6.out], by rw [HPp.out]; unfold isWd6 tkOf; simp [HK6.out]⟩⟩
 case rest =>
  obtain ⟨wd, rfl, hcw⟩ := hcut
  obtain rfl : wy = _ := hcw.out.1
  have HW1 := qh hcw.out.2
  clear hcw t0 t3 HBt
  have S := qh (show S1 w0 w wy br c A L res (tokP (isWd6 sDefn) (fun _ => tailF g bl df 50 (p1, p2)) (tokP (isWd6 sImpl) (fun _ => tailF g bl df 51 (p1, p2)) (tailF g bl df 52 (p1, p2)))) i from S.out)
  go_upto_block 0 with fail
  go_cut [17, 19] (fun v17 v19 wc => Hid (∃ kind sv xs J, S1 w0 w wc br c A L res (tailN g bl df kind (p1, p2)) J ∧ KG w.heap.size w.heap.size wc b ⟨kind, (p1, p2), sNil, 0⟩ sv [] xs))
  case first =>
   have hs1 := (toL_eq2 wd sDefn).trans (HW1.out.1).symm
   have hs2 := (toL_eq2 wd sImpl).trans (HW1.out.2).symm
   cases hD : isWd6 sDefn (tk L i) with
   | true =>
     rw [hD] at hs1
     clear hs2
     obtain ⟨c0, c0f, _, _⟩ := KG.f02 HK.out
     have hbk := HK.out.kn.blk.lt
     have hbn : ¬ b = br := by have := HK.out.kn.low; omega
     have HK2 := qh (KG.cell_set HK.out 0 (.int .u8 50) ⟨50, (p1, p2), sNil, 0⟩ rfl)
     have S2 := qh (S.out.far H0.out HK.out.kn.low 0 (.int .u8 50))
     obtain ⟨m1, f1, hlt⟩ := S2.out.pg.1.at_
     have x0 : (0 : Int) ≤ (i : Int) := by omega
     have hix : i ≤ 900000 := by have := S.out.le; have := HT.out.toks.len; omega
     have S3 := qh (S2.out.inc hD (De.isWd6_no _))
     have HK := qh (HK2.out.grown (Lx.grown_set _ br 1 (.int .i64 (i + 1 : Nat))) hbr (Nat.le_refl _))
     clear S S2 HK2
     have S := qh (S3.out.of (q := needF sModule (tailN g bl df 50 (p1, p2))) rfl)
     clear S3
     rw [show ((i + 1 : Nat) : Int) = (i : Int) + 1 from rfl] at S HK
     go_wp2_with fail
     (with_reducible refine S.out.need HT.out ?_ ?_)
     ·intro k w1 h hg; go_wp2; exact ⟨rfl, S1.errT h.out hg.out _⟩
     clear S
     intro wx S hg
     have HK := qh (HK.out.grown hg.out hbr (Nat.le_refl _))
     go_wp2_with fail
     go_meet
     exact qh ⟨50, _, _, _, S.out, HK.out⟩
   | false =>
     rw [hD] at hs1
     have S := qh (S.out.of (q := tokP (isWd6 sImpl) (fun _ => tailF g bl df 51 (p1, p2)) (tailF g bl df 52 (p1, p2))) (tok_n hD))
     cases hI : isWd6 sImpl (tk L i) with
     | true =>
       rw [hI] at hs2
       obtain ⟨c0, c0f, _, _⟩ := KG.f02 HK.out
       have hbk := HK.out.kn.blk.lt
       have hbn : ¬ b = br := by have := HK.out.kn.low; omega
       have HK2 := qh (KG.cell_set HK.out 0 (.int .u8 51) ⟨51, (p1, p2), sNil, 0⟩ rfl)
       have S2 := qh (S.out.far H0.out HK.out.kn.low 0 (.int .u8 51))
       obtain ⟨m1, f1, hlt⟩ := S2.out.pg.1.at_
       have x0 : (0 : Int) ≤ (i : Int) := by omega
       have hix : i ≤ 900000 := by have := S.out.le; have := HT.out.toks.len; omega
       have S3 := qh (S2.out.inc hI (De.isWd6_no _))
       have HK := qh (HK2.out.grown (Lx.grown_set _ br 1 (.int .i64 (i + 1 : Nat))) hbr (Nat.le_refl _))
       clear S S2 HK2
       have S := qh (S3.out.of (q := needF sModule (tailN g bl df 51 (p1, p2))) rfl)
       clear S3
       rw [show ((i + 1 : Nat) : Int) = (i : Int) + 1 from rfl] at S HK
       go_wp2_with fail
       (with_reducible refine S.out.need HT.out ?_ ?_)
       ·intro k w1 h hg; go_wp2; exact ⟨rfl, S1.errT h.out hg.out _⟩
       clear S
       intro wx S hg
       have HK := qh (HK.out.grown hg.out hbr (Nat.le_refl _))
       go_wp2_with fail
       go_meet
       exact qh ⟨51, _, _, _, S.out, HK.out⟩
     | false =>
       rw [hI] at hs2
       have S := qh (S.out.of (q := needF sModule (tailN g bl df 52 (p1, p2))) (tok_n hI))
       go_wp2_with fail
       (with_reducible refine S.out.need HT.out ?_ ?_)
       ·intro k w1 h hg; go_wp2; exact ⟨rfl, S1.errT h.out hg.out _⟩
       clear S
       intro wx S hg
       have HK := qh (HK.out.grown hg.out hbr (Nat.le_refl _))
       go_wp2_with fail
       go_meet
       exact qh ⟨52, _, _, _, S.out, HK.out⟩
  case rest =>
   obtain ⟨kind, sv, xs, J, hc1, hc2⟩ := hcut.out
   clear S HK
   clear hcut
   have S := qh hc1
   have HK := qh hc2
   clear hc1 hc2
   have S := qh (S.out.of (q := tokP (isThe sNil) (fun n => needF sSem (bindP (importsR g g []) fun l => bindP (restF bl df kind l) fun l2 => tokP (isThe n.1.text) (fun _ => needF sDot (retP (mk kind (p1, p2) n.1.text 0 l2))) failP)) failP) (by unfold tailN; rw [isThe_nil]))
   go_wp2_with fail
   (with_reducible refine S.out.name HT.out ?_ ?_)
   ·intro k w1 h hg; go_wp2; exact ⟨rfl, S1.errT h.out hg.out _⟩
   clear S
   intro k_n n1 n2 q3_n q4_n t_n n_n wx S hg
   have HK := qh (HK.out.grown hg.out hbr (Nat.le_refl _))
   have S := qh (show S1 w0 w wx br c A L res (needF sSem (bindP (importsR g g []) fun l => bindP (restF bl df kind l) fun l2 => tokP (isThe t_n) (fun _ => needF sDot (retP (mk kind (p1, p2) t_n 0 l2))) failP)) (J + 1) from S.out)
   obtain ⟨_, _, z2, z2f⟩ := KG.f02 HK.out
   have hbk := HK.out.kn.blk.lt
   have HK2 := qh (KG.cell_set HK.out 2 (.string t_n) ⟨kind, (p1, p2), t_n, 0⟩ rfl)
   have S := qh (S.out.far H0.out HK.out.kn.low 2 (.string t_n))
   have HK := HK2
   clear HK2
   go_wp2_with fail
   (with_reducible refine S.out.need HT.out ?_ ?_)
   ·intro k w1 h hg; go_wp2; exact ⟨rfl, S1.errT h.out hg.out _⟩
   clear S z2 z2f hbk
   intro wx S hg
   have HK := qh (HK.out.grown hg.out hbr (Nat.le_refl _))
   go_wp2_with fail
   (with_reducible refine S.out.imp (imports_any HT.out hgL H0.out _ S.out.le _ S.out.pg HK.out (Nat.zero_le _)) (g2_imports _ _) ?_ ?_)
   ·intro k w1 h hg; go_wp2; exact ⟨rfl, S1.errT h.out hg.out _⟩
   have hsl := S.out.le
   clear S HK
   intro l sv2 xs2 j5 wx HEl hj5 S HK
   have hll := imports_len2 hsl HEl.out
   have hlen := HT.out.toks.len
   go_wp2_with fail
   (with_reducible refine S.out.rest (rest_any2 hdf HT.out H0.out _ S.out.le _ S.out.pg HK.out (by omega) HBL.out HDF.out HDL.out) (g2_rest hbl hdf) ?_ ?_)
   ·intro k w1 h hg; go_wp2; exact ⟨rfl, S1.errT h.out hg.out _⟩
   clear S HK
   intro l2 j7 wx hj7 S HBk2 Hb
   obtain ⟨sv9, hb9⟩ := HBk2.out
   have z2 : wx.cell? ⟨b, 2, none⟩ = some (.string t_n) := hb9.cell 2
   have hbk := hb9.lt
   clear hb9
   go_wp2_with fail
   (with_reducible refine S.out.name HT.out ?_ ?_)
   ·intro k w1 h hg; go_wp2; exact ⟨rfl, S1.errT h.out hg.out _⟩
   clear S z2 hbk HBk2
   intro k_m m1 m2 q3_m q4_m t_m n_m wx S hg
   have Hb := qh (repS_grown Hb.out hg.out hbr)
   go_wp2_with fail
   (with_reducible refine S.out.need HT.out ?_ ?_)
   ·intro k w1 h hg; go_wp2; exact ⟨rfl, S1.errT h.out hg.out _⟩
   clear S
   intro wx S hg
   have Hb := qh (repS_grown Hb.out hg.out hbr)
   go_wp2
   go_ret
   exact S.out.doneT Hb.out
end Go.Proofs.YtkemhmfdooghkaaGreatDoor.Un
