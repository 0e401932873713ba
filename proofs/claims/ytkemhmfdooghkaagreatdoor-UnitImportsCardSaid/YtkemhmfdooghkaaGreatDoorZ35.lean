/- A part of the proof: U7. -/
import Derived.Test.YtkemhmfdooghkaaGreatDoorZ1
import Derived.Test.YtkemhmfdooghkaaGreatDoorZ34
import Derived.Deep.Cut
import Derived.Deep.CutRange
import Derived.Deep.AppendLies
import Derived.Deep.LoopGhost
set_option linter.unusedSimpArgs false
set_option linter.unusedVariables false

section
namespace Go.Proofs.YtkemhmfdooghkaaGreatDoor.St
open Go.RowKit
open Tr (Nd Fo RepS RepN Rep cellsN)
open Lx (Tk noTk Blk run_store_complexL TokAt)
open Fl
open Ex
attribute [local go_sem] run_store_complexL run_field1 run_field3
theorem rep_f1 {S : Nat → Prop} {w : World} {x : T1} {v : Value} (h : RepS S w (.node x.1 x.2 .no) [v]) : RepS S w (forest [x]) [v] := h
theorem rep_f2 {S : Nat → Prop} {w : World} {x y : T1} {v u : Value} (h : RepS S w (.node x.1 x.2 .no) [v]) (h2 : RepS S w (.node y.1 y.2 .no) [u]) : RepS S w (forest [x, y]) [v, u] := repS_cons h h2
theorem new_in {B0 B : Nat} {w : World} {b : Nat} {d : Nd} {sv : Value} {acc : List T1} {xs : List Value} (h : KG B0 B w b d sv acc xs) (hB : B0 ≤ B) (kI : Int) (kind : Nat) (hkI : kI = (kind : Int)) (p1 p2 : Nat) (name : ByteArray) (vs : List Value) (l : List T1) (m : Nat) (hm : w.heap.size = m) (n : Nat) (hn : vs.length = n) (hv : n ≤ 1000) (hk : RepS (fun y => B0 ≤ y ∧ y ≠ b ∧ sv.ownBlock ≠ some y) w (forest l) vs) :
 Calls Tryz.prog 33 #[.int .u8 kI, .complex .f64 (fl p1) (fl p2), .string name, .int .i64 0, .slice (some ⟨m, 0, none⟩) n n] (w.alloc (.cells vs.toArray 31)) fun e w' =>
  ∃ b', e = .returned (.pointer (some ⟨b', 0, none⟩)) ∧ Below w.heap.size w w' ∧ RepS (fun y => B0 ≤ y ∧ y ≠ b ∧ sv.ownBlock ≠ some y) w' (.node (mk kind (p1, p2) name 0 l).1 (mk kind (p1, p2) name 0 l).2 .no) [.pointer (some ⟨b', 0, none⟩)] := by
 subst hm hn hkI
 have hb : Below w.heap.size w (w.alloc (.cells vs.toArray 31)) := (Below.refl _ _).alloc (Nat.le_refl _) _
 refine (Tr.new_any (fun y => B0 ≤ y ∧ y ≠ b ∧ sv.ownBlock ≠ some y) kind p1 p2 name 0 (some ⟨w.heap.size, 0, none⟩) vs.length vs (forest l) (w.alloc (.cells vs.toArray 31)) (by omega) (by have := reads_lit w vs.toArray 31; simpa using this) (repN_of (hk.below hb))).mono ?_
 rintro e w' ⟨u, rfl, hb2, hr⟩
 obtain ⟨b', _, _, _, rfl, _⟩ := hr.rep.one
 refine ⟨b', rfl, hb.trans (hb2.mono hb.size), hr.more fun x hx _ => ?_⟩
 rcases hx with hx | hx
 ·exact hx
 ·have h1 := h.kn.blk.lt
  have h2 := h.kn.low
  have h3 := hb.size
  exact ⟨by omega, by omega, fun e => by have := (h.kn.own.lt _ e).2; omega⟩
theorem arms_step {g : Nat} {bd : Par T1} {Q : List T1 → Par T1} {f : Nat} {acc : List T1} {L : List PT} {j : Nat} : bindP (armsF g bd (f + 1) acc) Q L j =
 (if armOut (tk L j) = true then tokP (tT sBar) (fun _ => bindP (armsF g bd f acc) Q) (Q acc)
 else bindP (labelsF g) fun l => needF sCol (bindP bd fun b => tokP (tT sBar) (fun _ => bindP (armsF g bd f (acc ++ [mk 28 (tk L j).2.1 sNil 0 [l, b]])) Q) (Q (acc ++ [mk 28 (tk L j).2.1 sNil 0 [l, b]])))) L j := by
 have bind_at : ∀ (p p' : Par (List T1)), p L j = p' L j → bindP p Q L j = bindP p' Q L j := fun p p' h => by unfold bindP; rw [h]
 by_cases h : armOut (tk L j) = true
 ·rw [bind_at _ (tokP (tT sBar) (fun _ => armsF g bd f acc) (retP acc)) (by simp only [armsF, posP, h, if_true]), tok_bind, if_pos h]
  rfl
 ·rw [bind_at _ (bindP (labelsF g) fun l => needF sCol (bindP bd fun b => tokP (tT sBar) (fun _ => armsF g bd f (acc ++ [mk 28 (tk L j).2.1 sNil 0 [l, b]])) (retP (acc ++ [mk 28 (tk L j).2.1 sNil 0 [l, b]])))) (by simp only [armsF, posP, h, if_false, Bool.false_eq_true]), if_neg h]
  simp only [bind_assoc, need_bind, tok_bind, ret_bind]
set_option maxRecDepth 100000 in set_option maxHeartbeats 6400000 in
theorem cases_any {g : Nat} {w0 : World} {br c : Nat} {A : Option Addr} {L : List PT} (ht : TkS w0 br A L) (hg : L.length < g) {bd : Par T1} (hb2 : Good2 bd) {lo : Nat} (hB : SnOK 97 (fun j => bd L j) lo w0 br A c L) (i : Nat) (hlo : lo ≤ i) (hi : i ≤ L.length) (p1 p2 : Nat) (w : World) (h : PInv w0 w br A c L i) :
 Calls Tryz.prog 109 #[.pointer (some ⟨br, 0, none⟩), .complex .f64 (fl p1) (fl p2)] w (TreeR w.heap.size w0 w br A c L (caseS g bd (p1, p2) L i)) := by
 have MN := qh (fun j => g2_max (g2_endedF hb2) L j)
 have hbr0 := h.row.lt
 have hlen := ht.toks.len
 have H0 := qh h
 have H := qh (PG.start h)
 have HT := qh ht
 have ME := qh (fun j => g2_max (g2_expr (g := g)) L j)
 have MD := qh (fun j => g2_max (g2_design (g := g)) L j)
 have ML := qh (fun j => g2_max (g2_labels (g := g)) L j)
 have HE := qh (fun j hj w h => expr_s (c := c) ht hg j hj w h)
 have HD := qh (fun j hj w h => of_D (c := c) ht hg j hj w h)
 have HL := qh (fun j hj w h => of_L (c := c) ht hg j hj w h)
 have MB := qh (fun j => g2_max hb2 L j)
 have HB := qh hB
 have HN := qh (ended_any (c := c) ht hg hb2 hB)
 obtain ⟨res, hs0⟩ : ∃ r, r = caseS g bd (p1, p2) L i := ⟨_, rfl⟩
 rw [← hs0]
 have HS := qh hs0
 clear h ht hb2 hB hs0
 go_enter Tryz.func109, Tryz.ntmps109
 have d1 : Calls _ _ _ _ (TreeR _ _ _ _ _ _ _ (exprF g L (i))) := HE.out (i) (by omega) _ H.out.1
 cases hx : exprF g L (i) with
 | error k9 =>
   rw [hx] at d1
   have D1 := qh d1
   have HS := qh (HS.out.trans (bind_err hx))
   clear d1 hx
   go_wp2_with fail
   ((with_reducible refine D1.out.mono ?_); rintro e w1 ⟨rfl, hb⟩)
   have H3 := qh (grown_trans H.out.2 hb)
   clear hb
   go_wp2
   refine ⟨rfl, ?_⟩
   rw [HS.out]
   exact ⟨rfl, H3.out⟩
 | ok r =>
   obtain ⟨x0, j0⟩ := r
   rw [hx] at d1
   have D1 := qh d1
   have HS := qh (HS.out.trans (bind_ok hx))
   have hj0 := ME.out (i)
   rw [hx] at hj0
   simp only [posE] at hj0
   clear d1 hx
   go_wp2_with fail
   ((with_reducible refine D1.out.mono ?_); rintro e wx ⟨bx0, rfl, hp, hgr, hr⟩)
   have HX0 := qh (hr.more (S' := fun y => w.heap.size ≤ y) fun y hy _ => Nat.le_trans H.out.2.size hy)
   have H := qh (H.out.trans ⟨hp, hgr⟩)
   clear hp hgr hr D1
   have NW := qh (new_1 (B0 := w.heap.size) (w := wx) H.out.2.size 63 63 rfl p1 p2 sNil 0 HX0.out wx.heap.size rfl)
   obtain ⟨i0, hi0, hz0, hz1, hz2⟩ := info_parts infoN
   go_wp2_with fail
   ((with_reducible refine NW.out.mono ?_); rintro e wz ⟨b, sv0, xs0, rfl, hb, hk⟩)
   have HK := qh (hk.lower H.out.2.size)
   have H := qh (H.out.below hb)
   clear hb hk NW HX0
   cases hT : isT L (j0) sOf with
   | false =>
     have D1 := qh (need_no HT.out.toks (i := j0) (by omega) sOf _ H.out.1 hT)
     have HS := qh (HS.out.trans (need_n hT))
     go_wp2_with fail
     ((with_reducible refine D1.out.mono ?_); rintro e w1 ⟨rfl, hb⟩)
     have H3 := qh (grown_trans H.out.2 hb)
     clear hb
     go_wp2
     refine ⟨rfl, ?_⟩
     rw [HS.out]
     exact ⟨rfl, H3.out⟩
   | true =>
     have hjn := isT_lt hT
     have D1 := qh (need_ok HT.out.toks (i := j0) (by omega) sOf _ H.out.1 hT)
     have HS := qh (HS.out.trans (need_y hT))
     clear hT
     go_wp2_with fail
     ((with_reducible refine (D1.out).mono ?_); rintro e wx ⟨rfl, hb⟩)
     have H := qh (H.out.trans hb)
     have HK := qh (HK.out.grown hb.2 hbr0 (Nat.le_refl _))
     clear hb
     clear D1
     go_wp2_with fail
     go_loopg [] (L.length + 1 - (j0 + 1)) (fun gm wr => Hid (LK w0 w br A c L b ⟨63, (p1, p2), sNil, 0⟩ (fun acc j => gm = L.length + 1 - j ∧ ∃ f, lo ≤ j ∧ L.length < j + f ∧ res = bindP (armsF g bd f acc) (fun l => tokP (tT sElse) (fun t => bindP bd fun b => endS 63 (p1, p2) sNil (l ++ [mk 30 t.2.1 sNil 0 [b]])) (endS 63 (p1, p2) sNil l)) L j) wr))
     case atStart => exact qh ⟨_, _, _, _, by omega, by simp only [List.length_cons, List.length_nil]; omega, H.out, HK.out, rfl, g, by omega, by omega, HS.out⟩
     case round =>
      clear H HK HS
      obtain ⟨acc, sv, xs, j, hj, hac, hG_, hK_, hgm, f, hlj, hf, hS_⟩ := hrel.out
      obtain ⟨f, rfl⟩ : ∃ f', f = f' + 1 := ⟨f - 1, by omega⟩
      have H := qh hG_
      have HO := qh hG_
      have HK := qh hK_
      have HS := qh (show res = _ from hS_.trans arms_step)
      have hxl : xs.length ≤ 1000000 := by have := hK_.len; omega
      obtain ⟨wo, rfl⟩ : ∃ wo : World, wo = wr := ⟨_, rfl⟩
      clear hrel hG_ hK_ hS_
      have n1 := now_any HT.out.toks (i := j) (by omega) _ H.out.1
      obtain ⟨k_, r1, r2, q3_, q4_, t_, n_, e1, e2⟩ := val_form (tk L (j))
      have HP2 := qh (show (tk L (j)).2.1 = (r1, r2) by rw [e1])
      rw [e2] at n1
      have N1 := qh n1
      clear n1 e1 e2
      go_wp2_with fail
      ((with_reducible refine (N1.out).mono ?_); rintro e wx ⟨rfl, hb⟩)
      have H := qh (H.out.below hb)
      have HK := qh (HK.out.below hb)
      clear hb
      clear N1
      go_upto_region 4 with fail
      go_cut [31] from 16 to 53 (fun s31 wc => s31 = .bool (!armOut (tk L j)) ∧ Hid (PG w0 w wc br A c L j ∧ KG w.heap.size w.heap.size wc b ⟨63, (p1, p2), sNil, 0⟩ sv acc xs))
      case first =>
       cases hA : isT L j sBar with
       | true =>
         have HO9 : armOut (tk L j) = true := by unfold armOut; rw [show tT sBar (tk L j) = true from hA]; simp
         have is1 := is_any HT.out.toks (i := j) (by omega) sBar _ H.out.1
         rw [hA] at is1
         have IS := qh is1
         clear is1
         go_wp2_with fail
         ((with_reducible refine (IS.out).mono ?_); rintro e wx ⟨rfl, hb⟩)
         have H := qh (H.out.below hb)
         have HK := qh (HK.out.below hb)
         clear hb
         clear IS
         go_wp2_with fail
         go_meet
         exact ⟨by rw [show armOut (tk L j) = true from HO9]; rfl, qh ⟨H.out, HK.out⟩⟩
       | false =>
         have is1 := is_any HT.out.toks (i := j) (by omega) sBar _ H.out.1
         rw [hA] at is1
         have IS := qh is1
         clear is1
         go_wp2_with fail
         ((with_reducible refine (IS.out).mono ?_); rintro e wx ⟨rfl, hb⟩)
         have H := qh (H.out.below hb)
         have HK := qh (HK.out.below hb)
         clear hb
         clear IS
         cases hB_ : isT L j sElse with
         | true =>
           have HO9 : armOut (tk L j) = true := by unfold armOut; rw [show tT sElse (tk L j) = true from hB_]; simp
           have is1 := is_any HT.out.toks (i := j) (by omega) sElse _ H.out.1
           rw [hB_] at is1
           have IS := qh is1
           clear is1
           go_wp2_with fail
           ((with_reducible refine (IS.out).mono ?_); rintro e wx ⟨rfl, hb⟩)
           have H := qh (H.out.below hb)
           have HK := qh (HK.out.below hb)
           clear hb
           clear IS
           go_wp2_with fail
           go_meet
           exact ⟨by rw [show armOut (tk L j) = true from HO9]; rfl, qh ⟨H.out, HK.out⟩⟩
         | false =>
           have is1 := is_any HT.out.toks (i := j) (by omega) sElse _ H.out.1
           rw [hB_] at is1
           have IS := qh is1
           clear is1
           go_wp2_with fail
           ((with_reducible refine (IS.out).mono ?_); rintro e wx ⟨rfl, hb⟩)
           have H := qh (H.out.below hb)
           have HK := qh (HK.out.below hb)
           clear hb
           clear IS
           cases hC : isT L j sEnd with
           | true =>
             have HO9 : armOut (tk L j) = true := by unfold armOut; rw [show tT sEnd (tk L j) = true from hC]; simp
             have is1 := is_any HT.out.toks (i := j) (by omega) sEnd _ H.out.1
             rw [hC] at is1
             have IS := qh is1
             clear is1
             go_wp2_with fail
             ((with_reducible refine (IS.out).mono ?_); rintro e wx ⟨rfl, hb⟩)
             have H := qh (H.out.below hb)
             have HK := qh (HK.out.below hb)
             clear hb
             clear IS
             go_wp2_with fail
             go_meet
             exact ⟨by rw [show armOut (tk L j) = true from HO9]; rfl, qh ⟨H.out, HK.out⟩⟩
           | false =>
             have HO9 : armOut (tk L j) = false := by unfold armOut; rw [show tT sBar (tk L j) = false from hA, show tT sElse (tk L j) = false from hB_, show tT sEnd (tk L j) = false from hC]; rfl
             have is1 := is_any HT.out.toks (i := j) (by omega) sEnd _ H.out.1
             rw [hC] at is1
             have IS := qh is1
             clear is1
             go_wp2_with fail
             ((with_reducible refine (IS.out).mono ?_); rintro e wx ⟨rfl, hb⟩)
             have H := qh (H.out.below hb)
             have HK := qh (HK.out.below hb)
             clear hb
             clear IS
             go_wp2_with fail
             go_meet
             exact ⟨by rw [show armOut (tk L j) = false from HO9]; rfl, qh ⟨H.out, HK.out⟩⟩
      case rest =>
       obtain ⟨rfl, hc9⟩ := hcut
       clear H HK
       have H := qh hc9.out.1
       have HK := qh hc9.out.2
       clear hc9
       go_upto_if 31 with fail
       go_cut [] from 16 to 53 (fun wc => Hid (∃ (acc' : List T1) (J : Nat), j ≤ J ∧ J ≤ L.length ∧ acc'.length ≤ 2 * j + 5 ∧ PG w0 w wc br A c L J ∧ (∃ svc xsc, KG w.heap.size w.heap.size wc b ⟨63, (p1, p2), sNil, 0⟩ svc acc' xsc) ∧ res = tokP (tT sBar) (fun _ => bindP (armsF g bd f acc') (fun l => tokP (tT sElse) (fun t => bindP bd fun b => endS 63 (p1, p2) sNil (l ++ [mk 30 t.2.1 sNil 0 [b]])) (endS 63 (p1, p2) sNil l))) ((fun l => tokP (tT sElse) (fun t => bindP bd fun b => endS 63 (p1, p2) sNil (l ++ [mk 30 t.2.1 sNil 0 [b]])) (endS 63 (p1, p2) sNil l)) acc') L J))
       case first =>
        cases hO : armOut (tk L j) with
        | true =>
          have HS := qh (HS.out.trans (by rw [if_pos hO]))
          simp only [Bool.not_true]
          go_wp2_with fail
          go_meet
          exact qh ⟨acc, j, by omega, by omega, by omega, H.out, ⟨_, _, HK.out⟩, HS.out⟩
        | false =>
          simp only [Bool.not_false]
          have HS := qh (show res = bindP (labelsF g) (fun l => needF sCol (bindP bd fun b => tokP (tT sBar) (fun _ => bindP (armsF g bd f (acc ++ [mk 28 (r1, r2) sNil 0 [l, b]])) (fun l => tokP (tT sElse) (fun t => bindP bd fun b => endS 63 (p1, p2) sNil (l ++ [mk 30 t.2.1 sNil 0 [b]])) (endS 63 (p1, p2) sNil l))) ((fun l => tokP (tT sElse) (fun t => bindP bd fun b => endS 63 (p1, p2) sNil (l ++ [mk 30 t.2.1 sNil 0 [b]])) (endS 63 (p1, p2) sNil l)) (acc ++ [mk 28 (r1, r2) sNil 0 [l, b]])))) L j from by rw [HS.out, if_neg (by rw [hO]; simp), HP2.out])
          have d1 : Calls _ _ _ _ (TreeR _ _ _ _ _ _ _ (labelsF g L (j))) := HL.out (j) (by omega) _ H.out.1
          cases hx : labelsF g L (j) with
          | error k9 =>
            rw [hx] at d1
            have D1 := qh d1
            have HS := qh (HS.out.trans (bind_err hx))
            clear d1 hx
            go_wp2_with fail
            ((with_reducible refine D1.out.mono ?_); rintro e w1 ⟨rfl, hb⟩)
            have H3 := qh (grown_trans H.out.2 hb)
            clear hb
            go_wp2
            refine ⟨rfl, ?_⟩
            rw [HS.out]
            exact ⟨rfl, H3.out⟩
          | ok r =>
            obtain ⟨x, j1⟩ := r
            rw [hx] at d1
            have D1 := qh d1
            have HS := qh (HS.out.trans (bind_ok hx))
            have hj1 := ML.out (j)
            rw [hx] at hj1
            simp only [posE] at hj1
            clear d1 hx
            go_wp2_with fail
            ((with_reducible refine D1.out.mono ?_); rintro e wx ⟨bx, rfl, hp, hgr, hr⟩)
            have HX := qh (HK.out.new hr (Nat.le_refl _))
            have HK := qh (HK.out.grown hgr hbr0 (Nat.le_refl _))
            have H := qh (H.out.trans ⟨hp, hgr⟩)
            clear hp hgr hr D1
            cases hT : isT L (j1) sCol with
            | false =>
              have D1 := qh (need_no HT.out.toks (i := j1) (by omega) sCol _ H.out.1 hT)
              have HS := qh (HS.out.trans (need_n hT))
              go_wp2_with fail
              ((with_reducible refine D1.out.mono ?_); rintro e w1 ⟨rfl, hb⟩)
              have H3 := qh (grown_trans H.out.2 hb)
              clear hb
              go_wp2
              refine ⟨rfl, ?_⟩
              rw [HS.out]
              exact ⟨rfl, H3.out⟩
            | true =>
              have hjn := isT_lt hT
              have D1 := qh (need_ok HT.out.toks (i := j1) (by omega) sCol _ H.out.1 hT)
              have HS := qh (HS.out.trans (need_y hT))
              clear hT
              go_wp2_with fail
              ((with_reducible refine (D1.out).mono ?_); rintro e wx ⟨rfl, hb⟩)
              have H := qh (H.out.trans hb)
              have HK := qh (HK.out.grown hb.2 hbr0 (Nat.le_refl _))
              have HX := qh (rep_keep HX.out hb.2 hbr0)
              clear hb
              clear D1
              have d1 : Calls _ _ _ _ (TreeR _ _ _ _ _ _ _ (bd L (j1 + 1))) := HB.out (j1 + 1) (by omega) (by omega) wx.drew (H.out.below ((Below.refl _ _).drew)).1
              cases hx : bd L (j1 + 1) with
              | error k9 =>
                rw [hx] at d1
                have D1 := qh (d1.mono (R' := fun e w' => (∃ p, e = .returned (.pointer p) ∧ Hid False) ∨ (e = bad k9 ∧ wx.drew.grownBy w' (some br))) fun e w' h => .inr h)
                have HS := qh (HS.out.trans (bind_err hx))
                have HD_ := qh (H.out.below ((Below.refl _ _).drew))
                obtain ⟨m4, m4f, hbl4⟩ := HK.out.kn.facts
                clear d1 hx
                go_wp2
                go_region_law (first
                 | (go_simp; go_at_call 97; (with_reducible refine D1.out.mono ?_); rintro e x5 (⟨p_, rfl, hF⟩ | ⟨rfl, hb⟩); (case' inr => (refine ⟨rfl, ?_⟩; rw [HS.out]; exact ⟨rfl, grown_trans HD_.out.2 hb⟩)); have t4 : x5.cell? ⟨b, 4, none⟩ = some sv := hF.out.elim; have t4f : x5.frozen? ⟨b, 4, none⟩ = false := hF.out.elim; have hbx : b < x5.heap.size := hF.out.elim)
                 | (go_simp; go_at_call 33; refine Calls.mono (R := fun e w' => ∃ p, e = .returned (.pointer p)) hF.out.elim ?_; rintro e x6 ⟨p2_, rfl⟩; have t4 : x6.cell? ⟨b, 4, none⟩ = some sv := hF.out.elim; have t4f : x6.frozen? ⟨b, 4, none⟩ = false := hF.out.elim; have hbx : b < x6.heap.size := hF.out.elim)
                 | (refine step_append_lies _ (by rfl) _ _ _ (by rfl) w.heap.size 31 i0 _ 1 8 Tryz.underlying36 hi0 hz0 hz1 hz2 rfl (by omega) sv xs.length xs hF.out.elim hF.out.elim ⟨0, 0, none⟩ 1 1 [] hF.out.elim hF.out.elim hF.out.elim hF.out.elim (by omega) hF.out.elim hF.out.elim hF.out.elim 0 hF.out.elim ?_; intro g' cap w5 hown1 hgrow hor hlt5; have s4 : w5.cell? ⟨b, 4, none⟩ = some sv := hF.out.elim; have s4f : w5.frozen? ⟨b, 4, none⟩ = false := hF.out.elim; have hb5 : b < w5.heap.size := hF.out.elim; clear hown1 hgrow hor hlt5))
                all_goals exact hF.out.elim
              | ok r =>
                obtain ⟨y, j4⟩ := r
                rw [hx] at d1
                have D1 := qh d1
                have HS := qh (HS.out.trans (bind_ok hx))
                have hj4 := MB.out (j1 + 1)
                rw [hx] at hj4
                simp only [posE] at hj4
                clear d1 hx
                have HD_ := qh (H.out.below ((Below.refl _ _).drew))
                have HKD := qh (HK.out.below ((Below.refl _ _).drew))
                have HFD := qh (HX.out.below ((Below.refl _ _).drew))
                obtain ⟨m4, m4f, hbl4⟩ := HK.out.kn.facts
                go_wp2
                go_region_law (first
                 | (go_simp; go_at_call 97; (with_reducible refine D1.out.mono ?_); rintro e x5 ⟨by_, rfl, hp, hgr, hr⟩; have HKX := qh (HKD.out.grown hgr hbr0 (Nat.le_refl _)); have HY := qh (HKD.out.new hr (Nat.le_refl _)); have HX5 := qh (HD_.out.trans ⟨hp, hgr⟩); have HF1 := qh (rep_keep HFD.out hgr hbr0); clear hp hgr hr; obtain ⟨t4, t4f, hbx⟩ := HKX.out.kn.facts)
                 | (go_simp; go_at_call 33; (with_reducible refine (new_in HKX.out (Nat.le_refl _) 28 28 rfl r1 r2 sNil [.pointer (some ⟨bx, 0, none⟩), .pointer (some ⟨by_, 0, none⟩)] [x, y] x5.heap.size rfl 2 rfl (by decide) (rep_f2 HF1.out HY.out)).mono ?_); rintro e x6 ⟨bn, rfl, hb, hr⟩; have HKY := qh (HKX.out.below hb); have HN1 := qh hr; have HX6 := qh (HX5.out.below hb); clear hb hr; obtain ⟨t4, t4f, hbx⟩ := HKY.out.kn.facts; have Q := kid_facts (cs := #[.pointer (some ⟨bn, 0, none⟩)]) x6.heap.size rfl (Nat.le_trans HKY.out.kn.low (Nat.le_of_lt hbx)) HKY.out.kn.own hxl (one_ptr (some ⟨bn, 0, none⟩)) (by simp))
                 | (refine step_append_lies _ (by rfl) _ _ _ (by rfl) w.heap.size 31 i0 _ 1 8 Tryz.underlying36 hi0 hz0 hz1 hz2 rfl (by omega) sv xs.length xs (by rfl) Q.out.2.2.2.2 ⟨x6.heap.size, 0, none⟩ 1 1 #[.pointer (some ⟨bn, 0, none⟩)].toList (by rfl) (by rfl) Q.out.1 Q.out.2.1 (by omega) Q.out.2.2.1 (by omega) Q.out.2.2.2.1 (x6.heap.size + 1) (by simp) ?_; intro g' cap w5 hown1 hgrow hor hlt5; obtain ⟨s4, s4f, hb5⟩ := KN.after (HKY.out.kn.below ((Below.refl _ _).alloc (Nat.le_refl _) _)) hgrow; have K2 := qh (KG.steps (l := [(mk 28 (r1, r2) sNil 0 [x, y])]) (HKY.out.below ((Below.refl _ _).alloc (Nat.le_refl _) _)) (HN1.out.below ((Below.refl _ _).alloc (Nat.le_refl _) _)) rfl rfl hown1 hgrow (hor.imp id fun e => e.trans (World.size_alloc _ _).symm)); have H2 := qh (PG.hung HX6.out H0.out _ hgrow (fun k e => (HKY.out.kn.own.lt _ e).1) (u := .slice (some ⟨g', 0, none⟩) (xs.length + 1) cap) HKY.out.kn.low); clear hown1 hgrow hor hlt5))
                all_goals
                 go_wp2_with fail
                 go_meet
                 exact qh ⟨(acc ++ [mk 28 (r1, r2) sNil 0 [x, y]]), j4, by omega, by omega, by rw [List.length_append]; simp only [List.length_cons, List.length_nil]; omega, H2.out, ⟨_, _, K2.out⟩, HS.out⟩
       case rest =>
        obtain ⟨acc', J, hjJ, hJL, hac', h1_, ⟨svc, xsc, h2_⟩, h4_⟩ := hcut.out
        clear H HK HS HO hcut hxl HP2
        have hxl : xsc.length ≤ 1000000 := by have := h2_.len; omega
        have H := qh h1_
        have HK := qh h2_
        have HS := qh h4_
        clear h1_ h2_ h4_
        cases hT : isT L (J) sBar with
        | false =>
          have D1 := qh (eat_no HT.out.toks (i := J) (by omega) sBar _ H.out.1 hT)
          have HS := qh (HS.out.trans (tok_n hT))
          clear hT
          go_wp2_with fail
          ((with_reducible refine (D1.out).mono ?_); rintro e wx ⟨rfl, hb⟩)
          have H := qh (H.out.trans hb)
          have HK := qh (HK.out.grown hb.2 hbr0 (Nat.le_refl _))
          clear hb
          clear D1
          have n1 := now_any HT.out.toks (i := J) (by omega) _ H.out.1
          obtain ⟨k_, s1, s2, q3_, q4_, t_, n_, e1, e2⟩ := val_form (tk L (J))
          have HP3 := qh (show (tk L (J)).2.1 = (s1, s2) by rw [e1])
          rw [e2] at n1
          have N1 := qh n1
          clear n1 e1 e2
          go_wp2_with fail
          ((with_reducible refine (N1.out).mono ?_); rintro e wx ⟨rfl, hb⟩)
          have H := qh (H.out.below hb)
          have HK := qh (HK.out.below hb)
          clear hb
          clear N1
          cases hT : isT L (J) sElse with
          | false =>
            have D1 := qh (eat_no HT.out.toks (i := J) (by omega) sElse _ H.out.1 hT)
            have HS := qh (HS.out.trans (tok_n hT))
            clear hT
            go_wp2_with fail
            ((with_reducible refine (D1.out).mono ?_); rintro e wx ⟨rfl, hb⟩)
            have H := qh (H.out.trans hb)
            have HK := qh (HK.out.grown hb.2 hbr0 (Nat.le_refl _))
            clear hb
            clear D1
            cases hT : isT L (J) sEnd with
            | false =>
              have D1 := qh (need_no HT.out.toks (i := J) (by omega) sEnd _ H.out.1 hT)
              have HS := qh (HS.out.trans (need_n hT))
              go_wp2_with fail
              ((with_reducible refine D1.out.mono ?_); rintro e w1 ⟨rfl, hb⟩)
              have H3 := qh (grown_trans H.out.2 hb)
              clear hb
              go_wp2
              refine ⟨rfl, ?_⟩
              rw [HS.out]
              exact ⟨rfl, H3.out⟩
            | true =>
              have hjn := isT_lt hT
              have D1 := qh (need_ok HT.out.toks (i := J) (by omega) sEnd _ H.out.1 hT)
              have HS := qh (HS.out.trans (need_y hT))
              clear hT
              go_wp2_with fail
              ((with_reducible refine (D1.out).mono ?_); rintro e wx ⟨rfl, hb⟩)
              have H := qh (H.out.trans hb)
              have HK := qh (HK.out.grown hb.2 hbr0 (Nat.le_refl _))
              clear hb
              clear D1
              have HS := qh (HS.out.trans ret_)
              go_wp2
              go_ret
              rw [HS.out]
              exact ⟨b, rfl, H.out.1, H.out.2, HK.out.done (Nat.le_refl _)⟩
          | true =>
            have hjn := isT_lt hT
            have D1 := qh (eat_yes HT.out.toks (i := J) (by omega) sElse _ H.out.1 hT)
            have HS := qh (HS.out.trans (tok_y hT))
            clear hT
            go_wp2_with fail
            ((with_reducible refine (D1.out).mono ?_); rintro e wx ⟨rfl, hb⟩)
            have H := qh (H.out.trans hb)
            have HK := qh (HK.out.grown hb.2 hbr0 (Nat.le_refl _))
            clear hb
            clear D1
            have HS := qh (show res = bindP bd (fun b => endS 63 (p1, p2) sNil (acc' ++ [mk 30 (s1, s2) sNil 0 [b]])) L (J + 1) from by rw [HS.out, ← HP3.out])
            have d1 : Calls _ _ _ _ (TreeR _ _ _ _ _ _ _ (bd L (J + 1))) := HB.out (J + 1) (by omega) (by omega) wx.drew (H.out.below ((Below.refl _ _).drew)).1
            cases hx : bd L (J + 1) with
            | error k9 =>
              rw [hx] at d1
              have D1 := qh (d1.mono (R' := fun e w' => (∃ p, e = .returned (.pointer p) ∧ Hid False) ∨ (e = bad k9 ∧ wx.drew.grownBy w' (some br))) fun e w' h => .inr h)
              have HS := qh (HS.out.trans (bind_err hx))
              have HD_ := qh (H.out.below ((Below.refl _ _).drew))
              obtain ⟨m4, m4f, hbl4⟩ := HK.out.kn.facts
              clear d1 hx
              go_wp2
              go_region_law (first
               | (go_simp; go_at_call 97; (with_reducible refine D1.out.mono ?_); rintro e x5 (⟨p_, rfl, hF⟩ | ⟨rfl, hb⟩); (case' inr => (refine ⟨rfl, ?_⟩; rw [HS.out]; exact ⟨rfl, grown_trans HD_.out.2 hb⟩)); have t4 : x5.cell? ⟨b, 4, none⟩ = some svc := hF.out.elim; have t4f : x5.frozen? ⟨b, 4, none⟩ = false := hF.out.elim; have hbx : b < x5.heap.size := hF.out.elim)
               | (go_simp; go_at_call 33; refine Calls.mono (R := fun e w' => ∃ p, e = .returned (.pointer p)) hF.out.elim ?_; rintro e x6 ⟨p2_, rfl⟩; have t4 : x6.cell? ⟨b, 4, none⟩ = some svc := hF.out.elim; have t4f : x6.frozen? ⟨b, 4, none⟩ = false := hF.out.elim; have hbx : b < x6.heap.size := hF.out.elim)
               | (refine step_append_lies _ (by rfl) _ _ _ (by rfl) w.heap.size 31 i0 _ 1 8 Tryz.underlying36 hi0 hz0 hz1 hz2 rfl (by omega) svc xsc.length xsc hF.out.elim hF.out.elim ⟨0, 0, none⟩ 1 1 [] hF.out.elim hF.out.elim hF.out.elim hF.out.elim (by omega) hF.out.elim hF.out.elim hF.out.elim 0 hF.out.elim ?_; intro g' cap w5 hown1 hgrow hor hlt5; have s4 : w5.cell? ⟨b, 4, none⟩ = some svc := hF.out.elim; have s4f : w5.frozen? ⟨b, 4, none⟩ = false := hF.out.elim; have hb5 : b < w5.heap.size := hF.out.elim; clear hown1 hgrow hor hlt5))
              all_goals exact hF.out.elim
            | ok r =>
              obtain ⟨y8, j8⟩ := r
              rw [hx] at d1
              have D1 := qh d1
              have HS := qh (HS.out.trans (bind_ok hx))
              have hj8 := MB.out (J + 1)
              rw [hx] at hj8
              simp only [posE] at hj8
              clear d1 hx
              have HD_ := qh (H.out.below ((Below.refl _ _).drew))
              have HKD := qh (HK.out.below ((Below.refl _ _).drew))
              obtain ⟨m4, m4f, hbl4⟩ := HK.out.kn.facts
              go_upto_region 11 with fail
              go_cut [] from 59 to 72 (fun wc => Hid (PG w0 w wc br A c L j8 ∧ ∃ svc xsc, KG w.heap.size w.heap.size wc b ⟨63, (p1, p2), sNil, 0⟩ svc (acc' ++ [(mk 30 (s1, s2) sNil 0 [y8])]) xsc))
              case first =>
               go_region_law (first
                | (go_simp; go_at_call 97; (with_reducible refine D1.out.mono ?_); rintro e x5 ⟨by_, rfl, hp, hgr, hr⟩; have HKX := qh (HKD.out.grown hgr hbr0 (Nat.le_refl _)); have HY := qh (HKD.out.new hr (Nat.le_refl _)); have HX5 := qh (HD_.out.trans ⟨hp, hgr⟩); clear hp hgr hr; obtain ⟨t4, t4f, hbx⟩ := HKX.out.kn.facts)
                | (go_simp; go_at_call 33; (with_reducible refine (new_in HKX.out (Nat.le_refl _) 30 30 rfl s1 s2 sNil [.pointer (some ⟨by_, 0, none⟩)] [y8] x5.heap.size rfl 1 rfl (by decide) (rep_f1 HY.out)).mono ?_); rintro e x6 ⟨bn, rfl, hb, hr⟩; have HKY := qh (HKX.out.below hb); have HN1 := qh hr; have HX6 := qh (HX5.out.below hb); clear hb hr; obtain ⟨t4, t4f, hbx⟩ := HKY.out.kn.facts; have Q := kid_facts (cs := #[.pointer (some ⟨bn, 0, none⟩)]) x6.heap.size rfl (Nat.le_trans HKY.out.kn.low (Nat.le_of_lt hbx)) HKY.out.kn.own hxl (one_ptr (some ⟨bn, 0, none⟩)) (by simp))
                | (refine step_append_lies _ (by rfl) _ _ _ (by rfl) w.heap.size 31 i0 _ 1 8 Tryz.underlying36 hi0 hz0 hz1 hz2 rfl (by omega) svc xsc.length xsc (by rfl) Q.out.2.2.2.2 ⟨x6.heap.size, 0, none⟩ 1 1 #[.pointer (some ⟨bn, 0, none⟩)].toList (by rfl) (by rfl) Q.out.1 Q.out.2.1 (by omega) Q.out.2.2.1 (by omega) Q.out.2.2.2.1 (x6.heap.size + 1) (by simp) ?_; intro g' cap w5 hown1 hgrow hor hlt5; obtain ⟨s4, s4f, hb5⟩ := KN.after (HKY.out.kn.below ((Below.refl _ _).alloc (Nat.le_refl _) _)) hgrow; have K2 := qh (KG.steps (l := [(mk 30 (s1, s2) sNil 0 [y8])]) (HKY.out.below ((Below.refl _ _).alloc (Nat.le_refl _) _)) (HN1.out.below ((Below.refl _ _).alloc (Nat.le_refl _) _)) rfl rfl hown1 hgrow (hor.imp id fun e => e.trans (World.size_alloc _ _).symm)); have H2 := qh (PG.hung HX6.out H0.out _ hgrow (fun k e => (HKY.out.kn.own.lt _ e).1) (u := .slice (some ⟨g', 0, none⟩) (xsc.length + 1) cap) HKY.out.kn.low); clear hown1 hgrow hor hlt5))
               all_goals
                go_wp2_with fail
                go_meet
                exact qh ⟨H2.out, _, _, K2.out⟩
              case rest =>
               obtain ⟨hc1, svc, xsc, hc2⟩ := hcut.out
               clear HK H hxl HKD HD_ hcut
               have hxl : xsc.length ≤ 1000000 := by have := hc2.len; simp only [List.length_append, List.length_cons, List.length_nil] at this; omega
               have H := qh hc1
               have HK := qh hc2
               clear hc1 hc2
               cases hT : isT L (j8) sEnd with
               | false =>
                 have D1 := qh (need_no HT.out.toks (i := j8) (by omega) sEnd _ H.out.1 hT)
                 have HS := qh (HS.out.trans (need_n hT))
                 go_wp2_with fail
                 ((with_reducible refine D1.out.mono ?_); rintro e w1 ⟨rfl, hb⟩)
                 have H3 := qh (grown_trans H.out.2 hb)
                 clear hb
                 go_wp2
                 refine ⟨rfl, ?_⟩
                 rw [HS.out]
                 exact ⟨rfl, H3.out⟩
               | true =>
                 have hjn := isT_lt hT
                 have D1 := qh (need_ok HT.out.toks (i := j8) (by omega) sEnd _ H.out.1 hT)
                 have HS := qh (HS.out.trans (need_y hT))
                 clear hT
                 go_wp2_with fail
                 ((with_reducible refine (D1.out).mono ?_); rintro e wx ⟨rfl, hb⟩)
                 have H := qh (H.out.trans hb)
                 have HK := qh (HK.out.grown hb.2 hbr0 (Nat.le_refl _))
                 clear hb
                 clear D1
                 have HS := qh (HS.out.trans ret_)
                 go_wp2
                 go_ret
                 rw [HS.out]
                 exact ⟨b, rfl, H.out.1, H.out.2, HK.out.done (Nat.le_refl _)⟩
        | true =>
          have hjn := isT_lt hT
          have D1 := qh (eat_yes HT.out.toks (i := J) (by omega) sBar _ H.out.1 hT)
          have HS := qh (HS.out.trans (tok_y hT))
          clear hT
          go_wp2_with fail
          ((with_reducible refine (D1.out).mono ?_); rintro e wx ⟨rfl, hb⟩)
          have H := qh (H.out.trans hb)
          have HK := qh (HK.out.grown hb.2 hbr0 (Nat.le_refl _))
          clear hb
          clear D1
          go_wp2
          go_roundg (L.length + 1 - (J + 1))
          case measure => omega
          case rel => exact qh ⟨_, _, _, _, by omega, by omega, H.out, HK.out, rfl, f, by omega, by omega, HS.out⟩
end Go.Proofs.YtkemhmfdooghkaaGreatDoor.St
end
