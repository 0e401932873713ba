/- A part of the proof: U6. -/
import Derived.Test.YtkemhmfdooghkaaGreatDoorZ1
import Derived.Test.YtkemhmfdooghkaaGreatDoorZ21
import Derived.Deep.AppendLies
import Derived.Deep.LoopGhost
set_option linter.unusedSimpArgs false
set_option linter.unusedVariables false

section
namespace Go.Proofs.YtkemhmfdooghkaaGreatDoor.St
open Go.RowKit
open Tr (Nd Fo RepS RepN Rep cellsN)
open Lx (Tk noTk Blk run_store_complexL TokAt)
open Fl
open Ex
attribute [local go_sem] run_store_complexL run_field1 run_field3
theorem repN_nil {S : Nat → Prop} {w : World} : RepN S w (forest []) [] := by unfold forest RepN; rfl
theorem repN_cons {S : Nat → Prop} {w : World} {x : T1} {v : Value} {l : List T1} {vs : List Value} (h1 : RepS S w (.node x.1 x.2 .no) [v]) (h2 : RepN S w (forest l) vs) : RepN S w (forest (x :: l)) (v :: vs) := by
 unfold forest RepN
 exact ⟨v, vs, rfl, .inr h1, h2⟩
theorem repN_zero {S : Nat → Prop} {w : World} {l : List T1} {vs : List Value} (h2 : RepN S w (forest l) vs) : RepN S w (forest (zeroT :: l)) (.pointer none :: vs) := by
 unfold forest RepN
 exact ⟨_, vs, rfl, .inl ⟨rfl, rfl, rfl⟩, h2⟩
set_option maxRecDepth 100000 in set_option maxHeartbeats 6400000 in
theorem fors_any {g : Nat} {w0 : World} {br c : Nat} {A : Option Addr} {L : List PT} (ht : TkS w0 br A L) (hg : L.length < g) {bd : Par T1} (hb2 : Good2 bd) {lo : Nat} (hB : SnOK 97 (fun j => bd L j) lo w0 br A c L) (i : Nat) (hlo : lo ≤ i) (hi : i ≤ L.length) (p1 p2 : Nat) (w : World) (h : PInv w0 w br A c L i) :
 Calls Tryz.prog 114 #[.pointer (some ⟨br, 0, none⟩), .complex .f64 (fl p1) (fl p2)] w (TreeR w.heap.size w0 w br A c L (forS g bd (p1, p2) L i)) := by
 have MN := qh (fun j => g2_max (g2_endedF hb2) L j)
 have hbr0 := h.row.lt
 have hlen := ht.toks.len
 have H0 := qh h
 have H := qh (PG.start h)
 have HT := qh ht
 have ME := qh (fun j => g2_max (g2_expr (g := g)) L j)
 have MD := qh (fun j => g2_max (g2_design (g := g)) L j)
 have ML := qh (fun j => g2_max (g2_labels (g := g)) L j)
 have HE := qh (fun j hj w h => expr_s (c := c) ht hg j hj w h)
 have HD := qh (fun j hj w h => of_D (c := c) ht hg j hj w h)
 have HL := qh (fun j hj w h => of_L (c := c) ht hg j hj w h)
 have MB := qh (fun j => g2_max hb2 L j)
 have HB := qh hB
 have HN := qh (ended_any (c := c) ht hg hb2 hB)
 obtain ⟨res, hs0⟩ : ∃ r, r = forS g bd (p1, p2) L i := ⟨_, rfl⟩
 rw [← hs0]
 have HS := qh hs0
 clear h ht hb2 hB hs0
 go_enter Tryz.func114, Tryz.ntmps114
 have N1 := qh (now_any HT.out.toks (i := i) (by omega) w H.out.1)
 obtain ⟨k, r1, r2, q1, q2, t, n, e1, e2⟩ := val_form (tk L i)
 have HKI := qh (show (tk L i).1.kind = k by rw [e1])
 have HTX := qh (show (tk L i).1.text = t by rw [e1])
 rw [e2] at N1
 clear e1 e2
 by_cases hk1 : k = 1
 ·subst hk1
  have HS := qh (show res = needF sAsg (bindP (exprF g) fun a => needF sTo (bindP (exprF g) fun z => tokP (tT sBy) (fun _ => bindP (exprF g) fun y => forE bd (p1, p2) t a z y) (forE bd (p1, p2) t a z zeroT))) L (i + 1) from by rw [HS.out, ← HTX.out]; exact tok_y (show isNm (tk L i) = true by unfold isNm; rw [HKI.out]; rfl))
  go_wp2_with fail
  ((with_reducible refine N1.out.mono ?_); rintro e wn ⟨rfl, hb⟩)
  have hwn : w.heap.size ≤ wn.heap.size := hb.size
  have T := qh (Lx.Blk.new wn 40 #[.int .u8 1, .complex .f64 (fl r1) (fl r2), .complex .f64 (fl q1) (fl q2), .string t, .int .i64 n])
  have H := qh ((H.out.below hb).alloc (.cells #[.int .u8 1, .complex .f64 (fl r1) (fl r2), .complex .f64 (fl q1) (fl q2), .string t, .int .i64 n] 40))
  obtain ⟨m1, f1, hlt⟩ := H.out.1.at_
  obtain ⟨c0, -, -, c3_, -, -, -, -, -, -⟩ := T.out.tok
  have x0 : (0 : Int) ≤ (i : Int) := by omega
  have hne2 : ¬ wn.heap.size = br := by omega
  have hne : ¬ br = wn.heap.size := by omega
  have T := qh (T.out.far (p := ⟨br, 1, none⟩) hne2 (.int .i64 ((i + 1 : Nat) : Int)))
  have H := qh (H.out.set_ (i + 1))
  have e9 : ((i + 1 : Nat) : Int) = (i : Int) + 1 := by omega
  clear hb N1
  cases hT : isT L (i + 1) sAsg with
  | false =>
    have D1 := qh (need_no HT.out.toks (i := i + 1) (by omega) sAsg _ H.out.1 hT)
    have HS := qh (HS.out.trans (need_n hT))
    rw [e9] at D1 H T
    go_wp2_with fail
    ((with_reducible refine D1.out.mono ?_); rintro e w1 ⟨rfl, hb⟩)
    have H3 := qh (grown_trans H.out.2 hb)
    clear hb
    go_wp2
    refine ⟨rfl, ?_⟩
    rw [HS.out]
    exact ⟨rfl, H3.out⟩
  | true =>
    have hjn := isT_lt hT
    have D1 := qh (need_ok HT.out.toks (i := i + 1) (by omega) sAsg _ H.out.1 hT)
    have HS := qh (HS.out.trans (need_y hT))
    clear hT
    rw [e9] at D1 H T
    go_wp2_with fail
    ((with_reducible refine (D1.out).mono ?_); rintro e wx ⟨rfl, hb⟩)
    have H := qh (H.out.trans hb)
    have T := qh (T.out.grown hb.2 (fun e => by injection e with e; omega))
    clear hb
    clear D1 m1 f1 hlt c0 c3_
    have d1 : Calls _ _ _ _ (TreeR _ _ _ _ _ _ _ (exprF g L (i + 1 + 1))) := HE.out (i + 1 + 1) (by omega) _ H.out.1
    cases hx : exprF g L (i + 1 + 1) with
    | error k9 =>
      rw [hx] at d1
      have D1 := qh d1
      have HS := qh (HS.out.trans (bind_err hx))
      clear d1 hx
      go_wp2_with fail
      ((with_reducible refine D1.out.mono ?_); rintro e w1 ⟨rfl, hb⟩)
      have H3 := qh (grown_trans H.out.2 hb)
      clear hb
      go_wp2
      refine ⟨rfl, ?_⟩
      rw [HS.out]
      exact ⟨rfl, H3.out⟩
    | ok r =>
      obtain ⟨x, j1⟩ := r
      rw [hx] at d1
      have D1 := qh d1
      have HS := qh (HS.out.trans (bind_ok hx))
      have hj1 := ME.out (i + 1 + 1)
      rw [hx] at hj1
      simp only [posE] at hj1
      clear d1 hx
      go_wp2_with fail
      ((with_reducible refine D1.out.mono ?_); rintro e wx ⟨bx, rfl, hp, hgr, hr⟩)
      have HX := qh (hr.more (S' := fun y => w.heap.size ≤ y) fun y hy _ => Nat.le_trans H.out.2.size hy)
      have H := qh (H.out.trans ⟨hp, hgr⟩)
      have T := qh (T.out.grown hgr (fun e => by injection e with e; omega))
      clear hp hgr hr D1
      cases hT : isT L (j1) sTo with
      | false =>
        have D1 := qh (need_no HT.out.toks (i := j1) (by omega) sTo _ H.out.1 hT)
        have HS := qh (HS.out.trans (need_n hT))
        go_wp2_with fail
        ((with_reducible refine D1.out.mono ?_); rintro e w1 ⟨rfl, hb⟩)
        have H3 := qh (grown_trans H.out.2 hb)
        clear hb
        go_wp2
        refine ⟨rfl, ?_⟩
        rw [HS.out]
        exact ⟨rfl, H3.out⟩
      | true =>
        have hjn := isT_lt hT
        have D1 := qh (need_ok HT.out.toks (i := j1) (by omega) sTo _ H.out.1 hT)
        have HS := qh (HS.out.trans (need_y hT))
        clear hT
        go_wp2_with fail
        ((with_reducible refine (D1.out).mono ?_); rintro e wx ⟨rfl, hb⟩)
        have H := qh (H.out.trans hb)
        have HX := qh (repS_grown HX.out hb.2 hbr0)
        have T := qh (T.out.grown hb.2 (fun e => by injection e with e; omega))
        clear hb
        clear D1
        have d1 : Calls _ _ _ _ (TreeR _ _ _ _ _ _ _ (exprF g L (j1 + 1))) := HE.out (j1 + 1) (by omega) _ H.out.1
        cases hx : exprF g L (j1 + 1) with
        | error k9 =>
          rw [hx] at d1
          have D1 := qh d1
          have HS := qh (HS.out.trans (bind_err hx))
          clear d1 hx
          go_wp2_with fail
          ((with_reducible refine D1.out.mono ?_); rintro e w1 ⟨rfl, hb⟩)
          have H3 := qh (grown_trans H.out.2 hb)
          clear hb
          go_wp2
          refine ⟨rfl, ?_⟩
          rw [HS.out]
          exact ⟨rfl, H3.out⟩
        | ok r =>
          obtain ⟨z, j3⟩ := r
          rw [hx] at d1
          have D1 := qh d1
          have HS := qh (HS.out.trans (bind_ok hx))
          have hj3 := ME.out (j1 + 1)
          rw [hx] at hj3
          simp only [posE] at hj3
          clear d1 hx
          go_wp2_with fail
          ((with_reducible refine D1.out.mono ?_); rintro e wx ⟨bz, rfl, hp, hgr, hr⟩)
          have HZ := qh (hr.more (S' := fun y => w.heap.size ≤ y) fun y hy _ => Nat.le_trans H.out.2.size hy)
          have H := qh (H.out.trans ⟨hp, hgr⟩)
          have HX := qh (repS_grown HX.out hgr hbr0)
          have T := qh (T.out.grown hgr (fun e => by injection e with e; omega))
          clear hp hgr hr D1
          cases hT : isT L (j3) sBy with
          | false =>
            have D1 := qh (eat_no HT.out.toks (i := j3) (by omega) sBy _ H.out.1 hT)
            have HS := qh (HS.out.trans (tok_n hT))
            go_wp2_with fail
            ((with_reducible refine (D1.out).mono ?_); rintro e wx ⟨rfl, hb⟩)
            have H := qh (H.out.trans hb)
            have HX := qh (repS_grown HX.out hb.2 hbr0)
            have HZ := qh (repS_grown HZ.out hb.2 hbr0)
            have T := qh (T.out.grown hb.2 (fun e => by injection e with e; omega))
            clear hb
            clear D1
            cases hT : isT L (j3) sDo with
            | false =>
              have D1 := qh (need_no HT.out.toks (i := j3) (by omega) sDo _ H.out.1 hT)
              have HS := qh (HS.out.trans (need_n hT))
              go_wp2_with fail
              ((with_reducible refine D1.out.mono ?_); rintro e w1 ⟨rfl, hb⟩)
              have H3 := qh (grown_trans H.out.2 hb)
              clear hb
              go_wp2
              refine ⟨rfl, ?_⟩
              rw [HS.out]
              exact ⟨rfl, H3.out⟩
            | true =>
              have hjn := isT_lt hT
              have D1 := qh (need_ok HT.out.toks (i := j3) (by omega) sDo _ H.out.1 hT)
              have HS := qh (HS.out.trans (need_y hT))
              clear hT
              go_wp2_with fail
              ((with_reducible refine (D1.out).mono ?_); rintro e wx ⟨rfl, hb⟩)
              have H := qh (H.out.trans hb)
              have HX := qh (repS_grown HX.out hb.2 hbr0)
              have HZ := qh (repS_grown HZ.out hb.2 hbr0)
              have T := qh (T.out.grown hb.2 (fun e => by injection e with e; omega))
              clear hb
              clear D1
              have HS := qh (HS.out.trans (endedF_then (f := fun b => [x, z, zeroT, b])))
              have c3 : wx.cell? ⟨wn.heap.size, 3, none⟩ = some (.string t) := T.out.cell 3
              have hbt : wn.heap.size < wx.heap.size := T.out.lt
              have HD_ := qh (H.out.below ((Below.refl _ _).drew))
              have TD := qh (T.out.below ((Below.refl _ _).drew) T.out.lt)
              have d1 : Calls _ _ _ _ (TreeR _ _ _ _ _ _ _ (endedF bd L (j3 + 1))) := HN.out (j3 + 1) (by omega) (by omega) wx.drew HD_.out.1
              cases hx : endedF bd L (j3 + 1) with
              | error k9 =>
                rw [hx] at d1
                have D1 := qh (d1.mono (R' := fun e w' => (∃ p, e = .returned (.pointer p) ∧ Hid False) ∨ (e = bad k9 ∧ wx.drew.grownBy w' (some br))) fun e w' h => .inr h)
                have HS := qh (HS.out.trans (bind_err hx))
                clear d1 hx
                go_wp2
                go_region_law (first
                 | (go_simp; go_at_call 138; (with_reducible refine D1.out.mono ?_); rintro e x5 (⟨p_, rfl, hF⟩ | ⟨rfl, hb⟩); (case' inr => (refine ⟨rfl, ?_⟩; rw [HS.out]; exact ⟨rfl, grown_trans HD_.out.2 hb⟩)); have t3 : x5.cell? ⟨wn.heap.size, 3, none⟩ = some (.string t) := hF.out.elim; have hbx : wn.heap.size < x5.heap.size := hF.out.elim)
                 | (go_simp; go_at_call 33; refine Calls.mono (R := fun e w' => ∃ p, e = .returned (.pointer p)) hF.out.elim ?_; rintro e wh ⟨p2_, rfl⟩))
                all_goals exact hF.out.elim
              | ok r =>
                obtain ⟨y4, j9⟩ := r
                rw [hx] at d1
                have D1 := qh d1
                have HS := qh ((HS.out.trans (bind_ok hx)).trans ret_)
                clear d1 hx
                go_wp2
                go_region_law (first
                 | (go_simp; go_at_call 138; (with_reducible refine D1.out.mono ?_); rintro e x5 ⟨be, rfl, hp, hgr, hr⟩; have HX2 := qh (repS_grown (HX.out.below ((Below.refl _ _).drew)) hgr hbr0); have HZ2 := qh (repS_grown (HZ.out.below ((Below.refl _ _).drew)) hgr hbr0); have HY := qh (hr.more (S' := fun y => w.heap.size ≤ y) fun y hy _ => Nat.le_trans HD_.out.2.size hy); have HX5 := qh (HD_.out.trans ⟨hp, hgr⟩); have T5 := qh (TD.out.grown hgr (fun e => by injection e with e; omega)); clear hp hgr hr; have t3 : x5.cell? ⟨wn.heap.size, 3, none⟩ = some (.string t) := T5.out.cell 3; have hbx : wn.heap.size < x5.heap.size := T5.out.lt)
                 | (go_simp; go_at_call 33; (with_reducible refine (new_lit (B := w.heap.size) (w := x5) HX5.out.2.size 68 68 rfl p1 p2 t [.pointer (some ⟨bx, 0, none⟩), .pointer (some ⟨bz, 0, none⟩), .pointer none, .pointer (some ⟨be, 0, none⟩)] [x, z, zeroT, y4] x5.heap.size rfl 4 rfl (by decide) (repN_cons HX2.out (repN_cons HZ2.out (repN_zero (repN_cons HY.out repN_nil))))).mono ?_); rintro e wy ⟨b8, rfl, hb, hr⟩; have H2 := qh (HX5.out.below hb); have HR8 := qh hr; clear hb hr))
                all_goals
                 go_wp2
                 go_ret
                 rw [HS.out]
                 exact ⟨b8, rfl, H2.out.1, H2.out.2, HR8.out⟩
          | true =>
            have hjn := isT_lt hT
            have D1 := qh (eat_yes HT.out.toks (i := j3) (by omega) sBy _ H.out.1 hT)
            have HS := qh (HS.out.trans (tok_y hT))
            clear hT
            go_wp2_with fail
            ((with_reducible refine (D1.out).mono ?_); rintro e wx ⟨rfl, hb⟩)
            have H := qh (H.out.trans hb)
            have HX := qh (repS_grown HX.out hb.2 hbr0)
            have HZ := qh (repS_grown HZ.out hb.2 hbr0)
            have T := qh (T.out.grown hb.2 (fun e => by injection e with e; omega))
            clear hb
            clear D1
            have d1 : Calls _ _ _ _ (TreeR _ _ _ _ _ _ _ (exprF g L (j3 + 1))) := HE.out (j3 + 1) (by omega) _ H.out.1
            cases hx : exprF g L (j3 + 1) with
            | error k9 =>
              rw [hx] at d1
              have D1 := qh d1
              have HS := qh (HS.out.trans (bind_err hx))
              clear d1 hx
              go_wp2_with fail
              ((with_reducible refine D1.out.mono ?_); rintro e w1 ⟨rfl, hb⟩)
              have H3 := qh (grown_trans H.out.2 hb)
              clear hb
              go_wp2
              refine ⟨rfl, ?_⟩
              rw [HS.out]
              exact ⟨rfl, H3.out⟩
            | ok r =>
              obtain ⟨y, j4⟩ := r
              rw [hx] at d1
              have D1 := qh d1
              have HS := qh (HS.out.trans (bind_ok hx))
              have hj4 := ME.out (j3 + 1)
              rw [hx] at hj4
              simp only [posE] at hj4
              clear d1 hx
              go_wp2_with fail
              ((with_reducible refine D1.out.mono ?_); rintro e wx ⟨by_, rfl, hp, hgr, hr⟩)
              have HW := qh (hr.more (S' := fun y => w.heap.size ≤ y) fun y hy _ => Nat.le_trans H.out.2.size hy)
              have H := qh (H.out.trans ⟨hp, hgr⟩)
              have HX := qh (repS_grown HX.out hgr hbr0)
              have HZ := qh (repS_grown HZ.out hgr hbr0)
              have T := qh (T.out.grown hgr (fun e => by injection e with e; omega))
              clear hp hgr hr D1
              cases hT : isT L (j4) sDo with
              | false =>
                have D1 := qh (need_no HT.out.toks (i := j4) (by omega) sDo _ H.out.1 hT)
                have HS := qh (HS.out.trans (need_n hT))
                go_wp2_with fail
                ((with_reducible refine D1.out.mono ?_); rintro e w1 ⟨rfl, hb⟩)
                have H3 := qh (grown_trans H.out.2 hb)
                clear hb
                go_wp2
                refine ⟨rfl, ?_⟩
                rw [HS.out]
                exact ⟨rfl, H3.out⟩
              | true =>
                have hjn := isT_lt hT
                have D1 := qh (need_ok HT.out.toks (i := j4) (by omega) sDo _ H.out.1 hT)
                have HS := qh (HS.out.trans (need_y hT))
                clear hT
                go_wp2_with fail
                ((with_reducible refine (D1.out).mono ?_); rintro e wx ⟨rfl, hb⟩)
                have H := qh (H.out.trans hb)
                have HX := qh (repS_grown HX.out hb.2 hbr0)
                have HZ := qh (repS_grown HZ.out hb.2 hbr0)
                have HW := qh (repS_grown HW.out hb.2 hbr0)
                have T := qh (T.out.grown hb.2 (fun e => by injection e with e; omega))
                clear hb
                clear D1
                have HS := qh (HS.out.trans (endedF_then (f := fun b => [x, z, y, b])))
                have c3 : wx.cell? ⟨wn.heap.size, 3, none⟩ = some (.string t) := T.out.cell 3
                have hbt : wn.heap.size < wx.heap.size := T.out.lt
                have HD_ := qh (H.out.below ((Below.refl _ _).drew))
                have TD := qh (T.out.below ((Below.refl _ _).drew) T.out.lt)
                have d1 : Calls _ _ _ _ (TreeR _ _ _ _ _ _ _ (endedF bd L (j4 + 1))) := HN.out (j4 + 1) (by omega) (by omega) wx.drew HD_.out.1
                cases hx : endedF bd L (j4 + 1) with
                | error k9 =>
                  rw [hx] at d1
                  have D1 := qh (d1.mono (R' := fun e w' => (∃ p, e = .returned (.pointer p) ∧ Hid False) ∨ (e = bad k9 ∧ wx.drew.grownBy w' (some br))) fun e w' h => .inr h)
                  have HS := qh (HS.out.trans (bind_err hx))
                  clear d1 hx
                  go_wp2
                  go_region_law (first
                   | (go_simp; go_at_call 138; (with_reducible refine D1.out.mono ?_); rintro e x5 (⟨p_, rfl, hF⟩ | ⟨rfl, hb⟩); (case' inr => (refine ⟨rfl, ?_⟩; rw [HS.out]; exact ⟨rfl, grown_trans HD_.out.2 hb⟩)); have t3 : x5.cell? ⟨wn.heap.size, 3, none⟩ = some (.string t) := hF.out.elim; have hbx : wn.heap.size < x5.heap.size := hF.out.elim)
                   | (go_simp; go_at_call 33; refine Calls.mono (R := fun e w' => ∃ p, e = .returned (.pointer p)) hF.out.elim ?_; rintro e wh ⟨p2_, rfl⟩))
                  all_goals exact hF.out.elim
                | ok r =>
                  obtain ⟨y4, j9⟩ := r
                  rw [hx] at d1
                  have D1 := qh d1
                  have HS := qh ((HS.out.trans (bind_ok hx)).trans ret_)
                  clear d1 hx
                  go_wp2
                  go_region_law (first
                   | (go_simp; go_at_call 138; (with_reducible refine D1.out.mono ?_); rintro e x5 ⟨be, rfl, hp, hgr, hr⟩; have HX2 := qh (repS_grown (HX.out.below ((Below.refl _ _).drew)) hgr hbr0); have HZ2 := qh (repS_grown (HZ.out.below ((Below.refl _ _).drew)) hgr hbr0); have HW2 := qh (repS_grown (HW.out.below ((Below.refl _ _).drew)) hgr hbr0); have HY := qh (hr.more (S' := fun y => w.heap.size ≤ y) fun y hy _ => Nat.le_trans HD_.out.2.size hy); have HX5 := qh (HD_.out.trans ⟨hp, hgr⟩); have T5 := qh (TD.out.grown hgr (fun e => by injection e with e; omega)); clear hp hgr hr; have t3 : x5.cell? ⟨wn.heap.size, 3, none⟩ = some (.string t) := T5.out.cell 3; have hbx : wn.heap.size < x5.heap.size := T5.out.lt)
                   | (go_simp; go_at_call 33; (with_reducible refine (new_lit (B := w.heap.size) (w := x5) HX5.out.2.size 68 68 rfl p1 p2 t [.pointer (some ⟨bx, 0, none⟩), .pointer (some ⟨bz, 0, none⟩), .pointer (some ⟨by_, 0, none⟩), .pointer (some ⟨be, 0, none⟩)] [x, z, y, y4] x5.heap.size rfl 4 rfl (by decide) (repN_cons HX2.out (repN_cons HZ2.out (repN_cons HW2.out (repN_cons HY.out repN_nil))))).mono ?_); rintro e wy ⟨b8, rfl, hb, hr⟩; have H2 := qh (HX5.out.below hb); have HR8 := qh hr; clear hb hr))
                  all_goals
                   go_wp2
                   go_ret
                   rw [HS.out]
                   exact ⟨b8, rfl, H2.out.1, H2.out.2, HR8.out⟩
 ·have k1 : ((k : Int) == 1) = false := by simp only [beq_eq_false_iff_ne, ne_eq]; omega
  have k2 : ((k : Int) != 1) = true := by simp [bne, k1]
  have HS := qh (show res = .error i from by rw [HS.out]; exact tok_n (show isNm (tk L i) = false by unfold isNm; rw [HKI.out]; simpa using hk1))
  go_wp2_with fail
  ((with_reducible refine N1.out.mono ?_); rintro e w1 ⟨rfl, hb⟩)
  have H1 := qh (H.out.below hb)
  have hs := hb.size
  have hbr1 : br < w1.heap.size := by omega
  obtain ⟨m1, f1, hlt⟩ := H1.out.1.at_
  have H2 := qh (H1.out.alloc (.cells #[.int .u8 k, .complex .f64 (fl r1) (fl r2), .complex .f64 (fl q1) (fl q2), .string t, .int .i64 n] 40))
  clear hb N1
  go_wp2
  refine ⟨rfl, ?_⟩
  rw [HS.out]
  exact ⟨rfl, H2.out.2⟩
end Go.Proofs.YtkemhmfdooghkaaGreatDoor.St
end
