/- A part of the proof: U5, V1. -/
import Derived.Test.YtecmjhohniipoaaZ1
import Derived.Test.YtecmjhohniipoaaZ25
import Derived.Deep.AppendLies
import Derived.Deep.LoopGhost
import Derived.Test.YtecmjhohniipoaaZ22
import Derived.Deep.Cut
import Derived.Deep.CutBlock
import Derived.Deep.CutRange
set_option linter.unusedSimpArgs false
set_option linter.unusedVariables false

section
namespace Go.Proofs.Ytecmjhohniipoaa.St
open Go.RowKit
open Tr (Nd Fo RepS RepN Rep cellsN)
open Lx (Tk noTk Blk run_store_complexL TokAt)
open Fl
open Ex
attribute [local go_sem] run_store_complexL run_field1 run_field3
section
variable {α β γ : Type}
theorem bind_assoc (p : Par α) (q : α → Par β) (r : β → Par γ) : bindP (bindP p q) r = bindP p fun a => bindP (q a) r := by
 funext L i
 unfold bindP
 cases p L i with
 | error k => rfl
 | ok x => rfl
theorem need_bind (s : ByteArray) (p : Par α) (r : α → Par β) : bindP (needF s p) r = needF s (bindP p r) := by
 funext L i
 by_cases h : isT L i s = true
 ·rw [need_y h]; unfold bindP; rw [need_y h]
 ·rw [need_n (by simpa using h)]; unfold bindP; rw [need_n (by simpa using h)]
theorem tok_bind (t : PT → Bool) (A : PT → Par α) (B : Par α) (r : α → Par β) : bindP (tokP t A B) r = tokP t (fun x => bindP (A x) r) (bindP B r) := by
 funext L i
 cases h : t (tk L i) with
 | true => rw [tok_y h]; unfold bindP; rw [tok_y h]
 | false => rw [tok_n h]; unfold bindP; rw [tok_n h]
theorem ret_bind (a : α) (r : α → Par β) : bindP (retP a) r = r a := rfl
end
theorem ifs_step {g : Nat} {bd : Par T1} {Q : List T1 → Par T1} {f : Nat} {acc : List T1} : bindP (ifsF g bd (f + 1) acc) Q =
 bindP (exprF g) fun c => needF sThen (bindP bd fun b => tokP (tT sElsif) (fun _ => bindP (ifsF g bd f (acc ++ [c, b])) Q) (Q (acc ++ [c, b]))) := by
 simp only [ifsF, bind_assoc, need_bind, tok_bind, ret_bind]
theorem kg_ex {B0 B b : Nat} {w : World} {d : Nd} {sv : Value} {acc : List T1} {xs : List Value} (h : KG B0 B w b d sv acc xs) : ∃ sv xs, KG B0 B w b d sv acc xs := ⟨_, _, h⟩
theorem rep_keep {B0 b br : Nat} {sv : Value} {w w1 : World} {f : Fo} {vs : List Value} (h : RepS (fun y => B0 ≤ y ∧ y ≠ b ∧ sv.ownBlock ≠ some y) w f vs) (hg : w.grownBy w1 (some br)) (hbr : br < B0) : RepS (fun y => B0 ≤ y ∧ y ≠ b ∧ sv.ownBlock ≠ some y) w1 f vs :=
 h.keep hg.size (fun x hx hl => hg.block x hl (fun e => by injection e with e; have := hx.1; omega)) (fun _ h _ => h)
set_option maxRecDepth 100000 in set_option maxHeartbeats 6400000 in
theorem ifs_any {g : Nat} {w0 : World} {br c : Nat} {A : Option Addr} {L : List PT} (ht : TkS w0 br A L) (hg : L.length < g) {bd : Par T1} (hb2 : Good2 bd) {lo : Nat} (hB : SnOK 17 (fun j => bd L j) lo w0 br A c L) (i : Nat) (hlo : lo ≤ i) (hi : i ≤ L.length) (p1 p2 : Nat) (w : World) (h : PInv w0 w br A c L i) :
 Calls Try.prog 28 #[.pointer (some ⟨br, 0, none⟩), .complex .f64 (fl p1) (fl p2)] w (TreeR w.heap.size w0 w br A c L (ifS g bd (p1, p2) L i)) := by
 have MN := qh (fun j => g2_max (g2_endedF hb2) L j)
 have hbr0 := h.row.lt
 have hlen := ht.toks.len
 have H0 := qh h
 have H := qh (PG.start h)
 have HT := qh ht
 have ME := qh (fun j => g2_max (g2_expr (g := g)) L j)
 have MD := qh (fun j => g2_max (g2_design (g := g)) L j)
 have ML := qh (fun j => g2_max (g2_labels (g := g)) L j)
 have HE := qh (fun j hj w h => expr_s (c := c) ht hg j hj w h)
 have HD := qh (fun j hj w h => of_D (c := c) ht hg j hj w h)
 have HL := qh (fun j hj w h => of_L (c := c) ht hg j hj w h)
 have MB := qh (fun j => g2_max hb2 L j)
 have HB := qh hB
 have HN := qh (ended_any (c := c) ht hg hb2 hB)
 obtain ⟨res, hs0⟩ : ∃ r, r = ifS g bd (p1, p2) L i := ⟨_, rfl⟩
 rw [← hs0]
 have HS := qh hs0
 clear h ht hb2 hB hs0
 go_enter Try.func28, Try.ntmps28
 have NW := qh (new_0 (B0 := w.heap.size) (w := w) (Nat.le_refl _) 62 62 rfl p1 p2 sNil 0)
 obtain ⟨i0, hi0, hz0, hz1, hz2⟩ := info_parts infoN
 go_wp2_with fail
 ((with_reducible refine NW.out.mono ?_); rintro e wx ⟨b, sv0, xs0, rfl, hb, hk⟩)
 have H := qh (H.out.below hb)
 have HK := qh hk
 clear hb hk NW
 go_wp2_with fail
 go_loopw [] (fun wr => Hid (LK w0 w br A c L b ⟨62, (p1, p2), sNil, 0⟩ (fun acc j => ∃ f, lo ≤ j ∧ L.length < j + f ∧ res = bindP (ifsF g bd f acc) (fun l => elseS bd 62 (p1, p2) l) L j) wr)) (fun wr => L.length + 1 - atW wr br)
 case atStart => exact qh ⟨_, _, _, _, by omega, by simp only [List.length_nil]; omega, H.out, HK.out, g, by omega, by omega, HS.out⟩
 case round =>
  clear H HK HS
  obtain ⟨acc, sv, xs, j, hj, hac, hG_, hK_, f, hlj, hf, hS_⟩ := hrel.out
  obtain ⟨f, rfl⟩ : ∃ f', f = f' + 1 := ⟨f - 1, by omega⟩
  have H := qh hG_
  have HO := qh hG_
  have HK := qh hK_
  have HS := qh (show res = _ from hS_.trans (congrFun (congrFun ifs_step L) j))
  have hxl : xs.length ≤ 1000000 := by have := hK_.len; omega
  obtain ⟨wo, rfl⟩ : ∃ wo : World, wo = wr := ⟨_, rfl⟩
  clear hrel hG_ hK_ hS_
  have d1 : Calls _ _ _ _ (TreeR _ _ _ _ _ _ _ (exprF g L (j))) := HE.out (j) (by omega) _ H.out.1
  cases hx : exprF g L (j) with
  | error k9 =>
    rw [hx] at d1
    have D1 := qh d1
    have HS := qh (HS.out.trans (bind_err hx))
    clear d1 hx
    go_wp2_with fail
    ((with_reducible refine D1.out.mono ?_); rintro e w1 ⟨rfl, hb⟩)
    have H3 := qh (grown_trans H.out.2 hb)
    clear hb
    go_wp2
    refine ⟨rfl, ?_⟩
    rw [HS.out]
    exact ⟨rfl, H3.out⟩
  | ok r =>
    obtain ⟨x, j1⟩ := r
    rw [hx] at d1
    have D1 := qh d1
    have HS := qh (HS.out.trans (bind_ok hx))
    have hj1 := ME.out (j)
    rw [hx] at hj1
    simp only [posE] at hj1
    clear d1 hx
    go_wp2_with fail
    ((with_reducible refine D1.out.mono ?_); rintro e wx ⟨bx, rfl, hp, hgr, hr⟩)
    have HX := qh (HK.out.new hr (Nat.le_refl _))
    have HK := qh (HK.out.grown hgr hbr0 (Nat.le_refl _))
    have H := qh (H.out.trans ⟨hp, hgr⟩)
    clear hp hgr hr D1
    cases hT : isT L (j1) sThen with
    | false =>
      have D1 := qh (need_no HT.out.toks (i := j1) (by omega) sThen _ H.out.1 hT)
      have HS := qh (HS.out.trans (need_n hT))
      go_wp2_with fail
      ((with_reducible refine D1.out.mono ?_); rintro e w1 ⟨rfl, hb⟩)
      have H3 := qh (grown_trans H.out.2 hb)
      clear hb
      go_wp2
      refine ⟨rfl, ?_⟩
      rw [HS.out]
      exact ⟨rfl, H3.out⟩
    | true =>
      have hjn := isT_lt hT
      have D1 := qh (need_ok HT.out.toks (i := j1) (by omega) sThen _ H.out.1 hT)
      have HS := qh (HS.out.trans (need_y hT))
      clear hT
      go_wp2_with fail
      ((with_reducible refine (D1.out).mono ?_); rintro e wx ⟨rfl, hb⟩)
      have H := qh (H.out.trans hb)
      have HK := qh (HK.out.grown hb.2 hbr0 (Nat.le_refl _))
      have HX := qh (rep_keep HX.out hb.2 hbr0)
      clear hb
      clear D1
      have d1 : Calls _ _ _ _ (TreeR _ _ _ _ _ _ _ (bd L (j1 + 1))) := HB.out (j1 + 1) (by omega) (by omega) wx.drew (H.out.below ((Below.refl _ _).drew)).1
      cases hx : bd L (j1 + 1) with
      | error k9 =>
        rw [hx] at d1
        have D1 := qh d1
        have HS := qh (HS.out.trans (bind_err hx))
        clear d1 hx
        have HD_ := qh (H.out.below ((Below.refl _ _).drew))
        obtain ⟨m4, m4f, hbl4⟩ := HK.out.kn.facts
        have D1 := qh (D1.out.mono (R' := fun e w' => (∃ p, e = .returned (.pointer p) ∧ Hid False) ∨ (e = bad k9 ∧ wx.drew.grownBy w' (some br))) fun e w' h => .inr h)
        go_wp2
        go_region_law (first
         | (go_simp; go_at_call 17; (with_reducible refine D1.out.mono ?_); rintro e x (⟨p_, rfl, hF⟩ | ⟨rfl, hb⟩); (case' inr => (refine ⟨rfl, ?_⟩; rw [HS.out]; exact ⟨rfl, grown_trans HD_.out.2 hb⟩)); have t4 : x.cell? ⟨b, 4, none⟩ = some sv := hF.out.elim; have t4f : x.frozen? ⟨b, 4, none⟩ = false := hF.out.elim; have hbx : b < x.heap.size := hF.out.elim)
         | (refine step_append_lies _ (by rfl) _ _ _ (by rfl) w.heap.size 26 i0 _ 1 8 Try.underlying40 hi0 hz0 hz1 hz2 rfl (by omega) sv xs.length xs hF.out.elim hF.out.elim ⟨0, 0, none⟩ 2 2 [] hF.out.elim hF.out.elim hF.out.elim hF.out.elim (by omega) hF.out.elim hF.out.elim hF.out.elim 0 hF.out.elim ?_; intro g' cap w5 hown1 hgrow hor hlt5; have s4 : w5.cell? ⟨b, 4, none⟩ = some sv := hF.out.elim; have s4f : w5.frozen? ⟨b, 4, none⟩ = false := hF.out.elim; have hb5 : b < w5.heap.size := hF.out.elim; clear hown1 hgrow hor hlt5))
        all_goals exact hF.out.elim
      | ok r =>
        obtain ⟨y, j4⟩ := r
        rw [hx] at d1
        have D1 := qh d1
        have HS := qh (HS.out.trans (bind_ok hx))
        have hj4 := MB.out (j1 + 1)
        rw [hx] at hj4
        simp only [posE] at hj4
        clear d1 hx
        have HD_ := qh (H.out.below ((Below.refl _ _).drew))
        have HKD := qh (HK.out.below ((Below.refl _ _).drew))
        have HFD := qh (HX.out.below ((Below.refl _ _).drew))
        obtain ⟨m4, m4f, hbl4⟩ := HK.out.kn.facts
        go_wp2
        go_region_law (first
         | (go_simp; go_at_call 17; (with_reducible refine D1.out.mono ?_); rintro e x5 ⟨by_, rfl, hp, hgr, hr⟩; have HKX := qh (HKD.out.grown hgr hbr0 (Nat.le_refl _)); have HY := qh (HKD.out.new hr (Nat.le_refl _)); have HX_ := qh (HD_.out.trans ⟨hp, hgr⟩); have HF1 := qh (rep_keep HFD.out hgr hbr0); clear hp hgr hr; obtain ⟨t4, t4f, hbx⟩ := HKX.out.kn.facts; have Q := kid_facts (cs := #[.pointer (some ⟨bx, 0, none⟩), .pointer (some ⟨by_, 0, none⟩)]) x5.heap.size rfl (Nat.le_trans HKX.out.kn.low (Nat.le_of_lt hbx)) HKX.out.kn.own hxl (two_ptr (some ⟨bx, 0, none⟩) (some ⟨by_, 0, none⟩)) (by simp))
         | (refine step_append_lies _ (by rfl) _ _ _ (by rfl) w.heap.size 26 i0 _ 1 8 Try.underlying40 hi0 hz0 hz1 hz2 rfl (by omega) sv xs.length xs (by rfl) Q.out.2.2.2.2 ⟨x5.heap.size, 0, none⟩ 2 2 #[.pointer (some ⟨bx, 0, none⟩), .pointer (some ⟨by_, 0, none⟩)].toList (by rfl) (by rfl) Q.out.1 Q.out.2.1 (by omega) Q.out.2.2.1 (by omega) Q.out.2.2.2.1 (x5.heap.size + 1) (by simp) ?_; intro g' cap w5 hown1 hgrow hor hlt5; obtain ⟨s4, s4f, hb5⟩ := KN.after (HKX.out.kn.below ((Below.refl _ _).alloc (Nat.le_refl _) _)) hgrow; have K2 := qh (KG.steps (l := [x, y]) (HKX.out.below ((Below.refl _ _).alloc (Nat.le_refl _) _)) (repS_cons (HF1.out.below ((Below.refl _ _).alloc (Nat.le_refl _) _)) (HY.out.below ((Below.refl _ _).alloc (Nat.le_refl _) _))) rfl rfl hown1 hgrow (hor.imp id fun e => e.trans (World.size_alloc _ _).symm)); have H2 := qh (PG.hung HX_.out H0.out _ hgrow (fun k e => (HKX.out.kn.own.lt _ e).1) (u := .slice (some ⟨g', 0, none⟩) (xs.length + 2) cap) HKX.out.kn.low); clear hown1 hgrow hor hlt5))
        all_goals
         have H := H2
         have HK := K2
         clear H2 K2
         have hm1 := HO.out.1.atw
         clear HO HX
         cases hT : isT L j4 sElsif with
         | false =>
           have D1 := qh (eat_no HT.out.toks (i := j4) (by omega) sElsif _ H.out.1 hT)
           have HS := qh (HS.out.trans (tok_n hT))
           clear hT
           go_wp2_with fail
           ((with_reducible refine (D1.out).mono ?_); rintro e wx ⟨rfl, hb⟩)
           have H := qh (H.out.trans hb)
           have HK := qh (HK.out.grown hb.2 hbr0 (Nat.le_refl _))
           clear hb
           clear D1
           obtain ⟨sv2, xs2, hk2⟩ := kg_ex HK.out
           have hxl : xs2.length ≤ 1000000 := by have := hk2.len; simp only [List.length_append, List.length_cons, List.length_nil] at this; omega
           have HK := qh hk2
           clear hk2
           cases hT : isT L (j4) sElse with
           | false =>
             have D1 := qh (eat_no HT.out.toks (i := j4) (by omega) sElse _ H.out.1 hT)
             have HS := qh (HS.out.trans (tok_n hT))
             clear hT
             go_wp2_with fail
             ((with_reducible refine (D1.out).mono ?_); rintro e wx ⟨rfl, hb⟩)
             have H := qh (H.out.trans hb)
             have HK := qh (HK.out.grown hb.2 hbr0 (Nat.le_refl _))
             clear hb
             clear D1
             cases hT : isT L (j4) sEnd with
             | false =>
               have D1 := qh (need_no HT.out.toks (i := j4) (by omega) sEnd _ H.out.1 hT)
               have HS := qh (HS.out.trans (need_n hT))
               go_wp2_with fail
               ((with_reducible refine D1.out.mono ?_); rintro e w1 ⟨rfl, hb⟩)
               have H3 := qh (grown_trans H.out.2 hb)
               clear hb
               go_wp2
               refine ⟨rfl, ?_⟩
               rw [HS.out]
               exact ⟨rfl, H3.out⟩
             | true =>
               have hjn := isT_lt hT
               have D1 := qh (need_ok HT.out.toks (i := j4) (by omega) sEnd _ H.out.1 hT)
               have HS := qh (HS.out.trans (need_y hT))
               clear hT
               go_wp2_with fail
               ((with_reducible refine (D1.out).mono ?_); rintro e wx ⟨rfl, hb⟩)
               have H := qh (H.out.trans hb)
               have HK := qh (HK.out.grown hb.2 hbr0 (Nat.le_refl _))
               clear hb
               clear D1
               have HS := qh (HS.out.trans ret_)
               go_wp2
               go_ret
               rw [HS.out]
               exact ⟨b, rfl, H.out.1, H.out.2, HK.out.done (Nat.le_refl _)⟩
           | true =>
             have hjn := isT_lt hT
             have D1 := qh (eat_yes HT.out.toks (i := j4) (by omega) sElse _ H.out.1 hT)
             have HS := qh (HS.out.trans (tok_y hT))
             clear hT
             go_wp2_with fail
             ((with_reducible refine (D1.out).mono ?_); rintro e wx ⟨rfl, hb⟩)
             have H := qh (H.out.trans hb)
             have HK := qh (HK.out.grown hb.2 hbr0 (Nat.le_refl _))
             clear hb
             clear D1
             have d1 : Calls _ _ _ _ (TreeR _ _ _ _ _ _ _ (bd L (j4 + 1))) := HB.out (j4 + 1) (by omega) (by omega) wx.drew (H.out.below ((Below.refl _ _).drew)).1
             cases hx : bd L (j4 + 1) with
             | error k9 =>
               rw [hx] at d1
               have D1 := qh d1
               have HS := qh (HS.out.trans (bind_err hx))
               clear d1 hx
               have HD_ := qh (H.out.below ((Below.refl _ _).drew))
               obtain ⟨m4, m4f, hbl4⟩ := HK.out.kn.facts
               have D1 := qh (D1.out.mono (R' := fun e w' => (∃ p, e = .returned (.pointer p) ∧ Hid False) ∨ (e = bad k9 ∧ wx.drew.grownBy w' (some br))) fun e w' h => .inr h)
               go_wp2
               go_region_law (first
                | (go_simp; go_at_call 17; (with_reducible refine D1.out.mono ?_); rintro e x (⟨p_, rfl, hF⟩ | ⟨rfl, hb⟩); (case' inr => (refine ⟨rfl, ?_⟩; rw [HS.out]; exact ⟨rfl, grown_trans HD_.out.2 hb⟩)); have t4 : x.cell? ⟨b, 4, none⟩ = some sv2 := hF.out.elim; have t4f : x.frozen? ⟨b, 4, none⟩ = false := hF.out.elim; have hbx : b < x.heap.size := hF.out.elim)
                | (refine step_append_lies _ (by rfl) _ _ _ (by rfl) w.heap.size 26 i0 _ 1 8 Try.underlying40 hi0 hz0 hz1 hz2 rfl (by omega) sv2 xs2.length xs2 hF.out.elim hF.out.elim ⟨0, 0, none⟩ 1 1 [] hF.out.elim hF.out.elim hF.out.elim hF.out.elim (by omega) hF.out.elim hF.out.elim hF.out.elim 0 hF.out.elim ?_; intro g' cap w5 hown1 hgrow hor hlt5; have s4 : w5.cell? ⟨b, 4, none⟩ = some sv2 := hF.out.elim; have s4f : w5.frozen? ⟨b, 4, none⟩ = false := hF.out.elim; have hb5 : b < w5.heap.size := hF.out.elim; clear hown1 hgrow hor hlt5))
               all_goals exact hF.out.elim
             | ok r =>
               obtain ⟨y2, j5⟩ := r
               rw [hx] at d1
               have D1 := qh d1
               have HS := qh (HS.out.trans (bind_ok hx))
               have hj5 := MB.out (j4 + 1)
               rw [hx] at hj5
               simp only [posE] at hj5
               clear d1 hx
               have HD_ := qh (H.out.below ((Below.refl _ _).drew))
               have HKD := qh (HK.out.below ((Below.refl _ _).drew))
               obtain ⟨m4, m4f, hbl4⟩ := HK.out.kn.facts
               go_wp2
               go_region_law (first
                | (go_simp; go_at_call 17; (with_reducible refine D1.out.mono ?_); rintro e x5 ⟨by_, rfl, hp, hgr, hr⟩; have HKX := qh (HKD.out.grown hgr hbr0 (Nat.le_refl _)); have HY := qh (HKD.out.new hr (Nat.le_refl _)); have HX_ := qh (HD_.out.trans ⟨hp, hgr⟩); clear hp hgr hr; obtain ⟨t4, t4f, hbx⟩ := HKX.out.kn.facts; have Q := kid_facts (cs := #[.pointer (some ⟨by_, 0, none⟩)]) x5.heap.size rfl (Nat.le_trans HKX.out.kn.low (Nat.le_of_lt hbx)) HKX.out.kn.own hxl (one_ptr (some ⟨by_, 0, none⟩)) (by simp))
                | (refine step_append_lies _ (by rfl) _ _ _ (by rfl) w.heap.size 26 i0 _ 1 8 Try.underlying40 hi0 hz0 hz1 hz2 rfl (by omega) sv2 xs2.length xs2 (by rfl) Q.out.2.2.2.2 ⟨x5.heap.size, 0, none⟩ 1 1 #[.pointer (some ⟨by_, 0, none⟩)].toList (by rfl) (by rfl) Q.out.1 Q.out.2.1 (by omega) Q.out.2.2.1 (by omega) Q.out.2.2.2.1 (x5.heap.size + 1) (by simp) ?_; intro g' cap w5 hown1 hgrow hor hlt5; obtain ⟨s4, s4f, hb5⟩ := KN.after (HKX.out.kn.below ((Below.refl _ _).alloc (Nat.le_refl _) _)) hgrow; have K2 := qh (KG.steps (l := [y2]) (HKX.out.below ((Below.refl _ _).alloc (Nat.le_refl _) _)) (HY.out.below ((Below.refl _ _).alloc (Nat.le_refl _) _)) rfl rfl hown1 hgrow (hor.imp id fun e => e.trans (World.size_alloc _ _).symm)); have H2 := qh (PG.hung HX_.out H0.out _ hgrow (fun k e => (HKX.out.kn.own.lt _ e).1) (u := .slice (some ⟨g', 0, none⟩) (xs2.length + 1) cap) HKX.out.kn.low); clear hown1 hgrow hor hlt5))
               all_goals
                have H := H2
                have HK := K2
                clear H2 K2
                cases hT : isT L (j5) sEnd with
                | false =>
                  have D1 := qh (need_no HT.out.toks (i := j5) (by omega) sEnd _ H.out.1 hT)
                  have HS := qh (HS.out.trans (need_n hT))
                  go_wp2_with fail
                  ((with_reducible refine D1.out.mono ?_); rintro e w1 ⟨rfl, hb⟩)
                  have H3 := qh (grown_trans H.out.2 hb)
                  clear hb
                  go_wp2
                  refine ⟨rfl, ?_⟩
                  rw [HS.out]
                  exact ⟨rfl, H3.out⟩
                | true =>
                  have hjn := isT_lt hT
                  have D1 := qh (need_ok HT.out.toks (i := j5) (by omega) sEnd _ H.out.1 hT)
                  have HS := qh (HS.out.trans (need_y hT))
                  clear hT
                  go_wp2_with fail
                  ((with_reducible refine (D1.out).mono ?_); rintro e wx ⟨rfl, hb⟩)
                  have H := qh (H.out.trans hb)
                  have HK := qh (HK.out.grown hb.2 hbr0 (Nat.le_refl _))
                  clear hb
                  clear D1
                  have HS := qh (HS.out.trans ret_)
                  go_wp2
                  go_ret
                  rw [HS.out]
                  exact ⟨b, rfl, H.out.1, H.out.2, HK.out.done (Nat.le_refl _)⟩
         | true =>
           have hjn := isT_lt hT
           have D1 := qh (eat_yes HT.out.toks (i := j4) (by omega) sElsif _ H.out.1 hT)
           have HS := qh (HS.out.trans (tok_y hT))
           clear hT
           go_wp2_with fail
           ((with_reducible refine (D1.out).mono ?_); rintro e wx ⟨rfl, hb⟩)
           have H := qh (H.out.trans hb)
           have HK := qh (HK.out.grown hb.2 hbr0 (Nat.le_refl _))
           clear hb
           clear D1
           have hm2 := H.out.1.atw
           go_wp2
           go_roundw
           case rel => exact qh ⟨_, _, _, _, by omega, by rw [List.length_append]; simp only [List.length_cons, List.length_nil] at hac ⊢; omega, H.out, HK.out, f, by omega, by omega, HS.out⟩
           case measure => rw [hm2, hm1]; omega
end Go.Proofs.Ytecmjhohniipoaa.St
end

section
namespace Go.Proofs.Ytecmjhohniipoaa.Rs
open Go.RowKit
open Tr (Nd Fo RepS RepN Rep cellsN)
open Lx (Tk noTk Blk run_store_complexL TokAt)
open Fl
open Ex
attribute [local go_sem] run_store_complexL run_field1 run_field3 St.run_field0
def badE {α : Type} : Except Nat (α × Nat) → Bool
 | .ok _ => false
 | .error _ => true
def andK {α β : Type} (K : Except Nat (α × Nat)) (q : α → Par β) (L : List PT) : Except Nat (β × Nat) := match K with
 | .error k => .error k
 | .ok (a, j) => q a L j
def pushK {α : Type} (K : Except Nat (List α × Nat)) (R : Except Nat (α × Nat)) : Except Nat (List α × Nat) := match K with
 | .error k => .error k
 | .ok (acc, _) => match R with
   | .error k => .error k
   | .ok (x, j) => .ok (acc ++ [x], j)
def appK {α : Type} (K : Except Nat (List α × Nat)) (R : Except Nat (List α × Nat)) : Except Nat (List α × Nat) := match K with
 | .error k => .error k
 | .ok (acc, _) => match R with
   | .error k => .error k
   | .ok (l, j) => .ok (acc ++ l, j)
def addK {α : Type} (K : Except Nat (List α × Nat)) (l : List α) : Except Nat (List α × Nat) := match K with
 | .error k => .error k
 | .ok (acc, j) => .ok (acc ++ l, j)
def eatK {α : Type} (K : Except Nat (α × Nat)) (s : ByteArray) (L : List PT) : Bool := match K with
 | .error _ => false
 | .ok (_, j) => isT L j s
def advK {α : Type} : Except Nat (α × Nat) → Except Nat (α × Nat)
 | .error k => .error k
 | .ok (a, j) => .ok (a, j + 1)
def needK {α : Type} (K : Except Nat (α × Nat)) (s : ByteArray) (L : List PT) : Except Nat (α × Nat) := match K with
 | .error k => .error k
 | .ok (a, j) => if isT L j s = true then .ok (a, j + 1) else .error j
abbrev goK {α β : Type} (K : Except Nat (α × Nat)) (p : Par β) (L : List PT) : Except Nat (β × Nat) := andK K (fun _ => p) L
section
variable {α β γ : Type} {L : List PT}
theorem and_push {K : Except Nat (List α × Nat)} {p : Par α} {Q : List α → Par β} : andK K (fun acc => bindP p (fun x => Q (acc ++ [x]))) L = andK (pushK K (goK K p L)) Q L := by
 rcases K with k | ⟨acc, j⟩
 ·rfl
 ·unfold andK pushK goK andK bindP
  dsimp only
  rcases p L j with k | ⟨x, j2⟩ <;> rfl
theorem and_need {K : Except Nat (α × Nat)} {s : ByteArray} {Q : α → Par β} : andK K (fun acc => needF s (Q acc)) L = andK (needK K s L) Q L := by
 rcases K with k | ⟨acc, j⟩
 ·rfl
 ·unfold andK needK
  dsimp only
  cases h : isT L j s with
  | true => rw [St.need_y h]; rfl
  | false => rw [St.need_n h]; rfl
theorem and_eat_no {K : Except Nat (α × Nat)} {s : ByteArray} {A : α → PT → Par β} {B : α → Par β} (h : eatK K s L = false) : andK K (fun acc => tokP (tT s) (A acc) (B acc)) L = andK K B L := by
 rcases K with k | ⟨acc, j⟩
 ·rfl
 ·exact St.tok_n (t := tT s) h
theorem and_eat_yes {K : Except Nat (α × Nat)} {s : ByteArray} {A : α → PT → Par β} {B : α → Par β} (h : eatK K s L = true) : andK K (fun acc => tokP (tT s) (A acc) (B acc)) L = andK (advK K) (fun acc => A acc (tk L (posE K))) L := by
 rcases K with k | ⟨acc, j⟩
 ·cases h
 ·exact St.tok_y (t := tT s) h
theorem pos_push {K : Except Nat (List α × Nat)} {p : Par α} : posE (pushK K (goK K p L)) = posE (goK K p L) ∧ badE (pushK K (goK K p L)) = badE (goK K p L) := by
 rcases K with k | ⟨acc, j⟩
 ·exact ⟨rfl, rfl⟩
 ·unfold pushK goK andK
  dsimp only
  rcases p L j with k | ⟨x, j2⟩ <;> exact ⟨rfl, rfl⟩
theorem pos_app {K : Except Nat (List α × Nat)} {p : Par (List α)} : posE (appK K (goK K p L)) = posE (goK K p L) ∧ badE (appK K (goK K p L)) = badE (goK K p L) := by
 rcases K with k | ⟨acc, j⟩
 ·exact ⟨rfl, rfl⟩
 ·unfold appK goK andK
  dsimp only
  rcases p L j with k | ⟨x, j2⟩ <;> exact ⟨rfl, rfl⟩
theorem pos_adv {K : Except Nat (α × Nat)} {s : ByteArray} (h : eatK K s L = true) : posE (advK K) = posE K + 1 ∧ badE (advK K) = false ∧ badE K = false ∧ posE K < L.length := by
 rcases K with k | ⟨acc, j⟩
 ·cases h
 ·exact ⟨rfl, rfl, rfl, isT_lt h⟩
theorem go_at {K : Except Nat (α × Nat)} {p : Par β} : goK K p L = if badE K = true then .error (posE K) else p L (posE K) := by
 rcases K with k | ⟨acc, j⟩ <;> rfl
structure Bd (lo M : Nat) (K : Except Nat (α × Nat)) : Prop where
 lo : badE K = false → lo ≤ posE K
 hi : posE K ≤ M
theorem Bd.weak {lo lo' M : Nat} {K : Except Nat (α × Nat)} (h : Bd lo M K) (hl : lo' ≤ lo) : Bd lo' M K := ⟨fun e => Nat.le_trans hl (h.lo e), h.hi⟩
theorem Bd.go {lo M : Nat} {K : Except Nat (α × Nat)} {p : Par β} (hp : St.Good2 p) (h : Bd lo M K) (hL : L.length ≤ M) : Bd lo M (goK K p L) ∧ (badE (goK K p L) = false → badE K = false ∧ posE K ≤ posE (goK K p L)) := by
 rcases K with k | ⟨acc, j⟩
 ·exact ⟨⟨(fun e => by cases e), h.hi⟩, fun e => by cases e⟩
 ·have h1 := hp.mono L j
  have h2 : lo ≤ j := h.lo rfl
  have h3 : j ≤ M := h.hi
  have h4 := St.g2_max hp L j
  refine ⟨⟨fun _ => Nat.le_trans h2 h1, ?_⟩, fun _ => ⟨rfl, h1⟩⟩
  show posE (p L j) ≤ M
  rcases Nat.lt_or_ge L.length j with h5 | h5
  ·rw [h4.2.2 (by omega)]; exact h3
  ·have := h4.2.1 h5; omega
theorem Bd.push {lo M : Nat} {K : Except Nat (List α × Nat)} {p : Par α} (hp : St.Good2 p) (h : Bd lo M K) (hL : L.length ≤ M) : Bd lo M (pushK K (goK K p L)) := by
 have h1 := (h.go hp hL).1
 have h2 := pos_push (K := K) (p := p) (L := L)
 exact ⟨fun e => by rw [h2.1]; exact h1.lo (by rw [← h2.2]; exact e), by rw [h2.1]; exact h1.hi⟩
theorem Bd.app {lo M : Nat} {K : Except Nat (List α × Nat)} {p : Par (List α)} (hp : St.Good2 p) (h : Bd lo M K) (hL : L.length ≤ M) : Bd lo M (appK K (goK K p L)) := by
 have h1 := (h.go hp hL).1
 have h2 := pos_app (K := K) (p := p) (L := L)
 exact ⟨fun e => by rw [h2.1]; exact h1.lo (by rw [← h2.2]; exact e), by rw [h2.1]; exact h1.hi⟩
theorem Bd.add {lo M : Nat} {K : Except Nat (List α × Nat)} {l : List α} (h : Bd lo M K) : Bd lo M (addK K l) := by
 rcases K with k | ⟨acc, j⟩
 ·exact ⟨(fun e => by cases e), h.hi⟩
 ·exact ⟨fun _ => h.lo rfl, h.hi⟩
theorem Bd.need {lo M : Nat} {K : Except Nat (α × Nat)} {s : ByteArray} (h : Bd lo M K) (hL : L.length ≤ M) : Bd lo M (needK K s L) := by
 rcases K with k | ⟨acc, j⟩
 ·exact ⟨(fun e => by cases e), h.hi⟩
 ·unfold needK
  have h2 : lo ≤ j := h.lo rfl
  dsimp only
  split
  ·rename_i hT
   have := isT_lt hT
   exact ⟨fun _ => Nat.le_succ_of_le h2, Nat.le_trans this hL⟩
  ·exact ⟨(fun e => by cases e), h.hi⟩
theorem Bd.adv {lo M : Nat} {K : Except Nat (α × Nat)} {s : ByteArray} (h : Bd lo M K) (hL : L.length ≤ M) (he : eatK K s L = true) : Bd lo M (advK K) := by
 rcases K with k | ⟨acc, j⟩
 ·cases he
 ·have h2 : lo ≤ j := h.lo rfl
  have := isT_lt he
  exact ⟨fun _ => Nat.le_succ_of_le h2, Nat.le_trans this hL⟩
end
set_option maxRecDepth 100000 in set_option maxHeartbeats 6400000 in
theorem rneedw_no {w0 : World} {br c i : Nat} {A : Option Addr} {L : List PT} {bad : Bool} (ht : Toks w0 br A L) (hi : i ≤ 900000) (s : ByteArray) (w : World) (h : QInv w0 w br A c L i bad) (hT : (!bad && isWd L i s) = false) :
 Calls Try.prog 64 #[.pointer (some ⟨br, 0, none⟩), .string s] w fun e w' => e = .returned (.tuple #[]) ∧ QInv w0 w' br A c L i true ∧ w.grownBy w' (some br) := by
 have N1 := qh (reatw_no ht hi s w h hT)
 clear h ht hT
 go_enter Try.func64, Try.ntmps64
 go_wp2_with fail
 ((with_reducible refine N1.out.mono ?_); rintro e w1 ⟨rfl, hp, hg⟩)
 obtain ⟨m1, f1, m2, f2, hlt⟩ := hp.at_
 have HP := qh (hp.bad_ true)
 have HG := qh hg
 clear hp hg N1
 go_wp2
 go_end0
 exact ⟨rfl, HP.out.1, grown_trans HG.out HP.out.2⟩
set_option maxRecDepth 100000 in set_option maxHeartbeats 6400000 in
theorem rneedw_yes {w0 : World} {br c i : Nat} {A : Option Addr} {L : List PT} {bad : Bool} (ht : Toks w0 br A L) (hi : i ≤ 900000) (s : ByteArray) (w : World) (h : QInv w0 w br A c L i bad) (hT : (!bad && isWd L i s) = true) :
 Calls Try.prog 64 #[.pointer (some ⟨br, 0, none⟩), .string s] w fun e w' => e = .returned (.tuple #[]) ∧ QInv w0 w' br A c L (i + 1) bad ∧ w.grownBy w' (some br) := by
 have N1 := qh (reatw_yes ht hi s w h hT)
 clear h ht hT
 go_enter Try.func64, Try.ntmps64
 go_wp2_with fail
 ((with_reducible refine N1.out.mono ?_); rintro e w1 ⟨rfl, hp, hg⟩)
 have HP := qh hp
 have HG := qh hg
 clear hp hg N1
 go_wp2
 go_end0
 exact ⟨rfl, HP.out, HG.out⟩
section
variable {α : Type} {w0 : World} {br c : Nat} {A : Option Addr} {L : List PT} (ht : Toks w0 br A L) (ok : OKRow L) {K : Except Nat (α × Nat)} (hi : posE K ≤ 900000) (s : ByteArray) (w : World) (h : QInv w0 w br A c L (posE K) (badE K))
include ht ok hi h
theorem ueat_no (hs : Lx.isL (s.data.toList.head?.getD 0) = false) (hE : eatK K s L = false) :
 Calls Try.prog 43 #[.pointer (some ⟨br, 0, none⟩), .string s] w fun e w' => e = .returned (.bool false) ∧ QInv w0 w' br A c L (posE K) (badE K) ∧ w.grownBy w' (some br) := by
 rcases K with k | ⟨acc, j⟩
 ·exact reat_bad ht hi s w h
 ·exact reatT_no ht hi s w ok hs h hE
theorem ueat_yes (hs : Lx.isL (s.data.toList.head?.getD 0) = false) (hE : eatK K s L = true) :
 Calls Try.prog 43 #[.pointer (some ⟨br, 0, none⟩), .string s] w fun e w' => e = .returned (.bool true) ∧ QInv w0 w' br A c L (posE (advK K)) (badE (advK K)) ∧ w.grownBy w' (some br) := by
 rcases K with k | ⟨acc, j⟩
 ·cases hE
 ·exact reatT_yes ht hi s w ok hs h hE
theorem ueatw_no (hs : Lx.isL (s.data.toList.head?.getD 0) = true) (hE : eatK K s L = false) :
 Calls Try.prog 60 #[.pointer (some ⟨br, 0, none⟩), .string s] w fun e w' => e = .returned (.bool false) ∧ QInv w0 w' br A c L (posE K) (badE K) ∧ w.grownBy w' (some br) := by
 rcases K with k | ⟨acc, j⟩
 ·exact reatw_bad ht hi s w h
 ·exact reatwT_no ht hi s w ok hs h hE
theorem ueatw_yes (hs : Lx.isL (s.data.toList.head?.getD 0) = true) (hE : eatK K s L = true) :
 Calls Try.prog 60 #[.pointer (some ⟨br, 0, none⟩), .string s] w fun e w' => e = .returned (.bool true) ∧ QInv w0 w' br A c L (posE (advK K)) (badE (advK K)) ∧ w.grownBy w' (some br) := by
 rcases K with k | ⟨acc, j⟩
 ·cases hE
 ·exact reatwT_yes ht hi s w ok hs h hE
theorem uneed (hs : Lx.isL (s.data.toList.head?.getD 0) = false) :
 Calls Try.prog 80 #[.pointer (some ⟨br, 0, none⟩), .string s] w fun e w' => e = .returned (.tuple #[]) ∧ QInv w0 w' br A c L (posE (needK K s L)) (badE (needK K s L)) ∧ w.grownBy w' (some br) := by
 rcases K with k | ⟨acc, j⟩
 ·exact rneed_bad ht hi s w h
 ·have hT : ∀ b, isT L j s = b → (!false && isS L j s) = b := fun b e => by rw [isT_S ok j s hs, e]; rfl
  cases hK : isT L j s with
  | true =>
    have hn : needK (.ok (acc, j)) s L = .ok (acc, j + 1) := if_pos hK
    rw [hn]
    exact rneed_yes (i := j) (bad := false) ht hi s w h (hT _ hK)
  | false =>
    have hn : needK (.ok (acc, j)) s L = .error j := if_neg (by rw [hK]; simp)
    rw [hn]
    exact rneed_no (i := j) (bad := false) ht hi s w h (hT _ hK)
theorem uneedw (hs : Lx.isL (s.data.toList.head?.getD 0) = true) :
 Calls Try.prog 64 #[.pointer (some ⟨br, 0, none⟩), .string s] w fun e w' => e = .returned (.tuple #[]) ∧ QInv w0 w' br A c L (posE (needK K s L)) (badE (needK K s L)) ∧ w.grownBy w' (some br) := by
 rcases K with k | ⟨acc, j⟩
 ·exact rneedw_no ht hi s w h rfl
 ·have hT : ∀ b, isT L j s = b → (!false && isWd L j s) = b := fun b e => by rw [isT_W ok j s hs, e]; rfl
  cases hK : isT L j s with
  | true =>
    have hn : needK (.ok (acc, j)) s L = .ok (acc, j + 1) := if_pos hK
    rw [hn]
    exact rneedw_yes (i := j) (bad := false) ht hi s w h (hT _ hK)
  | false =>
    have hn : needK (.ok (acc, j)) s L = .error j := if_neg (by rw [hK]; simp)
    rw [hn]
    exact rneedw_no (i := j) (bad := false) ht hi s w h (hT _ hK)
theorem usym (hs : Lx.isL (s.data.toList.head?.getD 0) = false) :
 Calls Try.prog 68 #[.pointer (some ⟨br, 0, none⟩), .string s] w fun e w' => e = .returned (.bool (eatK K s L)) ∧ Below w.heap.size w w' := by
 rcases K with k | ⟨acc, j⟩
 ·exact rsym_bad ht hi s w h
 ·exact rsymT ht hi s w ok hs h
theorem uword (hs : Lx.isL (s.data.toList.head?.getD 0) = true) :
 Calls Try.prog 59 #[.pointer (some ⟨br, 0, none⟩), .string s] w fun e w' => e = .returned (.bool (eatK K s L)) ∧ Below w.heap.size w w' := by
 rcases K with k | ⟨acc, j⟩
 ·exact rword_bad ht hi s w h
 ·exact rwordT ht hi s w ok hs h
end
def RefU (B : Nat) (w0 w : World) (br : Nat) (A : Option Addr) (c : Nat) (L : List PT) (R : Except Nat (T1 × Nat)) (e : Ending) (w' : World) : Prop :=
 ∃ p, e = .returned (.pointer p) ∧ QInv w0 w' br A c L (posE R) (badE R) ∧ w.grownBy w' (some br) ∧ ∀ x j, R = .ok (x, j) → RepS (fun y => B ≤ y) w' (.node x.1 x.2 .no) [.pointer p]
theorem refU {B : Nat} {w0 w : World} {br : Nat} {A : Option Addr} {c : Nat} {L : List PT} {R : Except Nat (T1 × Nat)} {e : Ending} {w' : World} (h : RefR B w0 w br A c L R e w') : RefU B w0 w br A c L R e w' := by
 rcases R with k | ⟨x, j⟩
 ·obtain ⟨p, e1, h1, h2⟩ := h
  exact ⟨p, e1, h1, h2, (fun x j e => by cases e)⟩
 ·obtain ⟨b, e1, h1, h2, h3⟩ := h
  exact ⟨_, e1, h1, h2, fun x j e => by cases e; exact h3⟩
def BdOK (F : Nat) (w0 : World) (br : Nat) (A : Option Addr) (c : Nat) (L : List PT) : Prop :=
 ∀ j, j ≤ 60000 → ∀ w, QInv w0 w br A c L j true → Calls Try.prog F #[.pointer (some ⟨br, 0, none⟩)] w fun e w' => ∃ p, e = .returned (.pointer p) ∧ QInv w0 w' br A c L j true ∧ w.grownBy w' (some br)
theorem BdOK.at_ {F : Nat} {w0 : World} {br : Nat} {A : Option Addr} {c : Nat} {L : List PT} (h : BdOK F w0 br A c L) {j : Nat} (hj : j ≤ 60000) (w : World) (hq : QInv w0 w br A c L j true) : Calls Try.prog F #[.pointer (some ⟨br, 0, none⟩)] w fun e w' => ∃ p, e = .returned (.pointer p) ∧ QInv w0 w' br A c L j true ∧ w.grownBy w' (some br) := h j hj w hq
def UnOK (F : Nat) (p : Par T1) (lo : Nat) (w0 : World) (br : Nat) (A : Option Addr) (c : Nat) (L : List PT) : Prop :=
 ∀ (b : Bool) (j : Nat), (b = false → lo ≤ j) → j ≤ 60000 → ∀ w, QInv w0 w br A c L j b → Calls Try.prog F #[.pointer (some ⟨br, 0, none⟩)] w (RefU w.heap.size w0 w br A c L (if b = true then .error j else p L j))
theorem un_of {F : Nat} {sp : Nat → Except Nat (T1 × Nat)} {p : Par T1} {lo : Nat} {w0 : World} {br : Nat} {A : Option Addr} {c : Nat} {L : List PT} (h : RnOK F sp lo w0 br A c L) (hp : ∀ j, sp j = p L j) (hb : BdOK F w0 br A c L) : UnOK F p lo w0 br A c L := by
 intro b j hlo hj w hq
 cases b with
 | true =>
   refine (hb j hj w hq).mono ?_
   rintro e w' ⟨q, e1, h1, h2⟩
   exact ⟨q, e1, h1, h2, (fun x j e => by cases e)⟩
 | false =>
   refine (h j (hlo rfl) hj w hq).mono ?_
   intro e w' h1
   rw [hp j] at h1
   exact refU h1
theorem UnOK.at_ {α : Type} {F : Nat} {p : Par T1} {lo M : Nat} {w0 : World} {br : Nat} {A : Option Addr} {c : Nat} {L : List PT} (h : UnOK F p lo w0 br A c L) {K : Except Nat (α × Nat)} (hK : Bd lo M K) (hM : M ≤ 60000) (w : World) (hq : QInv w0 w br A c L (posE K) (badE K)) :
 Calls Try.prog F #[.pointer (some ⟨br, 0, none⟩)] w (RefU w.heap.size w0 w br A c L (goK K p L)) := by
 rw [go_at]
 exact h (badE K) (posE K) hK.lo (Nat.le_trans hK.hi hM) w hq
set_option maxRecDepth 100000 in set_option maxHeartbeats 6400000 in
theorem bfactor {w0 : World} {br c : Nat} {A : Option Addr} {L : List PT} (ht : Toks w0 br A L) : BdOK 97 w0 br A c L := by
 intro j hj w h
 have H := qh (QG.start h)
 have HT := qh ht
 have N1 := qh (rnow_any ht (i := j) (by omega) w h)
 obtain ⟨k, p1, p2, q1, q2, t, n, e1, e2⟩ := val_form (tk L j)
 rw [e2] at N1
 clear e1 e2 h ht
 go_enter Try.func97, Try.ntmps97
 go_wp2_with fail
 ((with_reducible refine N1.out.mono ?_); rintro e w1 ⟨rfl, hb⟩)
 have H := qh (H.out.below hb)
 obtain ⟨m1, f1, m2, f2, hlt⟩ := H.out.1.at_
 have hne : ¬ br = w1.heap.size := by omega
 have H2 := qh (H.out.alloc (.cells #[.int .u8 k, .complex .f64 (fl p1) (fl p2), .complex .f64 (fl q1) (fl q2), .string t, .int .i64 n] 68))
 clear hb N1 m1 f1 f2
 go_wp2
 go_ret
 exact ⟨_, rfl, H2.out.1, H2.out.2⟩
set_option maxRecDepth 100000 in set_option maxHeartbeats 6400000 in
theorem bterm {w0 : World} {br c : Nat} {A : Option Addr} {L : List PT} (ht : Toks w0 br A L) : BdOK 93 w0 br A c L := by
 intro j hj w h
 have H := qh (QG.start h)
 have HT := qh ht
 have BF := qh (bfactor (c := c) ht)
 clear h ht
 go_enter Try.func93, Try.ntmps93
 go_wp2_with fail
 ((with_reducible refine ((BF.out).at_ hj _ H.out.1).mono ?_); rintro e wx ⟨p9, rfl, hp, hg⟩)
 have H := qh (H.out.trans ⟨hp, hg⟩)
 clear hp hg
 go_wp2_with fail
 go_loopw [3] (fun xv wr => ∃ p, xv = .pointer p ∧ Hid (QG w0 w wr br A c L j true)) (fun _ _ => 0)
 case atStart => exact ⟨_, rfl, H⟩
 case round =>
  clear H
  obtain ⟨p, rfl, H⟩ := hrel
  have HA := qh (H.out.alloc (.cells #[.string ⟨#[42]⟩, .string ⟨#[47]⟩, .string ⟨#[68, 73, 86]⟩, .string ⟨#[77, 79, 68]⟩, .string ⟨#[65, 78, 68]⟩] 9))
  have IS := qh (show Calls Try.prog 82 #[.pointer (some ⟨br, 0, none⟩), .slice (some ⟨wr.heap.size, 0, none⟩) 5 5] (wr.alloc (.cells #[.string ⟨#[42]⟩, .string ⟨#[47]⟩, .string ⟨#[68, 73, 86]⟩, .string ⟨#[77, 79, 68]⟩, .string ⟨#[65, 78, 68]⟩] 9)) fun e w' => e = .returned (.bool false) ∧ Below (wr.alloc (.cells #[.string ⟨#[42]⟩, .string ⟨#[47]⟩, .string ⟨#[68, 73, 86]⟩, .string ⟨#[77, 79, 68]⟩, .string ⟨#[65, 78, 68]⟩] 9)).heap.size (wr.alloc (.cells #[.string ⟨#[42]⟩, .string ⟨#[47]⟩, .string ⟨#[68, 73, 86]⟩, .string ⟨#[77, 79, 68]⟩, .string ⟨#[65, 78, 68]⟩] 9)) w' from ris_any HT.out (by omega) _ HA.out.1 (ops 2) (by decide) (Lx.Blk.new wr 9 #[.string ⟨#[42]⟩, .string ⟨#[47]⟩, .string ⟨#[68, 73, 86]⟩, .string ⟨#[77, 79, 68]⟩, .string ⟨#[65, 78, 68]⟩]))
  go_wp2_with fail
  ((with_reducible refine IS.out.mono ?_); rintro e wi ⟨rfl, hb⟩)
  have H := qh (HA.out.below hb)
  clear hb IS HA
  go_wp2
  go_ret
  exact ⟨_, rfl, H.out.1, H.out.2⟩
set_option maxRecDepth 100000 in set_option maxHeartbeats 6400000 in
theorem bsimple {w0 : World} {br c : Nat} {A : Option Addr} {L : List PT} (ht : Toks w0 br A L) : BdOK 81 w0 br A c L := by
 intro j hj w h
 have H := qh (QG.start h)
 have HT := qh ht
 have BF := qh (bterm (c := c) ht)
 have N1 := qh (rnow_any ht (i := j) (by omega) w h)
 obtain ⟨k, p1, p2, q1, q2, t, n, e1, e2⟩ := val_form (tk L j)
 rw [e2] at N1
 clear e1 e2 h ht
 go_enter Try.func81, Try.ntmps81
 go_wp2_with fail
 ((with_reducible refine N1.out.mono ?_); rintro e w1 ⟨rfl, hb⟩)
 have H := qh (H.out.below hb)
 have H := qh (H.out.alloc (.cells #[.int .u8 k, .complex .f64 (fl p1) (fl p2), .complex .f64 (fl q1) (fl q2), .string t, .int .i64 n] 68))
 clear hb N1
 have hsz : (w1.alloc (.cells #[.int .u8 k, .complex .f64 (fl p1) (fl p2), .complex .f64 (fl q1) (fl q2), .string t, .int .i64 n] 68)).heap.size = w1.heap.size + 1 := World.size_alloc _ _
 have HA := qh (H.out.alloc (.cells #[.string ⟨#[43]⟩, .string ⟨#[45]⟩] 9))
 have IS := qh (show Calls Try.prog 82 #[.pointer (some ⟨br, 0, none⟩), .slice (some ⟨w1.heap.size + 1, 0, none⟩) 2 2] ((w1.alloc (.cells #[.int .u8 k, .complex .f64 (fl p1) (fl p2), .complex .f64 (fl q1) (fl q2), .string t, .int .i64 n] 68)).alloc (.cells #[.string ⟨#[43]⟩, .string ⟨#[45]⟩] 9)) fun e w' => e = .returned (.bool false) ∧ Below ((w1.alloc (.cells #[.int .u8 k, .complex .f64 (fl p1) (fl p2), .complex .f64 (fl q1) (fl q2), .string t, .int .i64 n] 68)).alloc (.cells #[.string ⟨#[43]⟩, .string ⟨#[45]⟩] 9)).heap.size ((w1.alloc (.cells #[.int .u8 k, .complex .f64 (fl p1) (fl p2), .complex .f64 (fl q1) (fl q2), .string t, .int .i64 n] 68)).alloc (.cells #[.string ⟨#[43]⟩, .string ⟨#[45]⟩] 9)) w' from hsz ▸ ris_any HT.out (by omega) _ HA.out.1 [sPlu, sMin] (by decide) (Lx.Blk.new (w1.alloc (.cells #[.int .u8 k, .complex .f64 (fl p1) (fl p2), .complex .f64 (fl q1) (fl q2), .string t, .int .i64 n] 68)) 9 #[.string ⟨#[43]⟩, .string ⟨#[45]⟩]))
 clear hsz
 go_wp2_with fail
 ((with_reducible refine IS.out.mono ?_); rintro e wi ⟨rfl, hb⟩)
 have H := qh (HA.out.below hb)
 clear hb IS HA
 go_wp2_with fail
 ((with_reducible refine ((BF.out).at_ hj _ H.out.1).mono ?_); rintro e wx ⟨p9, rfl, hp, hg⟩)
 have H := qh (H.out.trans ⟨hp, hg⟩)
 clear hp hg
 go_wp2_with fail
 go_loopw [5] (fun xv wr => ∃ p, xv = .pointer p ∧ Hid (QG w0 w wr br A c L j true)) (fun _ _ => 0)
 case atStart => exact ⟨_, rfl, H⟩
 case round =>
  clear H
  obtain ⟨p, rfl, H⟩ := hrel
  have HA := qh (H.out.alloc (.cells #[.string ⟨#[43]⟩, .string ⟨#[45]⟩, .string ⟨#[79, 82]⟩] 9))
  have IS := qh (show Calls Try.prog 82 #[.pointer (some ⟨br, 0, none⟩), .slice (some ⟨wr.heap.size, 0, none⟩) 3 3] (wr.alloc (.cells #[.string ⟨#[43]⟩, .string ⟨#[45]⟩, .string ⟨#[79, 82]⟩] 9)) fun e w' => e = .returned (.bool false) ∧ Below (wr.alloc (.cells #[.string ⟨#[43]⟩, .string ⟨#[45]⟩, .string ⟨#[79, 82]⟩] 9)).heap.size (wr.alloc (.cells #[.string ⟨#[43]⟩, .string ⟨#[45]⟩, .string ⟨#[79, 82]⟩] 9)) w' from ris_any HT.out (by omega) _ HA.out.1 (ops 1) (by decide) (Lx.Blk.new wr 9 #[.string ⟨#[43]⟩, .string ⟨#[45]⟩, .string ⟨#[79, 82]⟩]))
  go_wp2_with fail
  ((with_reducible refine IS.out.mono ?_); rintro e wi ⟨rfl, hb⟩)
  have H := qh (HA.out.below hb)
  clear hb IS HA
  go_wp2
  go_ret
  exact ⟨_, rfl, H.out.1, H.out.2⟩
set_option maxRecDepth 100000 in set_option maxHeartbeats 6400000 in
theorem bexpr {w0 : World} {br c : Nat} {A : Option Addr} {L : List PT} (ht : Toks w0 br A L) : BdOK 63 w0 br A c L := by
 intro j hj w h
 have H := qh (QG.start h)
 have HT := qh ht
 have BF := qh (bsimple (c := c) ht)
 clear h ht
 go_enter Try.func63, Try.ntmps63
 go_wp2_with fail
 ((with_reducible refine ((BF.out).at_ hj _ H.out.1).mono ?_); rintro e wx ⟨p9, rfl, hp, hg⟩)
 have H := qh (H.out.trans ⟨hp, hg⟩)
 clear hp hg
 have HA := qh (H.out.alloc (.cells #[.string ⟨#[61]⟩, .string ⟨#[35]⟩, .string ⟨#[60]⟩, .string ⟨#[60, 61]⟩, .string ⟨#[62]⟩, .string ⟨#[62, 61]⟩, .string ⟨#[73, 78]⟩] 9))
 have IS := qh (show Calls Try.prog 82 #[.pointer (some ⟨br, 0, none⟩), .slice (some ⟨wx.heap.size, 0, none⟩) 7 7] (wx.alloc (.cells #[.string ⟨#[61]⟩, .string ⟨#[35]⟩, .string ⟨#[60]⟩, .string ⟨#[60, 61]⟩, .string ⟨#[62]⟩, .string ⟨#[62, 61]⟩, .string ⟨#[73, 78]⟩] 9)) fun e w' => e = .returned (.bool false) ∧ Below (wx.alloc (.cells #[.string ⟨#[61]⟩, .string ⟨#[35]⟩, .string ⟨#[60]⟩, .string ⟨#[60, 61]⟩, .string ⟨#[62]⟩, .string ⟨#[62, 61]⟩, .string ⟨#[73, 78]⟩] 9)).heap.size (wx.alloc (.cells #[.string ⟨#[61]⟩, .string ⟨#[35]⟩, .string ⟨#[60]⟩, .string ⟨#[60, 61]⟩, .string ⟨#[62]⟩, .string ⟨#[62, 61]⟩, .string ⟨#[73, 78]⟩] 9)) w' from ris_any HT.out (by omega) _ HA.out.1 (ops 0) (by decide) (Lx.Blk.new wx 9 #[.string ⟨#[61]⟩, .string ⟨#[35]⟩, .string ⟨#[60]⟩, .string ⟨#[60, 61]⟩, .string ⟨#[62]⟩, .string ⟨#[62, 61]⟩, .string ⟨#[73, 78]⟩]))
 go_wp2_with fail
 ((with_reducible refine IS.out.mono ?_); rintro e wi ⟨rfl, hb⟩)
 have H := qh (HA.out.below hb)
 clear hb IS HA
 go_wp2
 go_ret
 exact ⟨_, rfl, H.out.1, H.out.2⟩
end Go.Proofs.Ytecmjhohniipoaa.Rs
end
