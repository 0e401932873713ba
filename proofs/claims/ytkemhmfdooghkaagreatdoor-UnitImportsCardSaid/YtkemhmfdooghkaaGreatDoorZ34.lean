/- A part of the proof: U5. -/
import Derived.Test.YtkemhmfdooghkaaGreatDoorZ1
import Derived.Test.YtkemhmfdooghkaaGreatDoorZ33
import Derived.Deep.AppendLies
import Derived.Deep.LoopGhost
set_option linter.unusedSimpArgs false
set_option linter.unusedVariables false

section
namespace Go.Proofs.YtkemhmfdooghkaaGreatDoor.St
open Go.RowKit
open Tr (Nd Fo RepS RepN Rep cellsN)
open Lx (Tk noTk Blk run_store_complexL TokAt)
open Fl
open Ex
attribute [local go_sem] run_store_complexL run_field1 run_field3
section
variable {α β γ : Type}
theorem bind_assoc (p : Par α) (q : α → Par β) (r : β → Par γ) : bindP (bindP p q) r = bindP p fun a => bindP (q a) r := by
 funext L i
 unfold bindP
 cases p L i with
 | error k => rfl
 | ok x => rfl
theorem need_bind (s : ByteArray) (p : Par α) (r : α → Par β) : bindP (needF s p) r = needF s (bindP p r) := by
 funext L i
 by_cases h : isT L i s = true
 ·rw [need_y h]; unfold bindP; rw [need_y h]
 ·rw [need_n (by simpa using h)]; unfold bindP; rw [need_n (by simpa using h)]
theorem tok_bind (t : PT → Bool) (A : PT → Par α) (B : Par α) (r : α → Par β) : bindP (tokP t A B) r = tokP t (fun x => bindP (A x) r) (bindP B r) := by
 funext L i
 cases h : t (tk L i) with
 | true => rw [tok_y h]; unfold bindP; rw [tok_y h]
 | false => rw [tok_n h]; unfold bindP; rw [tok_n h]
theorem ret_bind (a : α) (r : α → Par β) : bindP (retP a) r = r a := rfl
end
theorem ifs_step {g : Nat} {bd : Par T1} {Q : List T1 → Par T1} {f : Nat} {acc : List T1} : bindP (ifsF g bd (f + 1) acc) Q =
 bindP (exprF g) fun c => needF sThen (bindP bd fun b => tokP (tT sElsif) (fun _ => bindP (ifsF g bd f (acc ++ [c, b])) Q) (Q (acc ++ [c, b]))) := by
 simp only [ifsF, bind_assoc, need_bind, tok_bind, ret_bind]
theorem kg_ex {B0 B b : Nat} {w : World} {d : Nd} {sv : Value} {acc : List T1} {xs : List Value} (h : KG B0 B w b d sv acc xs) : ∃ sv xs, KG B0 B w b d sv acc xs := ⟨_, _, h⟩
theorem rep_keep {B0 b br : Nat} {sv : Value} {w w1 : World} {f : Fo} {vs : List Value} (h : RepS (fun y => B0 ≤ y ∧ y ≠ b ∧ sv.ownBlock ≠ some y) w f vs) (hg : w.grownBy w1 (some br)) (hbr : br < B0) : RepS (fun y => B0 ≤ y ∧ y ≠ b ∧ sv.ownBlock ≠ some y) w1 f vs :=
 h.keep hg.size (fun x hx hl => hg.block x hl (fun e => by injection e with e; have := hx.1; omega)) (fun _ h _ => h)
set_option maxRecDepth 100000 in set_option maxHeartbeats 6400000 in
theorem ifs_any {g : Nat} {w0 : World} {br c : Nat} {A : Option Addr} {L : List PT} (ht : TkS w0 br A L) (hg : L.length < g) {bd : Par T1} (hb2 : Good2 bd) {lo : Nat} (hB : SnOK 97 (fun j => bd L j) lo w0 br A c L) (i : Nat) (hlo : lo ≤ i) (hi : i ≤ L.length) (p1 p2 : Nat) (w : World) (h : PInv w0 w br A c L i) :
 Calls Tryz.prog 108 #[.pointer (some ⟨br, 0, none⟩), .complex .f64 (fl p1) (fl p2)] w (TreeR w.heap.size w0 w br A c L (ifS g bd (p1, p2) L i)) := by
 have MN := qh (fun j => g2_max (g2_endedF hb2) L j)
 have hbr0 := h.row.lt
 have hlen := ht.toks.len
 have H0 := qh h
 have H := qh (PG.start h)
 have HT := qh ht
 have ME := qh (fun j => g2_max (g2_expr (g := g)) L j)
 have MD := qh (fun j => g2_max (g2_design (g := g)) L j)
 have ML := qh (fun j => g2_max (g2_labels (g := g)) L j)
 have HE := qh (fun j hj w h => expr_s (c := c) ht hg j hj w h)
 have HD := qh (fun j hj w h => of_D (c := c) ht hg j hj w h)
 have HL := qh (fun j hj w h => of_L (c := c) ht hg j hj w h)
 have MB := qh (fun j => g2_max hb2 L j)
 have HB := qh hB
 have HN := qh (ended_any (c := c) ht hg hb2 hB)
 obtain ⟨res, hs0⟩ : ∃ r, r = ifS g bd (p1, p2) L i := ⟨_, rfl⟩
 rw [← hs0]
 have HS := qh hs0
 clear h ht hb2 hB hs0
 go_enter Tryz.func108, Tryz.ntmps108
 have NW := qh (new_0 (B0 := w.heap.size) (w := w) (Nat.le_refl _) 62 62 rfl p1 p2 sNil 0)
 obtain ⟨i0, hi0, hz0, hz1, hz2⟩ := info_parts infoN
 go_wp2_with fail
 ((with_reducible refine NW.out.mono ?_); rintro e wx ⟨b, sv0, xs0, rfl, hb, hk⟩)
 have H := qh (H.out.below hb)
 have HK := qh hk
 clear hb hk NW
 go_wp2_with fail
 go_loopw [] (fun wr => Hid (LK w0 w br A c L b ⟨62, (p1, p2), sNil, 0⟩ (fun acc j => ∃ f, lo ≤ j ∧ L.length < j + f ∧ res = bindP (ifsF g bd f acc) (fun l => elseS bd 62 (p1, p2) l) L j) wr)) (fun wr => L.length + 1 - atW wr br)
 case atStart => exact qh ⟨_, _, _, _, by omega, by simp only [List.length_nil]; omega, H.out, HK.out, g, by omega, by omega, HS.out⟩
 case round =>
  clear H HK HS
  obtain ⟨acc, sv, xs, j, hj, hac, hG_, hK_, f, hlj, hf, hS_⟩ := hrel.out
  obtain ⟨f, rfl⟩ : ∃ f', f = f' + 1 := ⟨f - 1, by omega⟩
  have H := qh hG_
  have HO := qh hG_
  have HK := qh hK_
  have HS := qh (show res = _ from hS_.trans (congrFun (congrFun ifs_step L) j))
  have hxl : xs.length ≤ 1000000 := by have := hK_.len; omega
  obtain ⟨wo, rfl⟩ : ∃ wo : World, wo = wr := ⟨_, rfl⟩
  clear hrel hG_ hK_ hS_
  have d1 : Calls _ _ _ _ (TreeR _ _ _ _ _ _ _ (exprF g L (j))) := HE.out (j) (by omega) _ H.out.1
  cases hx : exprF g L (j) with
  | error k9 =>
    rw [hx] at d1
    have D1 := qh d1
    have HS := qh (HS.out.trans (bind_err hx))
    clear d1 hx
    go_wp2_with fail
    ((with_reducible refine D1.out.mono ?_); rintro e w1 ⟨rfl, hb⟩)
    have H3 := qh (grown_trans H.out.2 hb)
    clear hb
    go_wp2
    refine ⟨rfl, ?_⟩
    rw [HS.out]
    exact ⟨rfl, H3.out⟩
  | ok r =>
    obtain ⟨x, j1⟩ := r
    rw [hx] at d1
    have D1 := qh d1
    have HS := qh (HS.out.trans (bind_ok hx))
    have hj1 := ME.out (j)
    rw [hx] at hj1
    simp only [posE] at hj1
    clear d1 hx
    go_wp2_with fail
    ((with_reducible refine D1.out.mono ?_); rintro e wx ⟨bx, rfl, hp, hgr, hr⟩)
    have HX := qh (HK.out.new hr (Nat.le_refl _))
    have HK := qh (HK.out.grown hgr hbr0 (Nat.le_refl _))
    have H := qh (H.out.trans ⟨hp, hgr⟩)
    clear hp hgr hr D1
    cases hT : isT L (j1) sThen with
    | false =>
      have D1 := qh (need_no HT.out.toks (i := j1) (by omega) sThen _ H.out.1 hT)
      have HS := qh (HS.out.trans (need_n hT))
      go_wp2_with fail
      ((with_reducible refine D1.out.mono ?_); rintro e w1 ⟨rfl, hb⟩)
      have H3 := qh (grown_trans H.out.2 hb)
      clear hb
      go_wp2
      refine ⟨rfl, ?_⟩
      rw [HS.out]
      exact ⟨rfl, H3.out⟩
    | true =>
      have hjn := isT_lt hT
      have D1 := qh (need_ok HT.out.toks (i := j1) (by omega) sThen _ H.out.1 hT)
      have HS := qh (HS.out.trans (need_y hT))
      clear hT
      go_wp2_with fail
      ((with_reducible refine (D1.out).mono ?_); rintro e wx ⟨rfl, hb⟩)
      have H := qh (H.out.trans hb)
      have HK := qh (HK.out.grown hb.2 hbr0 (Nat.le_refl _))
      have HX := qh (rep_keep HX.out hb.2 hbr0)
      clear hb
      clear D1
      have d1 : Calls _ _ _ _ (TreeR _ _ _ _ _ _ _ (bd L (j1 + 1))) := HB.out (j1 + 1) (by omega) (by omega) wx.drew (H.out.below ((Below.refl _ _).drew)).1
      cases hx : bd L (j1 + 1) with
      | error k9 =>
        rw [hx] at d1
        have D1 := qh d1
        have HS := qh (HS.out.trans (bind_err hx))
        clear d1 hx
        have HD_ := qh (H.out.below ((Below.refl _ _).drew))
        obtain ⟨m4, m4f, hbl4⟩ := HK.out.kn.facts
        have D1 := qh (D1.out.mono (R' := fun e w' => (∃ p, e = .returned (.pointer p) ∧ Hid False) ∨ (e = bad k9 ∧ wx.drew.grownBy w' (some br))) fun e w' h => .inr h)
        go_wp2
        go_region_law (first
         | (go_simp; go_at_call 97; (with_reducible refine D1.out.mono ?_); rintro e x (⟨p_, rfl, hF⟩ | ⟨rfl, hb⟩); (case' inr => (refine ⟨rfl, ?_⟩; rw [HS.out]; exact ⟨rfl, grown_trans HD_.out.2 hb⟩)); have t4 : x.cell? ⟨b, 4, none⟩ = some sv := hF.out.elim; have t4f : x.frozen? ⟨b, 4, none⟩ = false := hF.out.elim; have hbx : b < x.heap.size := hF.out.elim)
         | (refine step_append_lies _ (by rfl) _ _ _ (by rfl) w.heap.size 31 i0 _ 1 8 Tryz.underlying36 hi0 hz0 hz1 hz2 rfl (by omega) sv xs.length xs hF.out.elim hF.out.elim ⟨0, 0, none⟩ 2 2 [] hF.out.elim hF.out.elim hF.out.elim hF.out.elim (by omega) hF.out.elim hF.out.elim hF.out.elim 0 hF.out.elim ?_; intro g' cap w5 hown1 hgrow hor hlt5; have s4 : w5.cell? ⟨b, 4, none⟩ = some sv := hF.out.elim; have s4f : w5.frozen? ⟨b, 4, none⟩ = false := hF.out.elim; have hb5 : b < w5.heap.size := hF.out.elim; clear hown1 hgrow hor hlt5))
        all_goals exact hF.out.elim
      | ok r =>
        obtain ⟨y, j4⟩ := r
        rw [hx] at d1
        have D1 := qh d1
        have HS := qh (HS.out.trans (bind_ok hx))
        have hj4 := MB.out (j1 + 1)
        rw [hx] at hj4
        simp only [posE] at hj4
        clear d1 hx
        have HD_ := qh (H.out.below ((Below.refl _ _).drew))
        have HKD := qh (HK.out.below ((Below.refl _ _).drew))
        have HFD := qh (HX.out.below ((Below.refl _ _).drew))
        obtain ⟨m4, m4f, hbl4⟩ := HK.out.kn.facts
        go_wp2
        go_region_law (first
         | (go_simp; go_at_call 97; (with_reducible refine D1.out.mono ?_); rintro e x5 ⟨by_, rfl, hp, hgr, hr⟩; have HKX := qh (HKD.out.grown hgr hbr0 (Nat.le_refl _)); have HY := qh (HKD.out.new hr (Nat.le_refl _)); have HX_ := qh (HD_.out.trans ⟨hp, hgr⟩); have HF1 := qh (rep_keep HFD.out hgr hbr0); clear hp hgr hr; obtain ⟨t4, t4f, hbx⟩ := HKX.out.kn.facts; have Q := kid_facts (cs := #[.pointer (some ⟨bx, 0, none⟩), .pointer (some ⟨by_, 0, none⟩)]) x5.heap.size rfl (Nat.le_trans HKX.out.kn.low (Nat.le_of_lt hbx)) HKX.out.kn.own hxl (two_ptr (some ⟨bx, 0, none⟩) (some ⟨by_, 0, none⟩)) (by simp))
         | (refine step_append_lies _ (by rfl) _ _ _ (by rfl) w.heap.size 31 i0 _ 1 8 Tryz.underlying36 hi0 hz0 hz1 hz2 rfl (by omega) sv xs.length xs (by rfl) Q.out.2.2.2.2 ⟨x5.heap.size, 0, none⟩ 2 2 #[.pointer (some ⟨bx, 0, none⟩), .pointer (some ⟨by_, 0, none⟩)].toList (by rfl) (by rfl) Q.out.1 Q.out.2.1 (by omega) Q.out.2.2.1 (by omega) Q.out.2.2.2.1 (x5.heap.size + 1) (by simp) ?_; intro g' cap w5 hown1 hgrow hor hlt5; obtain ⟨s4, s4f, hb5⟩ := KN.after (HKX.out.kn.below ((Below.refl _ _).alloc (Nat.le_refl _) _)) hgrow; have K2 := qh (KG.steps (l := [x, y]) (HKX.out.below ((Below.refl _ _).alloc (Nat.le_refl _) _)) (repS_cons (HF1.out.below ((Below.refl _ _).alloc (Nat.le_refl _) _)) (HY.out.below ((Below.refl _ _).alloc (Nat.le_refl _) _))) rfl rfl hown1 hgrow (hor.imp id fun e => e.trans (World.size_alloc _ _).symm)); have H2 := qh (PG.hung HX_.out H0.out _ hgrow (fun k e => (HKX.out.kn.own.lt _ e).1) (u := .slice (some ⟨g', 0, none⟩) (xs.length + 2) cap) HKX.out.kn.low); clear hown1 hgrow hor hlt5))
        all_goals
         have H := H2
         have HK := K2
         clear H2 K2
         have hm1 := HO.out.1.atw
         clear HO HX
         cases hT : isT L j4 sElsif with
         | false =>
           have D1 := qh (eat_no HT.out.toks (i := j4) (by omega) sElsif _ H.out.1 hT)
           have HS := qh (HS.out.trans (tok_n hT))
           clear hT
           go_wp2_with fail
           ((with_reducible refine (D1.out).mono ?_); rintro e wx ⟨rfl, hb⟩)
           have H := qh (H.out.trans hb)
           have HK := qh (HK.out.grown hb.2 hbr0 (Nat.le_refl _))
           clear hb
           clear D1
           obtain ⟨sv2, xs2, hk2⟩ := kg_ex HK.out
           have hxl : xs2.length ≤ 1000000 := by have := hk2.len; simp only [List.length_append, List.length_cons, List.length_nil] at this; omega
           have HK := qh hk2
           clear hk2
           cases hT : isT L (j4) sElse with
           | false =>
             have D1 := qh (eat_no HT.out.toks (i := j4) (by omega) sElse _ H.out.1 hT)
             have HS := qh (HS.out.trans (tok_n hT))
             clear hT
             go_wp2_with fail
             ((with_reducible refine (D1.out).mono ?_); rintro e wx ⟨rfl, hb⟩)
             have H := qh (H.out.trans hb)
             have HK := qh (HK.out.grown hb.2 hbr0 (Nat.le_refl _))
             clear hb
             clear D1
             cases hT : isT L (j4) sEnd with
             | false =>
               have D1 := qh (need_no HT.out.toks (i := j4) (by omega) sEnd _ H.out.1 hT)
               have HS := qh (HS.out.trans (need_n hT))
               go_wp2_with fail
               ((with_reducible refine D1.out.mono ?_); rintro e w1 ⟨rfl, hb⟩)
               have H3 := qh (grown_trans H.out.2 hb)
               clear hb
               go_wp2
               refine ⟨rfl, ?_⟩
               rw [HS.out]
               exact ⟨rfl, H3.out⟩
             | true =>
               have hjn := isT_lt hT
               have D1 := qh (need_ok HT.out.toks (i := j4) (by omega) sEnd _ H.out.1 hT)
               have HS := qh (HS.out.trans (need_y hT))
               clear hT
               go_wp2_with fail
               ((with_reducible refine (D1.out).mono ?_); rintro e wx ⟨rfl, hb⟩)
               have H := qh (H.out.trans hb)
               have HK := qh (HK.out.grown hb.2 hbr0 (Nat.le_refl _))
               clear hb
               clear D1
               have HS := qh (HS.out.trans ret_)
               go_wp2
               go_ret
               rw [HS.out]
               exact ⟨b, rfl, H.out.1, H.out.2, HK.out.done (Nat.le_refl _)⟩
           | true =>
             have hjn := isT_lt hT
             have D1 := qh (eat_yes HT.out.toks (i := j4) (by omega) sElse _ H.out.1 hT)
             have HS := qh (HS.out.trans (tok_y hT))
             clear hT
             go_wp2_with fail
             ((with_reducible refine (D1.out).mono ?_); rintro e wx ⟨rfl, hb⟩)
             have H := qh (H.out.trans hb)
             have HK := qh (HK.out.grown hb.2 hbr0 (Nat.le_refl _))
             clear hb
             clear D1
             have d1 : Calls _ _ _ _ (TreeR _ _ _ _ _ _ _ (bd L (j4 + 1))) := HB.out (j4 + 1) (by omega) (by omega) wx.drew (H.out.below ((Below.refl _ _).drew)).1
             cases hx : bd L (j4 + 1) with
             | error k9 =>
               rw [hx] at d1
               have D1 := qh d1
               have HS := qh (HS.out.trans (bind_err hx))
               clear d1 hx
               have HD_ := qh (H.out.below ((Below.refl _ _).drew))
               obtain ⟨m4, m4f, hbl4⟩ := HK.out.kn.facts
               have D1 := qh (D1.out.mono (R' := fun e w' => (∃ p, e = .returned (.pointer p) ∧ Hid False) ∨ (e = bad k9 ∧ wx.drew.grownBy w' (some br))) fun e w' h => .inr h)
               go_wp2
               go_region_law (first
                | (go_simp; go_at_call 97; (with_reducible refine D1.out.mono ?_); rintro e x (⟨p_, rfl, hF⟩ | ⟨rfl, hb⟩); (case' inr => (refine ⟨rfl, ?_⟩; rw [HS.out]; exact ⟨rfl, grown_trans HD_.out.2 hb⟩)); have t4 : x.cell? ⟨b, 4, none⟩ = some sv2 := hF.out.elim; have t4f : x.frozen? ⟨b, 4, none⟩ = false := hF.out.elim; have hbx : b < x.heap.size := hF.out.elim)
                | (refine step_append_lies _ (by rfl) _ _ _ (by rfl) w.heap.size 31 i0 _ 1 8 Tryz.underlying36 hi0 hz0 hz1 hz2 rfl (by omega) sv2 xs2.length xs2 hF.out.elim hF.out.elim ⟨0, 0, none⟩ 1 1 [] hF.out.elim hF.out.elim hF.out.elim hF.out.elim (by omega) hF.out.elim hF.out.elim hF.out.elim 0 hF.out.elim ?_; intro g' cap w5 hown1 hgrow hor hlt5; have s4 : w5.cell? ⟨b, 4, none⟩ = some sv2 := hF.out.elim; have s4f : w5.frozen? ⟨b, 4, none⟩ = false := hF.out.elim; have hb5 : b < w5.heap.size := hF.out.elim; clear hown1 hgrow hor hlt5))
               all_goals exact hF.out.elim
             | ok r =>
               obtain ⟨y2, j5⟩ := r
               rw [hx] at d1
               have D1 := qh d1
               have HS := qh (HS.out.trans (bind_ok hx))
               have hj5 := MB.out (j4 + 1)
               rw [hx] at hj5
               simp only [posE] at hj5
               clear d1 hx
               have HD_ := qh (H.out.below ((Below.refl _ _).drew))
               have HKD := qh (HK.out.below ((Below.refl _ _).drew))
               obtain ⟨m4, m4f, hbl4⟩ := HK.out.kn.facts
               go_wp2
               go_region_law (first
                | (go_simp; go_at_call 97; (with_reducible refine D1.out.mono ?_); rintro e x5 ⟨by_, rfl, hp, hgr, hr⟩; have HKX := qh (HKD.out.grown hgr hbr0 (Nat.le_refl _)); have HY := qh (HKD.out.new hr (Nat.le_refl _)); have HX_ := qh (HD_.out.trans ⟨hp, hgr⟩); clear hp hgr hr; obtain ⟨t4, t4f, hbx⟩ := HKX.out.kn.facts; have Q := kid_facts (cs := #[.pointer (some ⟨by_, 0, none⟩)]) x5.heap.size rfl (Nat.le_trans HKX.out.kn.low (Nat.le_of_lt hbx)) HKX.out.kn.own hxl (one_ptr (some ⟨by_, 0, none⟩)) (by simp))
                | (refine step_append_lies _ (by rfl) _ _ _ (by rfl) w.heap.size 31 i0 _ 1 8 Tryz.underlying36 hi0 hz0 hz1 hz2 rfl (by omega) sv2 xs2.length xs2 (by rfl) Q.out.2.2.2.2 ⟨x5.heap.size, 0, none⟩ 1 1 #[.pointer (some ⟨by_, 0, none⟩)].toList (by rfl) (by rfl) Q.out.1 Q.out.2.1 (by omega) Q.out.2.2.1 (by omega) Q.out.2.2.2.1 (x5.heap.size + 1) (by simp) ?_; intro g' cap w5 hown1 hgrow hor hlt5; obtain ⟨s4, s4f, hb5⟩ := KN.after (HKX.out.kn.below ((Below.refl _ _).alloc (Nat.le_refl _) _)) hgrow; have K2 := qh (KG.steps (l := [y2]) (HKX.out.below ((Below.refl _ _).alloc (Nat.le_refl _) _)) (HY.out.below ((Below.refl _ _).alloc (Nat.le_refl _) _)) rfl rfl hown1 hgrow (hor.imp id fun e => e.trans (World.size_alloc _ _).symm)); have H2 := qh (PG.hung HX_.out H0.out _ hgrow (fun k e => (HKX.out.kn.own.lt _ e).1) (u := .slice (some ⟨g', 0, none⟩) (xs2.length + 1) cap) HKX.out.kn.low); clear hown1 hgrow hor hlt5))
               all_goals
                have H := H2
                have HK := K2
                clear H2 K2
                cases hT : isT L (j5) sEnd with
                | false =>
                  have D1 := qh (need_no HT.out.toks (i := j5) (by omega) sEnd _ H.out.1 hT)
                  have HS := qh (HS.out.trans (need_n hT))
                  go_wp2_with fail
                  ((with_reducible refine D1.out.mono ?_); rintro e w1 ⟨rfl, hb⟩)
                  have H3 := qh (grown_trans H.out.2 hb)
                  clear hb
                  go_wp2
                  refine ⟨rfl, ?_⟩
                  rw [HS.out]
                  exact ⟨rfl, H3.out⟩
                | true =>
                  have hjn := isT_lt hT
                  have D1 := qh (need_ok HT.out.toks (i := j5) (by omega) sEnd _ H.out.1 hT)
                  have HS := qh (HS.out.trans (need_y hT))
                  clear hT
                  go_wp2_with fail
                  ((with_reducible refine (D1.out).mono ?_); rintro e wx ⟨rfl, hb⟩)
                  have H := qh (H.out.trans hb)
                  have HK := qh (HK.out.grown hb.2 hbr0 (Nat.le_refl _))
                  clear hb
                  clear D1
                  have HS := qh (HS.out.trans ret_)
                  go_wp2
                  go_ret
                  rw [HS.out]
                  exact ⟨b, rfl, H.out.1, H.out.2, HK.out.done (Nat.le_refl _)⟩
         | true =>
           have hjn := isT_lt hT
           have D1 := qh (eat_yes HT.out.toks (i := j4) (by omega) sElsif _ H.out.1 hT)
           have HS := qh (HS.out.trans (tok_y hT))
           clear hT
           go_wp2_with fail
           ((with_reducible refine (D1.out).mono ?_); rintro e wx ⟨rfl, hb⟩)
           have H := qh (H.out.trans hb)
           have HK := qh (HK.out.grown hb.2 hbr0 (Nat.le_refl _))
           clear hb
           clear D1
           have hm2 := H.out.1.atw
           go_wp2
           go_roundw
           case rel => exact qh ⟨_, _, _, _, by omega, by rw [List.length_append]; simp only [List.length_cons, List.length_nil] at hac ⊢; omega, H.out, HK.out, f, by omega, by omega, HS.out⟩
           case measure => rw [hm2, hm1]; omega
end Go.Proofs.YtkemhmfdooghkaaGreatDoor.St
end
