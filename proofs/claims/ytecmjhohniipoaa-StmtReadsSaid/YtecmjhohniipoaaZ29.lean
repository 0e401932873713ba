/- A part of the proof: V4. -/
import Derived.Test.YtecmjhohniipoaaZ1
import Derived.Test.YtecmjhohniipoaaZ28
import Derived.Deep.Cut
import Derived.Deep.CutBlock
import Derived.Deep.CutRange
import Derived.Deep.AppendLies
import Derived.Deep.LoopGhost
set_option linter.unusedSimpArgs false
set_option linter.unusedVariables false

section
namespace Go.Proofs.Ytecmjhohniipoaa.Rs
open Go.RowKit
open Tr (Nd Fo RepS RepN Rep cellsN)
open Lx (Tk noTk Blk run_store_complexL TokAt)
open Fl
open Ex
attribute [local go_sem] run_store_complexL run_field1 run_field3 St.run_field0
open St (sSem sAsg sCol sBar sIf sThen sElsif sElse sEnd sCase sOf sWhile sDo sRepeat sUntil sLoop sExit sFor sTo sBy sWith sReturn isWd6 whileS repS loopS exitS withS endS ifS ifsF elseS caseS armsF armOut forS forE returnS retOut plainS bodyR bodyG stmS stmL alts)
set_option maxRecDepth 100000 in set_option maxHeartbeats 6400000 in
theorem rst_name {g : Nat} {w0 : World} {br c : Nat} {A : Option Addr} {L : List PT} (ht : Toks w0 br A L) (ok : OKRow L) (hg : L.length < g) {bd : Par T1} (hb2 : St.Good2 bd) {lo : Nat} (hB : UnOK 18 bd (lo + 1) w0 br A c L) (i : Nat) (hlo : lo ≤ i) (hi : i ≤ 60000) (w : World) (h : QInv w0 w br A c L i false) (hk1 : (tk L i).1.kind = 1) :
 Calls Try.prog 42 #[.pointer (some ⟨br, 0, none⟩)] w (RefU w.heap.size w0 w br A c L (plainS g L i)) := by
 have hbr0 := h.row.lt
 have hlen := ht.len
 have H0 := qh h
 have H := qh (QG.start h)
 have HT := qh ht
 have HOK := qh ok
 have HG2 := qh hb2
 have UE := qh ((un_of (c := c) (rexpr_all ht ok) (fun j => expr_fuel hg j) (bexpr ht)).mono (Nat.zero_le (lo + 1)))
 have UB := qh hB
 obtain ⟨i0, hi0, hz0, hz1, hz2⟩ := info_parts infoN
 have hil : i < L.length := by
  rcases Nat.lt_or_ge i L.length with h | h
  ·exact h
  ·rw [kind_end h] at hk1; cases hk1
 have HD0 := qh (fun (w : World) (h : QInv w0 w br A c L i false) => (rdesign_all (c := c) ht ok i (Nat.zero_le _) (by omega) w h).mono fun e w' h => (designE_fuel hg i) ▸ refU h)
 have UA := qh (fun (j : Nat) (hj : j ≤ 60000) (W : World) (hW : QInv w0 W br A c L j false) (hP : isT L j sPar = true) => (show betweenP L (exprP L) sRap (j + 1) = betweenF (exprF g) g sRap L (j + 1) from between_fuel (strict_exprF g) (lo := 0) (fun j _ => expr_fuel hg j) hg sRap (Nat.zero_le _)) ▸ rargs_any (good_exprF g) (c := c) ht ok (fun j => expr_fuel hg j) (rexpr_all ht ok) exprP_ok j (Nat.zero_le _) hj W hW hP)
 have N1 := rnow_any ht (i := i) (by omega) w h
 have HRN := qh (fun (j : Nat) (b : Bool) (hj : j ≤ 60000) (w : World) (h : QInv w0 w br A c L j b) => rnow_any ht (i := j) (by omega) w h)
 obtain ⟨k, p1, p2, q1, q2, t, n, e1, e2⟩ := val_form (tk L i)
 rw [e2] at N1
 have N1 := qh N1
 have HKN := qh hk1
 obtain ⟨res, hs0⟩ : ∃ r, r = plainS g L i := ⟨_, rfl⟩
 rw [← hs0]
 obtain ⟨R1, hR1⟩ : ∃ R1, R1 = designF (exprF g) g L i := ⟨_, rfl⟩
 have HD1 := qh (fun w h => hR1 ▸ HD0.out w h)
 have HBR := qh (show Bd (lo + 1) 60000 R1 by
  have h1 := St.g2_max (St.g2_design (g := g)) L i
  rw [hR1]
  refine ⟨fun e => ?_, ?_⟩
  ·cases e2 : designF (exprF g) g L i with
   | error k => rw [e2] at e; cases e
   | ok r =>
     obtain ⟨x, j⟩ := r
     have := strict_designF (good_exprF g) g L i x j e2
     show lo + 1 ≤ j
     omega
  ·have := h1.2.1 (by omega); omega)
 have HS := qh (show res = andK R1 (fun d => posP fun t1 => tokP (tT sAsg) (fun _ => bindP (exprF g) fun y => retP (mk 60 t1.2.1 sNil 0 [d, y])) (tokP (tT sPar) (fun _ => bindP (betweenF (exprF g) g sRap) fun l => retP (mk 61 (p1, p2) sNil 0 (d :: l))) (retP (mk 61 (p1, p2) sNil 0 [d])))) L by
  rw [hs0, hR1, ← and_bind]
  show bindP (designF (exprF g) g) (fun d => posP fun t1 => tokP (tT sAsg) (fun _ => bindP (exprF g) fun y => retP (mk 60 t1.2.1 sNil 0 [d, y])) (tokP (tT sPar) (fun _ => bindP (betweenF (exprF g) g sRap) fun l => retP (mk 61 (tk L i).2.1 sNil 0 (d :: l))) (retP (mk 61 (tk L i).2.1 sNil 0 [d])))) L i = _
  rw [show (tk L i).2.1 = (p1, p2) by rw [e1]])
 clear h ht ok hb2 hB e1 e2 hk1 hs0 hR1 HD0
 go_enter Try.func42, Try.ntmps42
 go_wp2_with fail
 ((with_reducible refine N1.out.mono ?_); rintro e wx ⟨rfl, hb⟩)
 have H := qh (H.out.below hb)
 clear hb N1
 have EW := qh (reatwT_no HT.out (i := i) (by omega) sIf _ HOK.out (by decide) H.out.1 (isT_nk HKN.out))
 go_wp2_with fail
 ((with_reducible refine EW.out.mono ?_); rintro e wx ⟨rfl, hb⟩)
 have H := qh (H.out.trans hb)
 clear hb EW
 have EW := qh (reatwT_no HT.out (i := i) (by omega) sCase _ HOK.out (by decide) H.out.1 (isT_nk HKN.out))
 go_wp2_with fail
 ((with_reducible refine EW.out.mono ?_); rintro e wx ⟨rfl, hb⟩)
 have H := qh (H.out.trans hb)
 clear hb EW
 have EW := qh (reatwT_no HT.out (i := i) (by omega) sWhile _ HOK.out (by decide) H.out.1 (isT_nk HKN.out))
 go_wp2_with fail
 ((with_reducible refine EW.out.mono ?_); rintro e wx ⟨rfl, hb⟩)
 have H := qh (H.out.trans hb)
 clear hb EW
 have EW := qh (reatwT_no HT.out (i := i) (by omega) sRepeat _ HOK.out (by decide) H.out.1 (isT_nk HKN.out))
 go_wp2_with fail
 ((with_reducible refine EW.out.mono ?_); rintro e wx ⟨rfl, hb⟩)
 have H := qh (H.out.trans hb)
 clear hb EW
 have EW := qh (reatwT_no HT.out (i := i) (by omega) sLoop _ HOK.out (by decide) H.out.1 (isT_nk HKN.out))
 go_wp2_with fail
 ((with_reducible refine EW.out.mono ?_); rintro e wx ⟨rfl, hb⟩)
 have H := qh (H.out.trans hb)
 clear hb EW
 have EW := qh (reatwT_no HT.out (i := i) (by omega) sExit _ HOK.out (by decide) H.out.1 (isT_nk HKN.out))
 go_wp2_with fail
 ((with_reducible refine EW.out.mono ?_); rintro e wx ⟨rfl, hb⟩)
 have H := qh (H.out.trans hb)
 clear hb EW
 have EW := qh (reatwT_no HT.out (i := i) (by omega) sFor _ HOK.out (by decide) H.out.1 (isT_nk HKN.out))
 go_wp2_with fail
 ((with_reducible refine EW.out.mono ?_); rintro e wx ⟨rfl, hb⟩)
 have H := qh (H.out.trans hb)
 clear hb EW
 have EW := qh (reatwT_no HT.out (i := i) (by omega) sWith _ HOK.out (by decide) H.out.1 (isT_nk HKN.out))
 go_wp2_with fail
 ((with_reducible refine EW.out.mono ?_); rintro e wx ⟨rfl, hb⟩)
 have H := qh (H.out.trans hb)
 clear hb EW
 have EW := qh (reatwT_no HT.out (i := i) (by omega) sReturn _ HOK.out (by decide) H.out.1 (isT_nk HKN.out))
 go_wp2_with fail
 ((with_reducible refine EW.out.mono ?_); rintro e wx ⟨rfl, hb⟩)
 have H := qh (H.out.trans hb)
 clear hb EW
 have D1 := qh (HD1.out wx H.out.1)
 go_wp2_with fail
 ((with_reducible refine D1.out.mono ?_); rintro e wd ⟨p9, rfl, hp, hg, hr⟩)
 have HR := qh (fun x j e => (hr x j e).more (S' := fun y => w.heap.size ≤ y) fun y hy _ => Nat.le_trans H.out.2.size hy)
 replace H := qh (H.out.trans ⟨hp, hg⟩)
 clear hp hg hr D1 HD1
 have n2 := HRN.out (posE R1) (badE R1) HBR.out.hi wd H.out.1
 obtain ⟨k8, r1, r2, s1, s2, t8, n8, e1, e2⟩ := val_form (tk L (posE R1))
 rw [e2] at n2
 have N2 := qh n2
 have HS2 := qh (HS.out.trans and_pos)
 replace HS := qh (show res = andK R1 (fun d => tokP (tT sAsg) ((fun d _ => bindP (exprF g) fun y => retP (mk 60 (r1, r2) sNil 0 [d, y])) d) ((fun d => tokP (tT sPar) (fun _ => bindP (betweenF (exprF g) g sRap) fun l => retP (mk 61 (p1, p2) sNil 0 (d :: l))) (retP (mk 61 (p1, p2) sNil 0 [d]))) d)) L by rw [HS2.out, show (tk L (posE R1)).2.1 = (r1, r2) by rw [e1]])
 clear n2 e1 e2 HS2
 go_wp2_with fail
 ((with_reducible refine N2.out.mono ?_); rintro e wx ⟨rfl, hb⟩)
 replace H := qh (H.out.below hb)
 replace HR := qh (fun x j e => (HR.out x j e).below hb)
 clear hb N2
 have hpk := HBR.out.hi
 cases hE : eatK R1 sAsg L with
 | false =>
   have EA := qh (ueat_no HT.out HOK.out (K := R1) (by omega) sAsg _ H.out.1 (by decide) hE)
   replace HS := qh (show res = andK R1 (fun d => tokP (tT sPar) (fun _ => bindP (betweenF (exprF g) g sRap) fun l => retP (mk 61 (p1, p2) sNil 0 (d :: l))) (retP (mk 61 (p1, p2) sNil 0 [d]))) L from HS.out.trans (and_eat_no (A := (fun d _ => bindP (exprF g) fun y => retP (mk 60 (r1, r2) sNil 0 [d, y]))) (B := (fun d => tokP (tT sPar) (fun _ => bindP (betweenF (exprF g) g sRap) fun l => retP (mk 61 (p1, p2) sNil 0 (d :: l))) (retP (mk 61 (p1, p2) sNil 0 [d])))) hE))
   clear hE
   go_wp2_with fail
   ((with_reducible refine EA.out.mono ?_); rintro e wx ⟨rfl, hb⟩)
   replace H := qh (H.out.trans hb)
   replace HR := qh (fun x j e => repS_grown (HR.out x j e) hb.2 hbr0)
   clear hb EA
   have NW := qh (node7 (B := w.heap.size) (w := wx) H.out.2.size 61 61 rfl p1 p2)
   have HRl := qh (fun x j e => ((HR.out x j e).more (S' := fun y => w.heap.size ≤ y ∧ y < wx.heap.size) fun y hy hl => ⟨hy, hl⟩))
   go_wp2_with fail
   ((with_reducible refine NW.out.mono ?_); rintro e wn ⟨b, rfl, hb, hk, hbl⟩)
   replace HR := qh (KU.old (fun x j e => (HRl.out x j e).below hb) hbl)
   replace H := qh (H.out.below hb)
   have HK := qh (KU.start (j := 0) hk)
   clear hb hk NW hbl HRl
   obtain ⟨m4, m4f, hbl4⟩ := HK.out.kn.facts
   obtain ⟨K, hK⟩ : ∃ K, K = pushK (.ok (([] : List T1), 0)) R1 := ⟨_, rfl⟩
   have HK9 := qh hK
   have Q := kid_facts (p := p9) wn.heap.size rfl (Nat.le_trans HK.out.kn.low (Nat.le_of_lt hbl4)) HK.out.kn.own (by simp)
   clear hK
   go_upto_region 45 with fail
   go_cut [] from 237 to 246 (fun wc => Hid (QG w0 w wc br A c L (posE K) (badE K) ∧ ∃ svc xsc, KU w.heap.size wc b ⟨61, (p1, p2), sNil, 0⟩ svc K xsc ∧ xsc.length ≤ 1))
   case first =>
    go_wp2_with (at_builtin; refine wpList_append_lies _ rfl _ _ _ rfl w.heap.size 26 i0 _ 1 8 Try.underlying40 hi0 hz0 hz1 hz2 rfl (by omega) (.slice none 0 0) 0 [] rfl Q.out.2.2.2.2 ⟨wn.heap.size, 0, none⟩ 1 1 [.pointer p9] rfl rfl Q.out.1 Q.out.2.1 (by omega) Q.out.2.2.1 (by omega) Q.out.2.2.2.1 (wn.heap.size + 1) (by rw [World.size_alloc]) ?_; intro g' cap w5 hown1 hgrow hor hlt5; obtain ⟨s4, s4f, hb5⟩ := KN.after (HK.out.kn.below ((Below.refl _ _).alloc (Nat.le_refl _) _)) hgrow; have K2 := qh (KU.step (HK.out.below ((Below.refl _ _).alloc (Nat.le_refl _) _)) (fun x j e => (HR.out x j e).below ((Below.refl _ _).alloc (Nat.le_refl _) _)) hown1 hgrow (hor.imp id fun e => e.trans (World.size_alloc _ _).symm)); have H2 := qh (QG.hung H.out H0.out _ hgrow (fun k e => (HK.out.kn.own.lt _ e).1) (u := .slice (some ⟨g', 0, none⟩) (0 + 1) cap) HK.out.kn.low); clear hown1 hgrow hor hlt5)
    go_meet
    exact qh ⟨(by rw [HK9.out, pos_push0.1, pos_push0.2]; exact H2.out), _, _, (by rw [HK9.out]; exact K2.out), (by simp)⟩
   case rest =>
    obtain ⟨hc1, svc, xsc, hc2, hxl⟩ := hcut.out
    clear HK H hcut Q m4 m4f hbl4 HR
    have H := qh hc1
    have HK := qh hc2
    clear hc1 hc2
    have HS9 := qh (show res = andK K (fun a => tokP (tT sPar) (fun _ => bindP (betweenF (exprF g) g sRap) fun l => retP (mk 61 (p1, p2) sNil 0 (a ++ l))) (retP (mk 61 (p1, p2) sNil 0 a))) L by rw [HS.out, HK9.out]; rcases R1 with k | ⟨x, j⟩ <;> rfl)
    have HBD := qh (show Bd (lo + 1) 60000 K by rw [HK9.out]; exact ⟨(fun e => by rw [pos_push0.1]; exact HBR.out.lo (by rw [← pos_push0.2]; exact e)), by rw [pos_push0.1]; exact HBR.out.hi⟩)
    have hpk2 := HBD.out.hi
    clear HS HK9 hpk HBR
    have SY := qh (usym HT.out HOK.out (K := K) (by omega) sPar _ H.out.1 (by decide))
    go_wp2_with fail
    ((with_reducible refine SY.out.mono ?_); rintro e wx ⟨rfl, hb⟩)
    replace H := qh (H.out.below hb)
    replace HK := qh (HK.out.below hb)
    clear hb SY
    cases hE : eatK K sPar L with
    | false =>
      have HS := qh (show res = andK K (fun a => retP (mk 61 (p1, p2) sNil 0 a)) L from HS9.out.trans (and_eat_no (A := fun a _ => bindP (betweenF (exprF g) g sRap) fun l => retP (mk 61 (p1, p2) sNil 0 (a ++ l))) (B := fun a => retP (mk 61 (p1, p2) sNil 0 a)) hE))
      clear hE
      go_wp2
      go_ret
      exact HK.out.done H.out HS.out
    | true =>
      rcases K with k | ⟨acc, j⟩
      case' error => cases hE
      have hj6 : j ≤ 60000 := hpk2
      have HP := qh (show isT L j sPar = true from hE)
      have hKG := HK.out.good acc j rfl
      have HKG := qh hKG
      have D1 := UA.out j hj6 wx H.out.1 hE
      have HS := qh (show res = andK (betweenF (exprF g) g sRap L (j + 1)) (fun l => retP (mk 61 (p1, p2) sNil 0 (acc ++ l))) L by
       rw [HS9.out]
       show tokP (tT sPar) (fun _ => bindP (betweenF (exprF g) g sRap) fun l => retP (mk 61 (p1, p2) sNil 0 (acc ++ l))) (retP (mk 61 (p1, p2) sNil 0 acc)) L j = _
       rw [St.tok_y (t := tT sPar) hE, and_bind])
      clear hE hKG HK HS9 HBD hpk2
      cases hy : betweenF (exprF g) g sRap L (j + 1) with
      | error k9 =>
        rw [hy] at D1
        have D1 := qh D1
        replace HS := qh (show res = .error k9 by rw [HS.out, hy]; rfl)
        clear hy
        go_wp2_with fail
        ((with_reducible refine D1.out.mono ?_); rintro e wl ⟨A', c', vs, rfl, hp, hg, hld⟩)
        have HKX := qh (HKG.out.kn.grown hg hbr0)
        replace H := qh (H.out.trans ⟨hp, hg⟩)
        have RD := qh hld
        clear hp hg hld D1 HKG
        obtain ⟨t4, t4f, hbx⟩ := HKX.out.facts
        go_wp2_with (at_builtin; refine wpList_app _ rfl _ _ _ rfl w.heap.size 26 i0 _ 1 8 Try.underlying40 hi0 hz0 hz1 hz2 rfl (by omega) svc xsc.length xsc rfl HKX.out.own _ A' vs.length c' vs rfl RD.out.reads RD.out.one (by have := RD.out.few; unfold maxLen; omega) (by have := RD.out.few; omega) (by have := H.out.2.size; omega) ?_; intro A2 c2 w5 hown hgk; obtain ⟨s4, s4f, hb5⟩ := KN.after HKX.out hgk; have H2 := qh ((H.out.gfar H0.out hgk (fun k e => (HKX.out.own.lt _ e).1)).far H0.out HKX.out.low 4 (.slice A2 (xsc.length + vs.length) c2)); clear hown hgk)
        go_wp2
        go_ret
        rw [HS.out]
        exact ⟨_, rfl, H2.out.1, H2.out.2, (fun x j e => by cases e)⟩
      | ok r =>
        obtain ⟨l, j2⟩ := r
        rw [hy] at D1
        have D1 := qh D1
        replace HS := qh (show res = .ok (mk 61 (p1, p2) sNil 0 (acc ++ l), j2) by rw [HS.out, hy]; rfl)
        clear hy
        go_wp2_with fail
        ((with_reducible refine D1.out.mono ?_); rintro e wl ⟨A', c', vs, rfl, hp, hg, hld, hr, hvl⟩)
        have HY := qh (HKG.out.new hr (Nat.le_refl _))
        have HKX := qh (HKG.out.grown hg hbr0 (Nat.le_refl _))
        replace H := qh (H.out.trans ⟨hp, hg⟩)
        have RD := qh hld
        clear hp hg hld hr hvl D1 HKG
        obtain ⟨t4, t4f, hbx⟩ := HKX.out.kn.facts
        go_wp2_with (at_builtin; refine wpList_app _ rfl _ _ _ rfl w.heap.size 26 i0 _ 1 8 Try.underlying40 hi0 hz0 hz1 hz2 rfl (by omega) svc xsc.length xsc rfl HKX.out.kn.own _ A' vs.length c' vs rfl RD.out.reads RD.out.one (by have := RD.out.few; unfold maxLen; omega) (by have := RD.out.few; omega) (by have := H.out.2.size; omega) ?_; intro A2 c2 w5 hown hgk; obtain ⟨s4, s4f, hb5⟩ := KN.after HKX.out.kn hgk; have K2 := qh (KG.app HKX.out HY.out rfl hown hgk); have H2 := qh ((H.out.gfar H0.out hgk (fun k e => (HKX.out.kn.own.lt _ e).1)).far H0.out HKX.out.kn.low 4 (.slice A2 (xsc.length + vs.length) c2)); clear hown hgk)
        go_wp2
        go_ret
        rw [HS.out]
        exact ⟨_, rfl, H2.out.1, H2.out.2, (fun x j e => by cases e; exact K2.out)⟩
 | true =>
   have EA := qh (ueat_yes HT.out HOK.out (K := R1) (by omega) sAsg _ H.out.1 (by decide) hE)
   obtain ⟨RA, hRA⟩ : ∃ RA, RA = advK R1 := ⟨_, rfl⟩
   replace HS := qh (show res = andK RA (fun d => bindP (exprF g) fun y => retP (mk 60 (r1, r2) sNil 0 [d, y])) L by rw [hRA]; exact HS.out.trans (and_eat_yes (A := (fun d _ => bindP (exprF g) fun y => retP (mk 60 (r1, r2) sNil 0 [d, y]))) (B := (fun d => tokP (tT sPar) (fun _ => bindP (betweenF (exprF g) g sRap) fun l => retP (mk 61 (p1, p2) sNil 0 (d :: l))) (retP (mk 61 (p1, p2) sNil 0 [d])))) hE))
   have HBD := qh (show Bd (lo + 1) 60000 RA by rw [hRA]; exact HBR.out.adv (by omega) hE)
   go_wp2_with fail
   ((with_reducible refine EA.out.mono ?_); rintro e wx ⟨rfl, hb⟩)
   replace H := qh (show QG w0 w wx br A c L (posE RA) (badE RA) by rw [hRA]; exact H.out.trans hb)
   replace HR := qh (show ∀ x j, RA = .ok (x, j) → RepS (fun y => w.heap.size ≤ y) wx (.node x.1 x.2 .no) [.pointer p9] by
    rw [hRA]
    intro x j e
    obtain ⟨j0, e0⟩ : ∃ j0, R1 = .ok (x, j0) := by
     rcases R1 with k | ⟨x0, j0⟩
     ·cases e
     ·cases e; exact ⟨_, rfl⟩
    exact repS_grown (HR.out x j0 e0) hb.2 hbr0)
   clear hb EA hE hRA HBR hpk
   clear R1
   have NW := qh (node7 (B := w.heap.size) (w := wx) H.out.2.size 60 60 rfl r1 r2)
   have HRl := qh (fun x j e => ((HR.out x j e).more (S' := fun y => w.heap.size ≤ y ∧ y < wx.heap.size) fun y hy hl => ⟨hy, hl⟩))
   go_wp2_with fail
   ((with_reducible refine NW.out.mono ?_); rintro e wn ⟨b, rfl, hb, hk, hbl⟩)
   replace HR := qh (KU.old (fun x j e => (HRl.out x j e).below hb) hbl)
   replace H := qh (H.out.below hb)
   have HK := qh (KU.start (j := 0) hk)
   clear hb hk NW hbl HRl
   obtain ⟨m4, m4f, hbl4⟩ := HK.out.kn.facts
   obtain ⟨K, hK⟩ : ∃ K, K = pushK (.ok (([] : List T1), 0)) RA := ⟨_, rfl⟩
   have HK9 := qh hK
   have Q := kid_facts (p := p9) wn.heap.size rfl (Nat.le_trans HK.out.kn.low (Nat.le_of_lt hbl4)) HK.out.kn.own (by simp)
   clear hK
   go_upto_region 41 with fail
   go_cut [] from 211 to 220 (fun wc => Hid (QG w0 w wc br A c L (posE K) (badE K) ∧ ∃ svc xsc, KU w.heap.size wc b ⟨60, (r1, r2), sNil, 0⟩ svc K xsc ∧ xsc.length ≤ 1))
   case first =>
    go_wp2_with (at_builtin; refine wpList_append_lies _ rfl _ _ _ rfl w.heap.size 26 i0 _ 1 8 Try.underlying40 hi0 hz0 hz1 hz2 rfl (by omega) (.slice none 0 0) 0 [] rfl Q.out.2.2.2.2 ⟨wn.heap.size, 0, none⟩ 1 1 [.pointer p9] rfl rfl Q.out.1 Q.out.2.1 (by omega) Q.out.2.2.1 (by omega) Q.out.2.2.2.1 (wn.heap.size + 1) (by rw [World.size_alloc]) ?_; intro g' cap w5 hown1 hgrow hor hlt5; obtain ⟨s4, s4f, hb5⟩ := KN.after (HK.out.kn.below ((Below.refl _ _).alloc (Nat.le_refl _) _)) hgrow; have K2 := qh (KU.step (HK.out.below ((Below.refl _ _).alloc (Nat.le_refl _) _)) (fun x j e => (HR.out x j e).below ((Below.refl _ _).alloc (Nat.le_refl _) _)) hown1 hgrow (hor.imp id fun e => e.trans (World.size_alloc _ _).symm)); have H2 := qh (QG.hung H.out H0.out _ hgrow (fun k e => (HK.out.kn.own.lt _ e).1) (u := .slice (some ⟨g', 0, none⟩) (0 + 1) cap) HK.out.kn.low); clear hown1 hgrow hor hlt5)
    go_meet
    exact qh ⟨(by rw [HK9.out, pos_push0.1, pos_push0.2]; exact H2.out), _, _, (by rw [HK9.out]; exact K2.out), (by simp)⟩
   case rest =>
    obtain ⟨hc1, svc, xsc, hc2, hxl⟩ := hcut.out
    clear HK H hcut Q m4 m4f hbl4 HR
    have H := qh hc1
    have HK := qh hc2
    clear hc1 hc2
    replace HBD := qh (show Bd (lo + 1) 60000 K by rw [HK9.out]; exact ⟨(fun e => by rw [pos_push0.1]; exact HBD.out.lo (by rw [← pos_push0.2]; exact e)), by rw [pos_push0.1]; exact HBD.out.hi⟩)
    replace HS := qh (show res = andK K (fun a => bindP (exprF g) (fun x => (fun a => retP (mk 60 (r1, r2) sNil 0 a)) (a ++ [x]))) L by rw [HS.out, HK9.out]; rcases RA with k | ⟨x, j⟩ <;> rfl)
    clear HK9
    clear RA
    have D1 := qh (show Calls _ _ _ _ (RefU wc.drew.heap.size w0 wc.drew br A c L (goK K (exprF g) L)) from UE.out.at_ (HBD.out.weak (by omega)) (Nat.le_refl _) wc.drew (H.out.below ((Below.refl _ _).drew)).1)
    have HD := qh (H.out.below ((Below.refl _ _).drew))
    have HKD := qh (HK.out.below ((Below.refl _ _).drew))
    obtain ⟨m4, m4f, hbl4⟩ := HK.out.kn.facts
    have hxl2 : xsc.length ≤ 1000000 := by omega
    obtain ⟨K1, hK1⟩ : ∃ K1, K1 = pushK K (goK K (exprF g) L) := ⟨_, rfl⟩
    have HK1 := qh hK1
    have HBD1 := qh (show Bd (lo + 1) 60000 K1 by rw [hK1]; exact HBD.out.push St.g2_expr (by omega))
    replace HS := qh (show res = andK K1 (fun a => retP (mk 60 (r1, r2) sNil 0 a)) L by rw [hK1]; exact HS.out.trans (and_push (Q := (fun a => retP (mk 60 (r1, r2) sNil 0 a)))))
    clear hK1
    go_upto_region 42 with fail
    go_cut [] from 221 to 233 (fun wc => Hid (QG w0 w wc br A c L (posE K1) (badE K1) ∧ ∃ svc xsc, KU w.heap.size wc b ⟨60, (r1, r2), sNil, 0⟩ svc K1 xsc ∧ xsc.length ≤ 2))
    case first =>
     go_region_law (first
      | (go_simp; go_at_call 63; (with_reducible refine D1.out.mono ?_); rintro e x5 ⟨p9, rfl, hp, hgr, hr⟩; have HKX := qh (HKD.out.grown hgr hbr0); have HY := qh (HKD.out.new hr); have HX := qh (HD.out.trans ⟨hp, hgr⟩); clear hp hgr hr; obtain ⟨t4, t4f, hbx⟩ := HKX.out.kn.facts; have Q := kid_facts (p := p9) x5.heap.size rfl (Nat.le_trans HKX.out.kn.low (Nat.le_of_lt hbx)) HKX.out.kn.own hxl2)
      | (refine step_append_lies _ (by rfl) _ _ _ (by rfl) w.heap.size 26 i0 _ 1 8 Try.underlying40 hi0 hz0 hz1 hz2 rfl (by omega) svc xsc.length xsc (by rfl) Q.out.2.2.2.2 ⟨x5.heap.size, 0, none⟩ 1 1 [.pointer p9] (by rfl) (by rfl) Q.out.1 Q.out.2.1 (by omega) Q.out.2.2.1 (by omega) Q.out.2.2.2.1 (x5.heap.size + 1) (by simp) ?_; intro g' cap w5 hown1 hgrow hor hlt5; obtain ⟨s4, s4f, hb5⟩ := KN.after (HKX.out.kn.below ((Below.refl _ _).alloc (Nat.le_refl _) _)) hgrow; have K2 := qh (KU.step (HKX.out.below ((Below.refl _ _).alloc (Nat.le_refl _) _)) (fun x j e => (HY.out x j e).below ((Below.refl _ _).alloc (Nat.le_refl _) _)) hown1 hgrow (hor.imp id fun e => e.trans (World.size_alloc _ _).symm)); have H2 := qh (QG.pushed (QG.hung HX.out H0.out _ hgrow (fun k e => (HKX.out.kn.own.lt _ e).1) (u := .slice (some ⟨g', 0, none⟩) (xsc.length + 1) cap) HKX.out.kn.low)); clear hown1 hgrow hor hlt5))
     all_goals
      go_wp2_with fail
      go_meet
      exact qh ⟨(by rw [HK1.out]; exact H2.out), _, _, (by rw [HK1.out]; exact K2.out), (by simp only [List.length_append, List.length_cons, List.length_nil] at hxl ⊢; omega)⟩
    case rest =>
     obtain ⟨hc1, svc, xsc, hc2, hxl⟩ := hcut.out
     clear HK H hxl2 HKD HD hcut D1 HK1 HBD m4 m4f hbl4 K
     have H := qh hc1
     have HK := qh hc2
     have HBD := HBD1
     clear hc1 hc2 HBD1
     rename Except Nat (List T1 × Nat) => K
     go_wp2
     go_ret
     exact HK.out.done H.out HS.out
end Go.Proofs.Ytecmjhohniipoaa.Rs
end
