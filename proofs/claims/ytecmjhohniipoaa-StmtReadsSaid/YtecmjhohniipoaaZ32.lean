/- A part of the proof: V6. -/
import Derived.Test.YtecmjhohniipoaaZ1
import Derived.Test.YtecmjhohniipoaaZ30
import Derived.Test.YtecmjhohniipoaaZ31
import Derived.Deep.Cut
import Derived.Deep.CutBlock
import Derived.Deep.CutRange
import Derived.Deep.AppendLies
import Derived.Deep.LoopGhost
set_option linter.unusedSimpArgs false
set_option linter.unusedVariables false

section
namespace Go.Proofs.Ytecmjhohniipoaa.Rs
open Go.RowKit
open Tr (Nd Fo RepS RepN Rep cellsN)
open Lx (Tk noTk Blk run_store_complexL TokAt)
open Fl
open Ex
attribute [local go_sem] run_store_complexL run_field1 run_field3 St.run_field0
open St (sSem sAsg sCol sBar sIf sThen sElsif sElse sEnd sCase sOf sWhile sDo sRepeat sUntil sLoop sExit sFor sTo sBy sWith sReturn isWd6 whileS repS loopS exitS withS endS ifS ifsF elseS caseS armsF armOut forS forE returnS retOut plainS bodyR bodyG stmS stmL alts)
theorem and_congr {α β : Type} {K : Except Nat (α × Nat)} {q q' : α → Par β} {L : List PT} (h : ∀ a, q a L (posE K) = q' a L (posE K)) : andK K q L = andK K q' L := by
 rcases K with k | ⟨x, j⟩
 ·rfl
 ·exact h x
theorem KU.tree {B b : Nat} {w1 : World} {d : Nd} {sv : Value} {xs : List Value} {K : Except Nat (List T1 × Nat)} {L : List PT} {res : Except Nat (T1 × Nat)} (h : KU B w1 b d sv K xs) (hs : res = andK K (fun acc => retP (d, forest acc)) L) :
 posE res = posE K ∧ badE res = badE K ∧ ∀ x j, res = .ok (x, j) → RepS (fun y => B ≤ y) w1 (.node x.1 x.2 .no) [.pointer (some ⟨b, 0, none⟩)] := by
 subst hs
 rcases K with k | ⟨acc, j⟩
 ·exact ⟨rfl, rfl, (fun x j e => by cases e)⟩
 ·exact ⟨rfl, rfl, (fun x j e => by cases e; exact (h.good acc _ rfl).done (Nat.le_refl _))⟩
set_option maxRecDepth 100000 in set_option maxHeartbeats 6400000 in
theorem rcases_ {g : Nat} {w0 : World} {br c : Nat} {A : Option Addr} {L : List PT} (ht : Toks w0 br A L) (ok : OKRow L) (hg : L.length < g) {bd : Par T1} (hb2 : St.Good2 bd) {lo : Nat} (hB : UnOK 18 bd (lo + 1) w0 br A c L) (i : Nat) (hlo : lo + 1 ≤ i) (hi : i ≤ 60000) (p1 p2 : Nat) (w : World) (h : QInv w0 w br A c L i false) :
 Calls Try.prog 62 #[.pointer (some ⟨br, 0, none⟩), .complex .f64 (fl p1) (fl p2)] w (RefU w.heap.size w0 w br A c L (caseS g bd (p1, p2) L i)) := by
 have hbr0 := h.row.lt
 have hlen := ht.len
 have H0 := qh h
 have H := qh (QG.start h)
 have HT := qh ht
 have HOK := qh ok
 have HG2 := qh hb2
 have UE := qh ((un_of (c := c) (rexpr_all ht ok) (fun j => expr_fuel hg j) (bexpr ht)).mono (Nat.zero_le (lo + 1)))
 have UB := qh hB
 obtain ⟨i0, hi0, hz0, hz1, hz2⟩ := info_parts infoN
 obtain ⟨res, hs0⟩ : ∃ r, r = caseS g bd (p1, p2) L i := ⟨_, rfl⟩
 rw [← hs0]
 have HRN := qh (fun (j : Nat) (b : Bool) (hj : j ≤ 60000) (w : World) (h : QInv w0 w br A c L j b) => rnow_any ht (i := j) (by omega) w h)
 have HLB := qh (fun (j : Nat) (hj : j ≤ 60000) (w : World) (h : QInv w0 w br A c L j false) => (rlabels_all (c := c) ht ok j (Nat.zero_le _) hj w h).mono fun e w' h => (labels_fuel hg j) ▸ refU h)
 have HGA := qh (show ∀ p : Nat × Nat, St.Good2 (bindP (labelsF g) fun l => needF sCol (bindP bd fun b => retP (mk 28 p sNil 0 [l, b]))) from fun p => St.g2_bind St.g2_labels fun l => St.g2_need (St.g2_bind hb2 fun b => St.g2_ret _))
 have HS := qh (show res = andK (.ok ([], i)) (fun a => bindP (exprF g) (fun x => (fun a => needF sOf ((fun a => bindP (armsF g bd g a) (fun l => tokP (tT sElse) (fun t => bindP bd fun b => endS 63 (p1, p2) sNil (l ++ [mk 30 t.2.1 sNil 0 [b]])) (endS 63 (p1, p2) sNil l))) a)) (a ++ [x]))) L from hs0)
 have hg0 : 0 < g := by omega
 clear h ht ok hb2 hB hs0
 go_enter Try.func62, Try.ntmps62
 have NW := qh (node7 (B := w.heap.size) (w := w) H.out.2.size 63 63 rfl p1 p2)
 go_wp2_with fail
 ((with_reducible refine NW.out.mono ?_); rintro e wn ⟨b, rfl, hb, hk, hbl⟩)
 obtain ⟨K, hK⟩ : ∃ K : Except Nat (List T1 × Nat), K = .ok ([], i) := ⟨_, rfl⟩
 have H := qh (show QG w0 w wn br A c L (posE K) (badE K) by rw [hK]; exact H.out.below hb)
 have HK := qh (show KU w.heap.size wn b ⟨63, (p1, p2), sNil, 0⟩ (.slice none 0 0) K [] by rw [hK]; exact KU.start hk)
 have HBD := qh (show Bd (lo + 1) 60000 K by rw [hK]; exact ⟨(fun _ => by show lo + 1 ≤ i; omega), by show i ≤ 60000; omega⟩)
 replace HS := qh (show res = andK K (fun a => bindP (exprF g) (fun x => (fun a => needF sOf ((fun a => bindP (armsF g bd g a) (fun l => tokP (tT sElse) (fun t => bindP bd fun b => endS 63 (p1, p2) sNil (l ++ [mk 30 t.2.1 sNil 0 [b]])) (endS 63 (p1, p2) sNil l))) a)) (a ++ [x]))) L by rw [hK]; exact HS.out)
 have hxl : ([] : List Value).length ≤ 0 := Nat.le_refl _
 clear hb hk NW hK hbl
 have D1 := qh (show Calls _ _ _ _ (RefU wn.drew.heap.size w0 wn.drew br A c L (goK K (exprF g) L)) from UE.out.at_ (HBD.out.weak (by omega)) (Nat.le_refl _) wn.drew (H.out.below ((Below.refl _ _).drew)).1)
 have HD := qh (H.out.below ((Below.refl _ _).drew))
 have HKD := qh (HK.out.below ((Below.refl _ _).drew))
 obtain ⟨m4, m4f, hbl4⟩ := HK.out.kn.facts
 have hxl2 : ([] : List Value).length ≤ 1000000 := by omega
 obtain ⟨K1, hK1⟩ : ∃ K1, K1 = pushK K (goK K (exprF g) L) := ⟨_, rfl⟩
 have HK1 := qh hK1
 have HBD1 := qh (show Bd (lo + 1) 60000 K1 by rw [hK1]; exact HBD.out.push St.g2_expr (by omega))
 replace HS := qh (show res = andK K1 (fun a => needF sOf ((fun a => bindP (armsF g bd g a) (fun l => tokP (tT sElse) (fun t => bindP bd fun b => endS 63 (p1, p2) sNil (l ++ [mk 30 t.2.1 sNil 0 [b]])) (endS 63 (p1, p2) sNil l))) a)) L by rw [hK1]; exact HS.out.trans (and_push (Q := (fun a => needF sOf ((fun a => bindP (armsF g bd g a) (fun l => tokP (tT sElse) (fun t => bindP bd fun b => endS 63 (p1, p2) sNil (l ++ [mk 30 t.2.1 sNil 0 [b]])) (endS 63 (p1, p2) sNil l))) a)))))
 clear hK1
 go_upto_region 2 with fail
 go_cut [] from 11 to 23 (fun wc => Hid (QG w0 w wc br A c L (posE K1) (badE K1) ∧ ∃ svc xsc, KU w.heap.size wc b ⟨63, (p1, p2), sNil, 0⟩ svc K1 xsc ∧ xsc.length ≤ 0 + 1))
 case first =>
  go_region_law (first
   | (go_simp; go_at_call 63; (with_reducible refine D1.out.mono ?_); rintro e x5 ⟨p9, rfl, hp, hgr, hr⟩; have HKX := qh (HKD.out.grown hgr hbr0); have HY := qh (HKD.out.new hr); have HX := qh (HD.out.trans ⟨hp, hgr⟩); clear hp hgr hr; obtain ⟨t4, t4f, hbx⟩ := HKX.out.kn.facts; have Q := kid_facts (p := p9) x5.heap.size rfl (Nat.le_trans HKX.out.kn.low (Nat.le_of_lt hbx)) HKX.out.kn.own hxl2)
   | (refine step_append_lies _ (by rfl) _ _ _ (by rfl) w.heap.size 26 i0 _ 1 8 Try.underlying40 hi0 hz0 hz1 hz2 rfl (by omega) (.slice none 0 0) ([] : List Value).length ([] : List Value) (by rfl) Q.out.2.2.2.2 ⟨x5.heap.size, 0, none⟩ 1 1 [.pointer p9] (by rfl) (by rfl) Q.out.1 Q.out.2.1 (by omega) Q.out.2.2.1 (by omega) Q.out.2.2.2.1 (x5.heap.size + 1) (by simp) ?_; intro g' cap w5 hown1 hgrow hor hlt5; obtain ⟨s4, s4f, hb5⟩ := KN.after (HKX.out.kn.below ((Below.refl _ _).alloc (Nat.le_refl _) _)) hgrow; have K2 := qh (KU.step (HKX.out.below ((Below.refl _ _).alloc (Nat.le_refl _) _)) (fun x j e => (HY.out x j e).below ((Below.refl _ _).alloc (Nat.le_refl _) _)) hown1 hgrow (hor.imp id fun e => e.trans (World.size_alloc _ _).symm)); have H2 := qh (QG.pushed (QG.hung HX.out H0.out _ hgrow (fun k e => (HKX.out.kn.own.lt _ e).1) (u := .slice (some ⟨g', 0, none⟩) (([] : List Value).length + 1) cap) HKX.out.kn.low)); clear hown1 hgrow hor hlt5))
  all_goals
   go_wp2_with fail
   go_meet
   exact qh ⟨(by rw [HK1.out]; exact H2.out), _, _, (by rw [HK1.out]; exact K2.out), (by simp only [List.length_append, List.length_cons, List.length_nil] at hxl ⊢; omega)⟩
 case rest =>
  obtain ⟨hc1, svc, xsc, hc2, hxl⟩ := hcut.out
  clear HK H hxl2 HKD HD hcut D1 HK1 HBD m4 m4f hbl4 K
  have H := qh hc1
  have HK := qh hc2
  have HBD := HBD1
  clear hc1 hc2 HBD1
  rename Except Nat (List T1 × Nat) => K
  have ND := qh (uneedw HT.out HOK.out (K := K) (by have := HBD.out.hi; omega) sOf _ H.out.1 (by decide))
  go_wp2_with fail
  ((with_reducible refine ND.out.mono ?_); rintro e wx ⟨rfl, hb⟩)
  obtain ⟨K1, hK1⟩ : ∃ K1, K1 = needK K sOf L := ⟨_, rfl⟩
  replace H := qh (show QG w0 w wx br A c L (posE K1) (badE K1) by rw [hK1]; exact H.out.trans hb)
  replace HK := qh (show KU w.heap.size wx b _ _ K1 _ by rw [hK1]; exact (HK.out.grown hb.2 hbr0).to_ need_to)
  replace HBD := qh (show Bd (lo + 1) 60000 K1 by rw [hK1]; exact HBD.out.need (by omega))
  replace HS := qh (show res = andK K1 (fun a => bindP (armsF g bd g a) (fun l => tokP (tT sElse) (fun t => bindP bd fun b => endS 63 (p1, p2) sNil (l ++ [mk 30 t.2.1 sNil 0 [b]])) (endS 63 (p1, p2) sNil l))) L by rw [hK1]; exact HS.out.trans (and_need (Q := (fun a => bindP (armsF g bd g a) (fun l => tokP (tT sElse) (fun t => bindP bd fun b => endS 63 (p1, p2) sNil (l ++ [mk 30 t.2.1 sNil 0 [b]])) (endS 63 (p1, p2) sNil l))))))
  clear hb ND hK1
  clear K
  rename Except Nat (List T1 × Nat) => K
  go_wp2_with fail
  go_loopg [] (mzK L.length K) (fun gm wr => Hid (∃ (K : Except Nat (List T1 × Nat)) (sv : Value) (xs : List Value) (f : Nat), gm = mzK L.length K ∧ QG w0 w wr br A c L (posE K) (badE K) ∧ KU w.heap.size wr b ⟨63, (p1, p2), sNil, 0⟩ sv K xs ∧ Bd (lo + 1) 60000 K ∧ (badE K = false → xs.length ≤ 2 * posE K + 4) ∧ xs.length ≤ 130000 ∧ (badE K = false → L.length < posE K + f ∧ 0 < f) ∧ res = andK K (fun a => bindP (armsF g bd f a) (fun l => tokP (tT sElse) (fun t => bindP bd fun b => endS 63 (p1, p2) sNil (l ++ [mk 30 t.2.1 sNil 0 [b]])) (endS 63 (p1, p2) sNil l))) L))
  case atStart => exact qh ⟨K, svc, xsc, g, rfl, H.out, HK.out, HBD.out, (fun e => by have := HBD.out.lo e; omega), by omega, (fun e => by have := HBD.out.lo e; omega), HS.out⟩
  case round =>
   clear H HK HS HBD hxl
   clear K
   obtain ⟨K, sv, xs, f, hgk, h1_, h2_, h3_, hx1, hxl, hf1, h4_⟩ := hrel.out
   have H := qh h1_
   have HK := qh h2_
   have HBD := qh h3_
   have HB0 := qh h3_
   have HS := qh h4_
   obtain ⟨wo, rfl⟩ : ∃ wo : World, wo = wr := ⟨_, rfl⟩
   clear hrel h1_ h2_ h3_ h4_
   cases hbK : badE K with
   | true =>
     have hm2 := H.out.1.at_
     rw [hbK] at hm2
     obtain ⟨-, -, m2, -, hlt⟩ := hm2
     replace HS := qh (show res = andK K (fun l => tokP (tT sElse) (fun t => bindP bd fun b => endS 63 (p1, p2) sNil (l ++ [mk 30 t.2.1 sNil 0 [b]])) (endS 63 (p1, p2) sNil l)) L by
      rw [HS.out]
      rcases K with k | ⟨acc, j⟩
      ·rfl
      ·cases hbK)
     clear hbK hx1 hf1 HB0 hgk
     go_wp2_with fail
     clear m2 hlt
     have n2 := HRN.out (posE K) _ (by have := HBD.out.hi; omega) _ H.out.1
     obtain ⟨k8, r1, r2, s1, s2, t8, n8, e1, e2⟩ := val_form (tk L (posE K))
     rw [e2] at n2
     have N2 := qh n2
     have HP2 := qh (show (tk L (posE K)).2.1 = (r1, r2) by rw [e1])
     clear n2 e1 e2
     go_wp2_with fail
     ((with_reducible refine N2.out.mono ?_); rintro e wx ⟨rfl, hb⟩)
     replace H := qh (H.out.below hb)
     replace HK := qh (HK.out.below hb)
     clear hb N2
     have hpk := HBD.out.hi
     cases hE : eatK K sElse L with
     | false =>
       have EA := qh (ueatw_no HT.out HOK.out (K := K) (by omega) sElse _ H.out.1 (by decide) hE)
       replace HS := qh (show res = andK K (fun l => endS 63 (p1, p2) sNil l) L from HS.out.trans (and_eat_no (A := (fun l t => bindP bd fun b => endS 63 (p1, p2) sNil (l ++ [mk 30 t.2.1 sNil 0 [b]]))) (B := (fun l => endS 63 (p1, p2) sNil l)) hE))
       clear hE hpk
       go_wp2_with fail
       ((with_reducible refine EA.out.mono ?_); rintro e wx ⟨rfl, hb⟩)
       replace H := qh (show QG w0 w wx br A c L (posE K) (badE K) from H.out.trans hb)
       replace HK := qh (HK.out.grown hb.2 hbr0)
       clear hb EA
       clear HP2
       replace HS := qh (show res = andK K (fun a => needF sEnd ((fun a => retP (mk 63 (p1, p2) sNil 0 a)) a)) L from HS.out)
       have ND := qh (uneedw HT.out HOK.out (K := K) (by have := HBD.out.hi; omega) sEnd _ H.out.1 (by decide))
       go_wp2_with fail
       ((with_reducible refine ND.out.mono ?_); rintro e wx ⟨rfl, hb⟩)
       obtain ⟨K1, hK1⟩ : ∃ K1, K1 = needK K sEnd L := ⟨_, rfl⟩
       replace H := qh (show QG w0 w wx br A c L (posE K1) (badE K1) by rw [hK1]; exact H.out.trans hb)
       replace HK := qh (show KU w.heap.size wx b _ _ K1 _ by rw [hK1]; exact (HK.out.grown hb.2 hbr0).to_ need_to)
       replace HBD := qh (show Bd (lo + 1) 60000 K1 by rw [hK1]; exact HBD.out.need (by omega))
       replace HS := qh (show res = andK K1 (fun a => retP (mk 63 (p1, p2) sNil 0 a)) L by rw [hK1]; exact HS.out.trans (and_need (Q := (fun a => retP (mk 63 (p1, p2) sNil 0 a)))))
       clear hb ND hK1
       clear K
       rename Except Nat (List T1 × Nat) => K
       go_wp2
       go_ret
       exact HK.out.done H.out HS.out
     | true =>
       have EA := qh (ueatw_yes HT.out HOK.out (K := K) (by omega) sElse _ H.out.1 (by decide) hE)
       have hadv := pos_adv hE
       obtain ⟨K1, hK1⟩ : ∃ K1, K1 = advK K := ⟨_, rfl⟩
       replace HS := qh (show res = andK K1 (fun acc => (fun l t => bindP bd fun b => endS 63 (p1, p2) sNil (l ++ [mk 30 t.2.1 sNil 0 [b]])) acc (tk L (posE K))) L by rw [hK1]; exact HS.out.trans (and_eat_yes (A := (fun l t => bindP bd fun b => endS 63 (p1, p2) sNil (l ++ [mk 30 t.2.1 sNil 0 [b]]))) (B := (fun l => endS 63 (p1, p2) sNil l)) hE))
       replace HBD := qh (show Bd (lo + 1) 60000 K1 by rw [hK1]; exact HBD.out.adv (by omega) hE)
       go_wp2_with fail
       ((with_reducible refine EA.out.mono ?_); rintro e wx ⟨rfl, hb⟩)
       replace H := qh (show QG w0 w wx br A c L (posE (advK K)) (badE (advK K)) from H.out.trans hb)
       replace HK := qh (HK.out.grown hb.2 hbr0)
       clear hb EA
       replace HK := qh (show KU w.heap.size wx b _ _ K1 _ by rw [hK1]; exact HK.out.to_ adv_to)
       replace H := qh (show QG w0 w wx br A c L (posE K1) (badE K1) by rw [hK1]; exact H.out)
       have hp1 : posE K1 = posE K + 1 ∧ badE K1 = false ∧ badE K = false ∧ posE K < L.length := by rw [hK1]; exact hadv
       clear hadv hE hpk hK1
       replace HS := qh (show res = andK K1 (fun l => bindP bd fun b => endS 63 (p1, p2) sNil (l ++ [mk 30 (r1, r2) sNil 0 [b]])) L by rw [HS.out, HP2.out])
       have HGB := qh hp1.2.1
       clear hp1 HP2
       clear K
       rename Except Nat (List T1 × Nat) => KM
       obtain ⟨wa, hwa⟩ : ∃ wa, wa = wx := ⟨_, rfl⟩
       have HM := qh (hwa ▸ H.out)
       have HKM := qh (hwa ▸ HK.out)
       have hbra : br < wa.heap.size := by have := HM.out.2.size; omega
       have hwsz : w.heap.size ≤ wa.heap.size := HM.out.2.size
       rw [← hwa]
       clear H HK hwa
       have NW := qh (node7 (B := wa.heap.size) (w := wa) (Nat.le_refl _) 30 30 rfl r1 r2)
       go_wp2_with fail
       ((with_reducible refine NW.out.mono ?_); rintro e wn ⟨ba, rfl, hb, hk, hbl⟩)
       obtain ⟨RA, hRA⟩ : ∃ RA, RA = goK KM (bindP bd fun b => retP (mk 30 (r1, r2) sNil 0 [b])) L := ⟨_, rfl⟩
       have HRA := qh hRA
       obtain ⟨resA, hrA⟩ : ∃ r, r = (bindP bd fun b => retP (mk 30 (r1, r2) sNil 0 [b])) L (posE KM) := ⟨_, rfl⟩
       have HRE := qh (show RA = resA by rw [hRA, hrA, go_at, HGB.out]; rfl)
       obtain ⟨K, hK⟩ : ∃ K : Except Nat (List T1 × Nat), K = .ok ([], posE KM) := ⟨_, rfl⟩
       have HA0 := qh (show QInv w0 wa br A c L (posE KM) false from HGB.out ▸ HM.out.1)
       have HBDM := HBD
       have HSM := HS
       clear HS HBD
       have H := qh (show QG w0 wa wn br A c L (posE K) (badE K) by rw [hK]; exact (QG.start HA0.out).below hb)
       have HK := qh (show KU wa.heap.size wn ba ⟨30, (r1, r2), sNil, 0⟩ (.slice none 0 0) K [] by rw [hK]; exact KU.start hk)
       have HBD := qh (show Bd (lo + 1) 60000 K by rw [hK]; exact ⟨(fun _ => HBDM.out.lo HGB.out), HBDM.out.hi⟩)
       have hxlM := hxl
       clear hxl
       have hxl : ([] : List Value).length ≤ 0 := Nat.le_refl _
       have HS := qh (show resA = andK K (fun a => bindP bd (fun x => (fun a => retP (mk 30 (r1, r2) sNil 0 a)) (a ++ [x]))) L by rw [hrA, hK]; rfl)
       have HK0 := qh hK
       clear hb hk NW hK hbl hRA hrA
       clear HK0
       have D1 := qh (show Calls _ _ _ _ (RefU wn.drew.heap.size w0 wn.drew br A c L (goK K bd L)) from UB.out.at_ (HBD.out.weak (by omega)) (Nat.le_refl _) wn.drew (H.out.below ((Below.refl _ _).drew)).1)
       have HD := qh (H.out.below ((Below.refl _ _).drew))
       have HKD := qh (HK.out.below ((Below.refl _ _).drew))
       obtain ⟨m4, m4f, hbl4⟩ := HK.out.kn.facts
       have hxl2 : ([] : List Value).length ≤ 1000000 := by omega
       obtain ⟨K1, hK1⟩ : ∃ K1, K1 = pushK K (goK K bd L) := ⟨_, rfl⟩
       have HK1 := qh hK1
       have HBD1 := qh (show Bd (lo + 1) 60000 K1 by rw [hK1]; exact HBD.out.push HG2.out (by omega))
       replace HS := qh (show resA = andK K1 (fun a => retP (mk 30 (r1, r2) sNil 0 a)) L by rw [hK1]; exact HS.out.trans (and_push (Q := (fun a => retP (mk 30 (r1, r2) sNil 0 a)))))
       clear hK1
       go_upto_region 15 with fail
       go_cut [] from 113 to 123 (fun wc => Hid (QG w0 wa wc br A c L (posE K1) (badE K1) ∧ ∃ svc xsc, KU wa.heap.size wc ba ⟨30, (r1, r2), sNil, 0⟩ svc K1 xsc ∧ xsc.length ≤ 0 + 1))
       case first =>
        go_region_law (first
         | (go_simp; go_at_call 18; (with_reducible refine D1.out.mono ?_); rintro e x5 ⟨p9, rfl, hp, hgr, hr⟩; have HKX := qh (HKD.out.grown hgr hbra); have HY := qh (HKD.out.new hr); have HX := qh (HD.out.trans ⟨hp, hgr⟩); clear hp hgr hr; obtain ⟨t4, t4f, hbx⟩ := HKX.out.kn.facts; have Q := kid_facts (p := p9) x5.heap.size rfl (Nat.le_trans HKX.out.kn.low (Nat.le_of_lt hbx)) HKX.out.kn.own hxl2)
         | (refine step_append_lies _ (by rfl) _ _ _ (by rfl) wa.heap.size 26 i0 _ 1 8 Try.underlying40 hi0 hz0 hz1 hz2 rfl (by omega) (.slice none 0 0) ([] : List Value).length ([] : List Value) (by rfl) Q.out.2.2.2.2 ⟨x5.heap.size, 0, none⟩ 1 1 [.pointer p9] (by rfl) (by rfl) Q.out.1 Q.out.2.1 (by omega) Q.out.2.2.1 (by omega) Q.out.2.2.2.1 (x5.heap.size + 1) (by simp) ?_; intro g' cap w5 hown1 hgrow hor hlt5; obtain ⟨s4, s4f, hb5⟩ := KN.after (HKX.out.kn.below ((Below.refl _ _).alloc (Nat.le_refl _) _)) hgrow; have K2 := qh (KU.step (HKX.out.below ((Below.refl _ _).alloc (Nat.le_refl _) _)) (fun x j e => (HY.out x j e).below ((Below.refl _ _).alloc (Nat.le_refl _) _)) hown1 hgrow (hor.imp id fun e => e.trans (World.size_alloc _ _).symm)); have H2 := qh (QG.pushed (QG.hung HX.out HA0.out _ hgrow (fun k e => (HKX.out.kn.own.lt _ e).1) (u := .slice (some ⟨g', 0, none⟩) (([] : List Value).length + 1) cap) HKX.out.kn.low)); clear hown1 hgrow hor hlt5))
        all_goals
         go_wp2_with fail
         go_meet
         exact qh ⟨(by rw [HK1.out]; exact H2.out), _, _, (by rw [HK1.out]; exact K2.out), (by simp only [List.length_append, List.length_cons, List.length_nil] at hxl ⊢; omega)⟩
       case rest =>
        obtain ⟨hc1, svc, xsc, hc2, hxl⟩ := hcut.out
        clear HK H hxl2 HKD HD hcut D1 HK1 HBD m4 m4f hbl4 K
        have H := qh hc1
        have HK := qh hc2
        have HBD := HBD1
        clear hc1 hc2 HBD1
        rename Except Nat (List T1 × Nat) => K
        obtain ⟨hpA, hbA, hrA⟩ := HK.out.tree HS.out
        have HKW := qh (HKM.out.grown H.out.2 hbr0)
        have HY := qh (HKM.out.new hrA)
        have HW := qh (show QG w0 w wc br A c L (posE resA) (badE resA) by rw [hpA, hbA]; exact ⟨H.out.1, grown_trans HM.out.2 H.out.2⟩)
        obtain ⟨m4, m4f, hbl4⟩ := HKW.out.kn.facts
        have hxl2 : xs.length ≤ 1000000 := by omega
        have Q := kid_facts (p := some ⟨ba, 0, none⟩) wc.heap.size rfl (Nat.le_trans HKW.out.kn.low (Nat.le_of_lt hbl4)) HKW.out.kn.own hxl2
        clear hpA hbA hrA H HK HS HBD hxl
        clear K
        go_wp2_with (at_builtin; refine wpList_append_lies _ rfl _ _ _ rfl w.heap.size 26 i0 _ 1 8 Try.underlying40 hi0 hz0 hz1 hz2 rfl (by omega) sv xs.length xs rfl Q.out.2.2.2.2 ⟨wc.heap.size, 0, none⟩ 1 1 [.pointer (some ⟨ba, 0, none⟩)] rfl rfl Q.out.1 Q.out.2.1 (by omega) Q.out.2.2.1 (by omega) Q.out.2.2.2.1 (wc.heap.size + 1) (by rw [World.size_alloc]) ?_; intro g' cap w5 hown1 hgrow hor hlt5; obtain ⟨s4, s4f, hb5⟩ := KN.after (HKW.out.kn.below ((Below.refl _ _).alloc (Nat.le_refl _) _)) hgrow; have K2 := qh (KU.step (HKW.out.below ((Below.refl _ _).alloc (Nat.le_refl _) _)) (fun x j e => (HY.out x j e).below ((Below.refl _ _).alloc (Nat.le_refl _) _)) hown1 hgrow (hor.imp id fun e => e.trans (World.size_alloc _ _).symm)); have H2 := qh (QG.hung HW.out H0.out _ hgrow (fun k e => (HKW.out.kn.own.lt _ e).1) (u := .slice (some ⟨g', 0, none⟩) (xs.length + 1) cap) HKW.out.kn.low); clear hown1 hgrow hor hlt5)
        obtain ⟨K1, hK1⟩ : ∃ K1, K1 = pushK KM RA := ⟨_, rfl⟩
        have H := qh (show QG w0 w _ br A c L (posE K1) (badE K1) by rw [hK1, HRA.out, pos_push.1, pos_push.2, ← HRA.out, HRE.out]; exact H2.out)
        have HK := qh (show KU w.heap.size _ b _ _ K1 _ by rw [hK1, HRE.out]; exact K2.out)
        have HBD := qh (show Bd (lo + 1) 60000 K1 by rw [hK1, HRA.out]; exact HBDM.out.push (St.g2_bind HG2.out fun b => St.g2_ret _) (by omega))
        have HS := qh (show res = andK K1 (fun a => needF sEnd ((fun a => retP (mk 63 (p1, p2) sNil 0 a)) a)) L by
         rw [hK1, HRA.out, ← and_push (Q := (fun a => needF sEnd ((fun a => retP (mk 63 (p1, p2) sNil 0 a)) a))), HSM.out]
         refine congrArg (fun q => andK KM q L) (funext fun a => ?_)
         simp only [St.bind_assoc, St.ret_bind]
         rfl)
        clear hK1 H2 K2 HRA HRE HSM HBDM HM HKM HKW HY HW Q m4 m4f hbl4 HA0 hbra hwsz HGB
        clear KM
        clear RA
        clear resA
        rename Except Nat (List T1 × Nat) => K
        have ND := qh (uneedw HT.out HOK.out (K := K) (by have := HBD.out.hi; omega) sEnd _ H.out.1 (by decide))
        go_wp2_with fail
        ((with_reducible refine ND.out.mono ?_); rintro e wx ⟨rfl, hb⟩)
        obtain ⟨K1, hK1⟩ : ∃ K1, K1 = needK K sEnd L := ⟨_, rfl⟩
        replace H := qh (show QG w0 w wx br A c L (posE K1) (badE K1) by rw [hK1]; exact H.out.trans hb)
        replace HK := qh (show KU w.heap.size wx b _ _ K1 _ by rw [hK1]; exact (HK.out.grown hb.2 hbr0).to_ need_to)
        replace HBD := qh (show Bd (lo + 1) 60000 K1 by rw [hK1]; exact HBD.out.need (by omega))
        replace HS := qh (show res = andK K1 (fun a => retP (mk 63 (p1, p2) sNil 0 a)) L by rw [hK1]; exact HS.out.trans (and_need (Q := (fun a => retP (mk 63 (p1, p2) sNil 0 a)))))
        clear hb ND hK1
        clear K
        rename Except Nat (List T1 × Nat) => K
        go_wp2
        go_ret
        exact HK.out.done H.out HS.out
   | false =>
     have hm2 := H.out.1.at_
     rw [hbK] at hm2
     obtain ⟨-, -, m2, -, hlt⟩ := hm2
     have hn1 : ∃ n, n = posE K := ⟨_, rfl⟩
     obtain ⟨n0, hn0⟩ := hn1
     have hq : xs.length ≤ 2 * n0 + 4 ∧ L.length < n0 + f ∧ 0 < f ∧ lo + 1 ≤ n0 ∧ n0 ≤ 60000 := by
      have a1 := hx1 hbK
      have a2 := hf1 hbK
      have a3 := HB0.out.lo hbK
      have a4 := HB0.out.hi
      refine ⟨by omega, by omega, by omega, by omega, by omega⟩
     obtain ⟨f, rfl⟩ : ∃ f', f = f' + 1 := ⟨f - 1, by omega⟩
     have hgm : mzK L.length K = L.length + 2 - n0 := by unfold mzK; rw [hbK, ← hn0]; rfl
     rw [hgm] at hgk
     have HAO := qh (show armOut (tk L (posE K)) = (eatK K sBar L || eatK K sElse L || eatK K sEnd L) by
      rcases K with k | ⟨acc, j⟩
      ·cases hbK
      ·rfl)
     replace HBD := qh (show Bd n0 60000 K from ⟨fun _ => by omega, HBD.out.hi⟩)
     have HN0 := qh hn0
     clear hx1 hf1 HB0 hgm hn0
     go_upto_region 5 with fail
     clear m2 hlt
     go_cut [52] from 28 to 101 (fun s52 wc => s52 = .bool (!armOut (tk L (posE K))) ∧ Hid (QG w0 w wc br A c L (posE K) (badE K) ∧ KU w.heap.size wc b ⟨63, (p1, p2), sNil, 0⟩ sv K xs))
     case first =>
      cases hA : eatK K sBar L with
      | true =>
        have SY := usym HT.out HOK.out (K := K) (by have := HBD.out.hi; omega) sBar _ H.out.1 (by decide)
        rw [hA] at SY
        have SY := qh SY
        go_wp2_with fail
        ((with_reducible refine SY.out.mono ?_); rintro e wx ⟨rfl, hb⟩)
        replace H := qh (H.out.below hb)
        replace HK := qh (HK.out.below hb)
        clear hb SY
        have HO9 : armOut (tk L (posE K)) = true := by rw [HAO.out]; simp [hA]
        go_wp2_with fail
        go_meet
        exact ⟨by rw [HO9]; rfl, qh ⟨H.out, HK.out⟩⟩
      | false =>
        have SY := usym HT.out HOK.out (K := K) (by have := HBD.out.hi; omega) sBar _ H.out.1 (by decide)
        rw [hA] at SY
        have SY := qh SY
        go_wp2_with fail
        ((with_reducible refine SY.out.mono ?_); rintro e wx ⟨rfl, hb⟩)
        replace H := qh (H.out.below hb)
        replace HK := qh (HK.out.below hb)
        clear hb SY
        cases hB_ : eatK K sElse L with
        | true =>
          have SY := uword HT.out HOK.out (K := K) (by have := HBD.out.hi; omega) sElse _ H.out.1 (by decide)
          rw [hB_] at SY
          have SY := qh SY
          go_wp2_with fail
          ((with_reducible refine SY.out.mono ?_); rintro e wx ⟨rfl, hb⟩)
          replace H := qh (H.out.below hb)
          replace HK := qh (HK.out.below hb)
          clear hb SY
          have HO9 : armOut (tk L (posE K)) = true := by rw [HAO.out]; simp [hA, hB_]
          go_wp2_with fail
          go_meet
          exact ⟨by rw [HO9]; rfl, qh ⟨H.out, HK.out⟩⟩
        | false =>
          have SY := uword HT.out HOK.out (K := K) (by have := HBD.out.hi; omega) sElse _ H.out.1 (by decide)
          rw [hB_] at SY
          have SY := qh SY
          go_wp2_with fail
          ((with_reducible refine SY.out.mono ?_); rintro e wx ⟨rfl, hb⟩)
          replace H := qh (H.out.below hb)
          replace HK := qh (HK.out.below hb)
          clear hb SY
          cases hC : eatK K sEnd L with
          | true =>
            have SY := uword HT.out HOK.out (K := K) (by have := HBD.out.hi; omega) sEnd _ H.out.1 (by decide)
            rw [hC] at SY
            have SY := qh SY
            go_wp2_with fail
            ((with_reducible refine SY.out.mono ?_); rintro e wx ⟨rfl, hb⟩)
            replace H := qh (H.out.below hb)
            replace HK := qh (HK.out.below hb)
            clear hb SY
            have HO9 : armOut (tk L (posE K)) = true := by rw [HAO.out]; simp [hA, hB_, hC]
            go_wp2_with fail
            go_meet
            exact ⟨by rw [HO9]; rfl, qh ⟨H.out, HK.out⟩⟩
          | false =>
            have SY := uword HT.out HOK.out (K := K) (by have := HBD.out.hi; omega) sEnd _ H.out.1 (by decide)
            rw [hC] at SY
            have SY := qh SY
            go_wp2_with fail
            ((with_reducible refine SY.out.mono ?_); rintro e wx ⟨rfl, hb⟩)
            replace H := qh (H.out.below hb)
            replace HK := qh (HK.out.below hb)
            clear hb SY
            have HO9 : armOut (tk L (posE K)) = false := by rw [HAO.out]; simp [hA, hB_, hC]
            go_wp2_with fail
            go_meet
            exact ⟨by rw [HO9]; rfl, qh ⟨H.out, HK.out⟩⟩
     case rest =>
      obtain ⟨rfl, hc9⟩ := hcut
      clear H HK
      have H := qh hc9.out.1
      have HK := qh hc9.out.2
      clear hc9
      go_upto_if 52 with fail
      go_cut [] from 28 to 101 (fun wc => Hid (∃ (K1 : Except Nat (List T1 × Nat)) (svc : Value) (xsc : List Value), QG w0 w wc br A c L (posE K1) (badE K1) ∧ KU w.heap.size wc b ⟨63, (p1, p2), sNil, 0⟩ svc K1 xsc ∧ Bd n0 60000 K1 ∧ xsc.length ≤ 2 * n0 + 5 ∧ (badE K1 = false → n0 ≤ posE K1) ∧ res = andK K1 (fun a => tokP (tT sBar) (fun _ => bindP (armsF g bd f a) (fun l => tokP (tT sElse) (fun t => bindP bd fun b => endS 63 (p1, p2) sNil (l ++ [mk 30 t.2.1 sNil 0 [b]])) (endS 63 (p1, p2) sNil l))) ((fun l => tokP (tT sElse) (fun t => bindP bd fun b => endS 63 (p1, p2) sNil (l ++ [mk 30 t.2.1 sNil 0 [b]])) (endS 63 (p1, p2) sNil l)) a)) L))
      case first =>
       cases hO : armOut (tk L (posE K)) with
       | true =>
         replace HS := qh (show res = andK K (fun a => tokP (tT sBar) (fun _ => bindP (armsF g bd f a) (fun l => tokP (tT sElse) (fun t => bindP bd fun b => endS 63 (p1, p2) sNil (l ++ [mk 30 t.2.1 sNil 0 [b]])) (endS 63 (p1, p2) sNil l))) ((fun l => tokP (tT sElse) (fun t => bindP bd fun b => endS 63 (p1, p2) sNil (l ++ [mk 30 t.2.1 sNil 0 [b]])) (endS 63 (p1, p2) sNil l)) a)) L by
          rw [HS.out]
          refine (and_congr fun a => ?_)
          rw [St.arms_step, if_pos hO])
         simp only [Bool.not_true]
         go_wp2_with fail
         go_meet
         exact qh ⟨K, sv, xs, H.out, HK.out, HBD.out, by omega, (fun e => HBD.out.lo e), HS.out⟩
       | false =>
         simp only [Bool.not_false]
         have hn0 := HN0.out
         have HKF := qh hbK
         have n2 := HRN.out (posE K) _ (by have := HBD.out.hi; omega) _ H.out.1
         obtain ⟨k8, r1, r2, s1, s2, t8, n8, e1, e2⟩ := val_form (tk L (posE K))
         rw [e2] at n2
         have N2 := qh n2
         have HP2 := qh (show (tk L (posE K)).2.1 = (r1, r2) by rw [e1])
         clear n2 e1 e2
         go_wp2_with fail
         ((with_reducible refine N2.out.mono ?_); rintro e wx ⟨rfl, hb⟩)
         replace H := qh (H.out.below hb)
         replace HK := qh (HK.out.below hb)
         clear hb N2
         have HGB := qh hbK
         clear HKF hbK
         replace HS := qh (show res = andK K (fun a => bindP (bindP (labelsF g) fun l => needF sCol (bindP bd fun b => retP (mk 28 (r1, r2) sNil 0 [l, b]))) (fun x => (fun a => tokP (tT sBar) (fun _ => bindP (armsF g bd f a) (fun l => tokP (tT sElse) (fun t => bindP bd fun b => endS 63 (p1, p2) sNil (l ++ [mk 30 t.2.1 sNil 0 [b]])) (endS 63 (p1, p2) sNil l))) ((fun l => tokP (tT sElse) (fun t => bindP bd fun b => endS 63 (p1, p2) sNil (l ++ [mk 30 t.2.1 sNil 0 [b]])) (endS 63 (p1, p2) sNil l)) a)) (a ++ [x]))) L by
          rw [HS.out]
          refine (and_congr fun a => ?_)
          rw [St.arms_step, if_neg (by rw [hO]; simp), HP2.out]
          simp only [St.bind_assoc, St.need_bind, St.ret_bind])
         clear HP2 hO HAO
         rename Except Nat (List T1 × Nat) => KM
         obtain ⟨wa, hwa⟩ : ∃ wa, wa = wx := ⟨_, rfl⟩
         have HM := qh (hwa ▸ H.out)
         have HKM := qh (hwa ▸ HK.out)
         have hbra : br < wa.heap.size := by have := HM.out.2.size; omega
         have hwsz : w.heap.size ≤ wa.heap.size := HM.out.2.size
         rw [← hwa]
         clear H HK hwa
         have NW := qh (node7 (B := wa.heap.size) (w := wa) (Nat.le_refl _) 28 28 rfl r1 r2)
         go_wp2_with fail
         ((with_reducible refine NW.out.mono ?_); rintro e wn ⟨ba, rfl, hb, hk, hbl⟩)
         obtain ⟨RA, hRA⟩ : ∃ RA, RA = goK KM (bindP (labelsF g) fun l => needF sCol (bindP bd fun b => retP (mk 28 (r1, r2) sNil 0 [l, b]))) L := ⟨_, rfl⟩
         have HRA := qh hRA
         obtain ⟨resA, hrA⟩ : ∃ r, r = (bindP (labelsF g) fun l => needF sCol (bindP bd fun b => retP (mk 28 (r1, r2) sNil 0 [l, b]))) L (posE KM) := ⟨_, rfl⟩
         have HRE := qh (show RA = resA by rw [hRA, hrA, go_at, HGB.out]; rfl)
         obtain ⟨K, hK⟩ : ∃ K : Except Nat (List T1 × Nat), K = .ok ([], posE KM) := ⟨_, rfl⟩
         have HA0 := qh (show QInv w0 wa br A c L (posE KM) false from HGB.out ▸ HM.out.1)
         have HBDM := HBD
         have HSM := HS
         clear HS HBD
         have H := qh (show QG w0 wa wn br A c L (posE K) (badE K) by rw [hK]; exact (QG.start HA0.out).below hb)
         have HK := qh (show KU wa.heap.size wn ba ⟨28, (r1, r2), sNil, 0⟩ (.slice none 0 0) K [] by rw [hK]; exact KU.start hk)
         have HBD := qh (show Bd (n0) 60000 K by rw [hK]; exact ⟨(fun _ => HBDM.out.lo HGB.out), HBDM.out.hi⟩)
         have hxlM := hxl
         clear hxl
         have hxl : ([] : List Value).length ≤ 0 := Nat.le_refl _
         have HS := qh (show resA = andK K (fun a => bindP (labelsF g) (fun x => (fun a => needF sCol (bindP bd (fun x => (fun a => retP (mk 28 (r1, r2) sNil 0 a)) (a ++ [x])))) (a ++ [x]))) L by rw [hrA, hK]; rfl)
         have HK0 := qh hK
         clear hb hk NW hK hbl hRA hrA
         have D1 := qh (show Calls _ _ _ _ (RefU wn.drew.heap.size w0 wn.drew br A c L (goK K (labelsF g) L)) from by rw [HK0.out]; exact HLB.out (posE KM) (by have := HBDM.out.hi; omega) wn.drew (by have := H.out; rw [HK0.out] at this; exact (this.below ((Below.refl _ _).drew)).1))
         have HD := qh (H.out.below ((Below.refl _ _).drew))
         have HKD := qh (HK.out.below ((Below.refl _ _).drew))
         obtain ⟨m4, m4f, hbl4⟩ := HK.out.kn.facts
         have hxl2 : ([] : List Value).length ≤ 1000000 := by omega
         obtain ⟨K1, hK1⟩ : ∃ K1, K1 = pushK K (goK K (labelsF g) L) := ⟨_, rfl⟩
         have HK1 := qh hK1
         have HBD1 := qh (show Bd (n0) 60000 K1 by rw [hK1]; exact HBD.out.push St.g2_labels (by omega))
         replace HS := qh (show resA = andK K1 (fun a => needF sCol (bindP bd (fun x => (fun a => retP (mk 28 (r1, r2) sNil 0 a)) (a ++ [x])))) L by rw [hK1]; exact HS.out.trans (and_push (Q := (fun a => needF sCol (bindP bd (fun x => (fun a => retP (mk 28 (r1, r2) sNil 0 a)) (a ++ [x])))))))
         clear hK1
         go_upto_region 7 with fail
         go_cut [] from 59 to 71 (fun wc => Hid (QG w0 wa wc br A c L (posE K1) (badE K1) ∧ ∃ svc xsc, KU wa.heap.size wc ba ⟨28, (r1, r2), sNil, 0⟩ svc K1 xsc ∧ xsc.length ≤ 0 + 1))
         case first =>
          go_region_law (first
           | (go_simp; go_at_call 79; (with_reducible refine D1.out.mono ?_); rintro e x5 ⟨p9, rfl, hp, hgr, hr⟩; have HKX := qh (HKD.out.grown hgr hbra); have HY := qh (HKD.out.new hr); have HX := qh (HD.out.trans ⟨hp, hgr⟩); clear hp hgr hr; obtain ⟨t4, t4f, hbx⟩ := HKX.out.kn.facts; have Q := kid_facts (p := p9) x5.heap.size rfl (Nat.le_trans HKX.out.kn.low (Nat.le_of_lt hbx)) HKX.out.kn.own hxl2)
           | (refine step_append_lies _ (by rfl) _ _ _ (by rfl) wa.heap.size 26 i0 _ 1 8 Try.underlying40 hi0 hz0 hz1 hz2 rfl (by omega) (.slice none 0 0) ([] : List Value).length ([] : List Value) (by rfl) Q.out.2.2.2.2 ⟨x5.heap.size, 0, none⟩ 1 1 [.pointer p9] (by rfl) (by rfl) Q.out.1 Q.out.2.1 (by omega) Q.out.2.2.1 (by omega) Q.out.2.2.2.1 (x5.heap.size + 1) (by simp) ?_; intro g' cap w5 hown1 hgrow hor hlt5; obtain ⟨s4, s4f, hb5⟩ := KN.after (HKX.out.kn.below ((Below.refl _ _).alloc (Nat.le_refl _) _)) hgrow; have K2 := qh (KU.step (HKX.out.below ((Below.refl _ _).alloc (Nat.le_refl _) _)) (fun x j e => (HY.out x j e).below ((Below.refl _ _).alloc (Nat.le_refl _) _)) hown1 hgrow (hor.imp id fun e => e.trans (World.size_alloc _ _).symm)); have H2 := qh (QG.pushed (QG.hung HX.out HA0.out _ hgrow (fun k e => (HKX.out.kn.own.lt _ e).1) (u := .slice (some ⟨g', 0, none⟩) (([] : List Value).length + 1) cap) HKX.out.kn.low)); clear hown1 hgrow hor hlt5))
          all_goals
           go_wp2_with fail
           go_meet
           exact qh ⟨(by rw [HK1.out]; exact H2.out), _, _, (by rw [HK1.out]; exact K2.out), (by simp only [List.length_append, List.length_cons, List.length_nil] at hxl ⊢; omega)⟩
         case rest =>
          obtain ⟨hc1, svc, xsc, hc2, hxl⟩ := hcut.out
          clear HK0
          clear HK H hxl2 HKD HD hcut D1 HK1 HBD m4 m4f hbl4 K
          have H := qh hc1
          have HK := qh hc2
          have HBD := HBD1
          clear hc1 hc2 HBD1
          rename Except Nat (List T1 × Nat) => K
          have ND := qh (uneed HT.out HOK.out (K := K) (by have := HBD.out.hi; omega) sCol _ H.out.1 (by decide))
          go_wp2_with fail
          ((with_reducible refine ND.out.mono ?_); rintro e wx ⟨rfl, hb⟩)
          obtain ⟨K1, hK1⟩ : ∃ K1, K1 = needK K sCol L := ⟨_, rfl⟩
          replace H := qh (show QG w0 wa wx br A c L (posE K1) (badE K1) by rw [hK1]; exact H.out.trans hb)
          replace HK := qh (show KU wa.heap.size wx ba _ _ K1 _ by rw [hK1]; exact (HK.out.grown hb.2 hbra).to_ need_to)
          replace HBD := qh (show Bd (n0) 60000 K1 by rw [hK1]; exact HBD.out.need (by omega))
          replace HS := qh (show resA = andK K1 (fun a => bindP bd (fun x => (fun a => retP (mk 28 (r1, r2) sNil 0 a)) (a ++ [x]))) L by rw [hK1]; exact HS.out.trans (and_need (Q := (fun a => bindP bd (fun x => (fun a => retP (mk 28 (r1, r2) sNil 0 a)) (a ++ [x]))))))
          clear hb ND hK1
          clear K
          rename Except Nat (List T1 × Nat) => K
          have D1 := qh (show Calls _ _ _ _ (RefU wx.drew.heap.size w0 wx.drew br A c L (goK K bd L)) from UB.out.at_ (HBD.out.weak (by omega)) (Nat.le_refl _) wx.drew (H.out.below ((Below.refl _ _).drew)).1)
          have HD := qh (H.out.below ((Below.refl _ _).drew))
          have HKD := qh (HK.out.below ((Below.refl _ _).drew))
          obtain ⟨m4, m4f, hbl4⟩ := HK.out.kn.facts
          have hxl2 : xsc.length ≤ 1000000 := by omega
          obtain ⟨K1, hK1⟩ : ∃ K1, K1 = pushK K (goK K bd L) := ⟨_, rfl⟩
          have HK1 := qh hK1
          have HBD1 := qh (show Bd (n0) 60000 K1 by rw [hK1]; exact HBD.out.push HG2.out (by omega))
          replace HS := qh (show resA = andK K1 (fun a => retP (mk 28 (r1, r2) sNil 0 a)) L by rw [hK1]; exact HS.out.trans (and_push (Q := (fun a => retP (mk 28 (r1, r2) sNil 0 a)))))
          clear hK1
          go_upto_region 9 with fail
          go_cut [] from 76 to 86 (fun wc => Hid (QG w0 wa wc br A c L (posE K1) (badE K1) ∧ ∃ svc xsc, KU wa.heap.size wc ba ⟨28, (r1, r2), sNil, 0⟩ svc K1 xsc ∧ xsc.length ≤ 0 + 1 + 1))
          case first =>
           go_region_law (first
            | (go_simp; go_at_call 18; (with_reducible refine D1.out.mono ?_); rintro e x5 ⟨p9, rfl, hp, hgr, hr⟩; have HKX := qh (HKD.out.grown hgr hbra); have HY := qh (HKD.out.new hr); have HX := qh (HD.out.trans ⟨hp, hgr⟩); clear hp hgr hr; obtain ⟨t4, t4f, hbx⟩ := HKX.out.kn.facts; have Q := kid_facts (p := p9) x5.heap.size rfl (Nat.le_trans HKX.out.kn.low (Nat.le_of_lt hbx)) HKX.out.kn.own hxl2)
            | (refine step_append_lies _ (by rfl) _ _ _ (by rfl) wa.heap.size 26 i0 _ 1 8 Try.underlying40 hi0 hz0 hz1 hz2 rfl (by omega) svc xsc.length xsc (by rfl) Q.out.2.2.2.2 ⟨x5.heap.size, 0, none⟩ 1 1 [.pointer p9] (by rfl) (by rfl) Q.out.1 Q.out.2.1 (by omega) Q.out.2.2.1 (by omega) Q.out.2.2.2.1 (x5.heap.size + 1) (by simp) ?_; intro g' cap w5 hown1 hgrow hor hlt5; obtain ⟨s4, s4f, hb5⟩ := KN.after (HKX.out.kn.below ((Below.refl _ _).alloc (Nat.le_refl _) _)) hgrow; have K2 := qh (KU.step (HKX.out.below ((Below.refl _ _).alloc (Nat.le_refl _) _)) (fun x j e => (HY.out x j e).below ((Below.refl _ _).alloc (Nat.le_refl _) _)) hown1 hgrow (hor.imp id fun e => e.trans (World.size_alloc _ _).symm)); have H2 := qh (QG.pushed (QG.hung HX.out HA0.out _ hgrow (fun k e => (HKX.out.kn.own.lt _ e).1) (u := .slice (some ⟨g', 0, none⟩) (xsc.length + 1) cap) HKX.out.kn.low)); clear hown1 hgrow hor hlt5))
           all_goals
            go_wp2_with fail
            go_meet
            exact qh ⟨(by rw [HK1.out]; exact H2.out), _, _, (by rw [HK1.out]; exact K2.out), (by simp only [List.length_append, List.length_cons, List.length_nil] at hxl ⊢; omega)⟩
          case rest =>
           obtain ⟨hc1, svc, xsc, hc2, hxl⟩ := hcut.out
           clear HK H hxl2 HKD HD hcut D1 HK1 HBD m4 m4f hbl4 K
           have H := qh hc1
           have HK := qh hc2
           have HBD := HBD1
           clear hc1 hc2 HBD1
           rename Except Nat (List T1 × Nat) => K
           obtain ⟨hpA, hbA, hrA⟩ := HK.out.tree HS.out
           have HKW := qh (HKM.out.grown H.out.2 hbr0)
           have HY := qh (HKM.out.new hrA)
           have HW := qh (show QG w0 w wc br A c L (posE resA) (badE resA) by rw [hpA, hbA]; exact ⟨H.out.1, grown_trans HM.out.2 H.out.2⟩)
           obtain ⟨m4, m4f, hbl4⟩ := HKW.out.kn.facts
           have hxl2 : xs.length ≤ 1000000 := by omega
           have Q := kid_facts (p := some ⟨ba, 0, none⟩) wc.heap.size rfl (Nat.le_trans HKW.out.kn.low (Nat.le_of_lt hbl4)) HKW.out.kn.own hxl2
           clear hpA hbA hrA H HK HS HBD hxl
           clear K
           go_wp2_with (at_builtin; refine wpList_append_lies _ rfl _ _ _ rfl w.heap.size 26 i0 _ 1 8 Try.underlying40 hi0 hz0 hz1 hz2 rfl (by omega) sv xs.length xs rfl Q.out.2.2.2.2 ⟨wc.heap.size, 0, none⟩ 1 1 [.pointer (some ⟨ba, 0, none⟩)] rfl rfl Q.out.1 Q.out.2.1 (by omega) Q.out.2.2.1 (by omega) Q.out.2.2.2.1 (wc.heap.size + 1) (by rw [World.size_alloc]) ?_; intro g' cap w5 hown1 hgrow hor hlt5; obtain ⟨s4, s4f, hb5⟩ := KN.after (HKW.out.kn.below ((Below.refl _ _).alloc (Nat.le_refl _) _)) hgrow; have K2 := qh (KU.step (HKW.out.below ((Below.refl _ _).alloc (Nat.le_refl _) _)) (fun x j e => (HY.out x j e).below ((Below.refl _ _).alloc (Nat.le_refl _) _)) hown1 hgrow (hor.imp id fun e => e.trans (World.size_alloc _ _).symm)); have H2 := qh (QG.hung HW.out H0.out _ hgrow (fun k e => (HKW.out.kn.own.lt _ e).1) (u := .slice (some ⟨g', 0, none⟩) (xs.length + 1) cap) HKW.out.kn.low); clear hown1 hgrow hor hlt5)
           go_wp2_with fail
           go_meet
           exact qh ⟨pushK KM RA, _, _, (by rw [HRA.out, pos_push.1, pos_push.2, ← HRA.out, HRE.out]; exact H2.out), (by rw [HRE.out]; exact K2.out), (by rw [HRA.out]; exact HBDM.out.push (HGA.out _) (by omega)), (by simp only [List.length_append, List.length_cons, List.length_nil]; omega), (by rw [HRA.out]; intro e; rw [pos_push.1]; rw [pos_push.2] at e; have := (HBDM.out.go (HGA.out _) (by omega)).2 e; omega), (by rw [HRA.out, ← and_push (Q := (fun a => tokP (tT sBar) (fun _ => bindP (armsF g bd f a) (fun l => tokP (tT sElse) (fun t => bindP bd fun b => endS 63 (p1, p2) sNil (l ++ [mk 30 t.2.1 sNil 0 [b]])) (endS 63 (p1, p2) sNil l))) ((fun l => tokP (tT sElse) (fun t => bindP bd fun b => endS 63 (p1, p2) sNil (l ++ [mk 30 t.2.1 sNil 0 [b]])) (endS 63 (p1, p2) sNil l)) a)))]; exact HSM.out)⟩
      case rest =>
       obtain ⟨K1, svm, xsm, h1_, h2_, h3_, hxl9, hf9, h4_⟩ := hcut.out
       clear H HK HS HBD hxl hcut HAO HN0 hbK
       clear K
       rename Except Nat (List T1 × Nat) => K
       have H := qh h1_
       have HK := qh h2_
       have HBD := qh (h3_.weak (show lo + 1 ≤ n0 by omega))
       have HBN := qh h3_
       have HS := qh h4_
       have hxl : xsm.length ≤ 130000 := by omega
       clear h1_ h2_ h3_ h4_ hf9
       have hpk := HBD.out.hi
       cases hE : eatK K sBar L with
       | false =>
         have EA := qh (ueat_no HT.out HOK.out (K := K) (by omega) sBar _ H.out.1 (by decide) hE)
         replace HS := qh (show res = andK K (fun l => tokP (tT sElse) (fun t => bindP bd fun b => endS 63 (p1, p2) sNil (l ++ [mk 30 t.2.1 sNil 0 [b]])) (endS 63 (p1, p2) sNil l)) L from HS.out.trans (and_eat_no (A := (fun a _ => bindP (armsF g bd f a) (fun l => tokP (tT sElse) (fun t => bindP bd fun b => endS 63 (p1, p2) sNil (l ++ [mk 30 t.2.1 sNil 0 [b]])) (endS 63 (p1, p2) sNil l)))) (B := (fun l => tokP (tT sElse) (fun t => bindP bd fun b => endS 63 (p1, p2) sNil (l ++ [mk 30 t.2.1 sNil 0 [b]])) (endS 63 (p1, p2) sNil l))) hE))
         clear hE hpk
         go_wp2_with fail
         ((with_reducible refine EA.out.mono ?_); rintro e wx ⟨rfl, hb⟩)
         replace H := qh (show QG w0 w wx br A c L (posE K) (badE K) from H.out.trans hb)
         replace HK := qh (HK.out.grown hb.2 hbr0)
         clear hb EA
         clear HBN hxl9
         have n2 := HRN.out (posE K) _ (by have := HBD.out.hi; omega) _ H.out.1
         obtain ⟨k8, r1, r2, s1, s2, t8, n8, e1, e2⟩ := val_form (tk L (posE K))
         rw [e2] at n2
         have N2 := qh n2
         have HP2 := qh (show (tk L (posE K)).2.1 = (r1, r2) by rw [e1])
         clear n2 e1 e2
         go_wp2_with fail
         ((with_reducible refine N2.out.mono ?_); rintro e wx ⟨rfl, hb⟩)
         replace H := qh (H.out.below hb)
         replace HK := qh (HK.out.below hb)
         clear hb N2
         have hpk := HBD.out.hi
         cases hE : eatK K sElse L with
         | false =>
           have EA := qh (ueatw_no HT.out HOK.out (K := K) (by omega) sElse _ H.out.1 (by decide) hE)
           replace HS := qh (show res = andK K (fun l => endS 63 (p1, p2) sNil l) L from HS.out.trans (and_eat_no (A := (fun l t => bindP bd fun b => endS 63 (p1, p2) sNil (l ++ [mk 30 t.2.1 sNil 0 [b]]))) (B := (fun l => endS 63 (p1, p2) sNil l)) hE))
           clear hE hpk
           go_wp2_with fail
           ((with_reducible refine EA.out.mono ?_); rintro e wx ⟨rfl, hb⟩)
           replace H := qh (show QG w0 w wx br A c L (posE K) (badE K) from H.out.trans hb)
           replace HK := qh (HK.out.grown hb.2 hbr0)
           clear hb EA
           clear HP2
           replace HS := qh (show res = andK K (fun a => needF sEnd ((fun a => retP (mk 63 (p1, p2) sNil 0 a)) a)) L from HS.out)
           have ND := qh (uneedw HT.out HOK.out (K := K) (by have := HBD.out.hi; omega) sEnd _ H.out.1 (by decide))
           go_wp2_with fail
           ((with_reducible refine ND.out.mono ?_); rintro e wx ⟨rfl, hb⟩)
           obtain ⟨K1, hK1⟩ : ∃ K1, K1 = needK K sEnd L := ⟨_, rfl⟩
           replace H := qh (show QG w0 w wx br A c L (posE K1) (badE K1) by rw [hK1]; exact H.out.trans hb)
           replace HK := qh (show KU w.heap.size wx b _ _ K1 _ by rw [hK1]; exact (HK.out.grown hb.2 hbr0).to_ need_to)
           replace HBD := qh (show Bd (lo + 1) 60000 K1 by rw [hK1]; exact HBD.out.need (by omega))
           replace HS := qh (show res = andK K1 (fun a => retP (mk 63 (p1, p2) sNil 0 a)) L by rw [hK1]; exact HS.out.trans (and_need (Q := (fun a => retP (mk 63 (p1, p2) sNil 0 a)))))
           clear hb ND hK1
           clear K
           rename Except Nat (List T1 × Nat) => K
           go_wp2
           go_ret
           exact HK.out.done H.out HS.out
         | true =>
           have EA := qh (ueatw_yes HT.out HOK.out (K := K) (by omega) sElse _ H.out.1 (by decide) hE)
           have hadv := pos_adv hE
           obtain ⟨K1, hK1⟩ : ∃ K1, K1 = advK K := ⟨_, rfl⟩
           replace HS := qh (show res = andK K1 (fun acc => (fun l t => bindP bd fun b => endS 63 (p1, p2) sNil (l ++ [mk 30 t.2.1 sNil 0 [b]])) acc (tk L (posE K))) L by rw [hK1]; exact HS.out.trans (and_eat_yes (A := (fun l t => bindP bd fun b => endS 63 (p1, p2) sNil (l ++ [mk 30 t.2.1 sNil 0 [b]]))) (B := (fun l => endS 63 (p1, p2) sNil l)) hE))
           replace HBD := qh (show Bd (lo + 1) 60000 K1 by rw [hK1]; exact HBD.out.adv (by omega) hE)
           go_wp2_with fail
           ((with_reducible refine EA.out.mono ?_); rintro e wx ⟨rfl, hb⟩)
           replace H := qh (show QG w0 w wx br A c L (posE (advK K)) (badE (advK K)) from H.out.trans hb)
           replace HK := qh (HK.out.grown hb.2 hbr0)
           clear hb EA
           replace HK := qh (show KU w.heap.size wx b _ _ K1 _ by rw [hK1]; exact HK.out.to_ adv_to)
           replace H := qh (show QG w0 w wx br A c L (posE K1) (badE K1) by rw [hK1]; exact H.out)
           have hp1 : posE K1 = posE K + 1 ∧ badE K1 = false ∧ badE K = false ∧ posE K < L.length := by rw [hK1]; exact hadv
           clear hadv hE hpk hK1
           replace HS := qh (show res = andK K1 (fun l => bindP bd fun b => endS 63 (p1, p2) sNil (l ++ [mk 30 (r1, r2) sNil 0 [b]])) L by rw [HS.out, HP2.out])
           have HGB := qh hp1.2.1
           clear hp1 HP2
           clear K
           rename Except Nat (List T1 × Nat) => KM
           obtain ⟨wa, hwa⟩ : ∃ wa, wa = wx := ⟨_, rfl⟩
           have HM := qh (hwa ▸ H.out)
           have HKM := qh (hwa ▸ HK.out)
           have hbra : br < wa.heap.size := by have := HM.out.2.size; omega
           have hwsz : w.heap.size ≤ wa.heap.size := HM.out.2.size
           rw [← hwa]
           clear H HK hwa
           have NW := qh (node7 (B := wa.heap.size) (w := wa) (Nat.le_refl _) 30 30 rfl r1 r2)
           go_wp2_with fail
           ((with_reducible refine NW.out.mono ?_); rintro e wn ⟨ba, rfl, hb, hk, hbl⟩)
           obtain ⟨RA, hRA⟩ : ∃ RA, RA = goK KM (bindP bd fun b => retP (mk 30 (r1, r2) sNil 0 [b])) L := ⟨_, rfl⟩
           have HRA := qh hRA
           obtain ⟨resA, hrA⟩ : ∃ r, r = (bindP bd fun b => retP (mk 30 (r1, r2) sNil 0 [b])) L (posE KM) := ⟨_, rfl⟩
           have HRE := qh (show RA = resA by rw [hRA, hrA, go_at, HGB.out]; rfl)
           obtain ⟨K, hK⟩ : ∃ K : Except Nat (List T1 × Nat), K = .ok ([], posE KM) := ⟨_, rfl⟩
           have HA0 := qh (show QInv w0 wa br A c L (posE KM) false from HGB.out ▸ HM.out.1)
           have HBDM := HBD
           have HSM := HS
           clear HS HBD
           have H := qh (show QG w0 wa wn br A c L (posE K) (badE K) by rw [hK]; exact (QG.start HA0.out).below hb)
           have HK := qh (show KU wa.heap.size wn ba ⟨30, (r1, r2), sNil, 0⟩ (.slice none 0 0) K [] by rw [hK]; exact KU.start hk)
           have HBD := qh (show Bd (lo + 1) 60000 K by rw [hK]; exact ⟨(fun _ => HBDM.out.lo HGB.out), HBDM.out.hi⟩)
           have hxlM := hxl
           clear hxl
           have hxl : ([] : List Value).length ≤ 0 := Nat.le_refl _
           have HS := qh (show resA = andK K (fun a => bindP bd (fun x => (fun a => retP (mk 30 (r1, r2) sNil 0 a)) (a ++ [x]))) L by rw [hrA, hK]; rfl)
           have HK0 := qh hK
           clear hb hk NW hK hbl hRA hrA
           clear HK0
           have D1 := qh (show Calls _ _ _ _ (RefU wn.drew.heap.size w0 wn.drew br A c L (goK K bd L)) from UB.out.at_ (HBD.out.weak (by omega)) (Nat.le_refl _) wn.drew (H.out.below ((Below.refl _ _).drew)).1)
           have HD := qh (H.out.below ((Below.refl _ _).drew))
           have HKD := qh (HK.out.below ((Below.refl _ _).drew))
           obtain ⟨m4, m4f, hbl4⟩ := HK.out.kn.facts
           have hxl2 : ([] : List Value).length ≤ 1000000 := by omega
           obtain ⟨K1, hK1⟩ : ∃ K1, K1 = pushK K (goK K bd L) := ⟨_, rfl⟩
           have HK1 := qh hK1
           have HBD1 := qh (show Bd (lo + 1) 60000 K1 by rw [hK1]; exact HBD.out.push HG2.out (by omega))
           replace HS := qh (show resA = andK K1 (fun a => retP (mk 30 (r1, r2) sNil 0 a)) L by rw [hK1]; exact HS.out.trans (and_push (Q := (fun a => retP (mk 30 (r1, r2) sNil 0 a)))))
           clear hK1
           go_upto_region 15 with fail
           go_cut [] from 113 to 123 (fun wc => Hid (QG w0 wa wc br A c L (posE K1) (badE K1) ∧ ∃ svc xsc, KU wa.heap.size wc ba ⟨30, (r1, r2), sNil, 0⟩ svc K1 xsc ∧ xsc.length ≤ 0 + 1))
           case first =>
            go_region_law (first
             | (go_simp; go_at_call 18; (with_reducible refine D1.out.mono ?_); rintro e x5 ⟨p9, rfl, hp, hgr, hr⟩; have HKX := qh (HKD.out.grown hgr hbra); have HY := qh (HKD.out.new hr); have HX := qh (HD.out.trans ⟨hp, hgr⟩); clear hp hgr hr; obtain ⟨t4, t4f, hbx⟩ := HKX.out.kn.facts; have Q := kid_facts (p := p9) x5.heap.size rfl (Nat.le_trans HKX.out.kn.low (Nat.le_of_lt hbx)) HKX.out.kn.own hxl2)
             | (refine step_append_lies _ (by rfl) _ _ _ (by rfl) wa.heap.size 26 i0 _ 1 8 Try.underlying40 hi0 hz0 hz1 hz2 rfl (by omega) (.slice none 0 0) ([] : List Value).length ([] : List Value) (by rfl) Q.out.2.2.2.2 ⟨x5.heap.size, 0, none⟩ 1 1 [.pointer p9] (by rfl) (by rfl) Q.out.1 Q.out.2.1 (by omega) Q.out.2.2.1 (by omega) Q.out.2.2.2.1 (x5.heap.size + 1) (by simp) ?_; intro g' cap w5 hown1 hgrow hor hlt5; obtain ⟨s4, s4f, hb5⟩ := KN.after (HKX.out.kn.below ((Below.refl _ _).alloc (Nat.le_refl _) _)) hgrow; have K2 := qh (KU.step (HKX.out.below ((Below.refl _ _).alloc (Nat.le_refl _) _)) (fun x j e => (HY.out x j e).below ((Below.refl _ _).alloc (Nat.le_refl _) _)) hown1 hgrow (hor.imp id fun e => e.trans (World.size_alloc _ _).symm)); have H2 := qh (QG.pushed (QG.hung HX.out HA0.out _ hgrow (fun k e => (HKX.out.kn.own.lt _ e).1) (u := .slice (some ⟨g', 0, none⟩) (([] : List Value).length + 1) cap) HKX.out.kn.low)); clear hown1 hgrow hor hlt5))
            all_goals
             go_wp2_with fail
             go_meet
             exact qh ⟨(by rw [HK1.out]; exact H2.out), _, _, (by rw [HK1.out]; exact K2.out), (by simp only [List.length_append, List.length_cons, List.length_nil] at hxl ⊢; omega)⟩
           case rest =>
            obtain ⟨hc1, svc, xsc, hc2, hxl⟩ := hcut.out
            clear HK H hxl2 HKD HD hcut D1 HK1 HBD m4 m4f hbl4 K
            have H := qh hc1
            have HK := qh hc2
            have HBD := HBD1
            clear hc1 hc2 HBD1
            rename Except Nat (List T1 × Nat) => K
            obtain ⟨hpA, hbA, hrA⟩ := HK.out.tree HS.out
            have HKW := qh (HKM.out.grown H.out.2 hbr0)
            have HY := qh (HKM.out.new hrA)
            have HW := qh (show QG w0 w wc br A c L (posE resA) (badE resA) by rw [hpA, hbA]; exact ⟨H.out.1, grown_trans HM.out.2 H.out.2⟩)
            obtain ⟨m4, m4f, hbl4⟩ := HKW.out.kn.facts
            have hxl2 : xsm.length ≤ 1000000 := by omega
            have Q := kid_facts (p := some ⟨ba, 0, none⟩) wc.heap.size rfl (Nat.le_trans HKW.out.kn.low (Nat.le_of_lt hbl4)) HKW.out.kn.own hxl2
            clear hpA hbA hrA H HK HS HBD hxl
            clear K
            go_wp2_with (at_builtin; refine wpList_append_lies _ rfl _ _ _ rfl w.heap.size 26 i0 _ 1 8 Try.underlying40 hi0 hz0 hz1 hz2 rfl (by omega) svm xsm.length xsm rfl Q.out.2.2.2.2 ⟨wc.heap.size, 0, none⟩ 1 1 [.pointer (some ⟨ba, 0, none⟩)] rfl rfl Q.out.1 Q.out.2.1 (by omega) Q.out.2.2.1 (by omega) Q.out.2.2.2.1 (wc.heap.size + 1) (by rw [World.size_alloc]) ?_; intro g' cap w5 hown1 hgrow hor hlt5; obtain ⟨s4, s4f, hb5⟩ := KN.after (HKW.out.kn.below ((Below.refl _ _).alloc (Nat.le_refl _) _)) hgrow; have K2 := qh (KU.step (HKW.out.below ((Below.refl _ _).alloc (Nat.le_refl _) _)) (fun x j e => (HY.out x j e).below ((Below.refl _ _).alloc (Nat.le_refl _) _)) hown1 hgrow (hor.imp id fun e => e.trans (World.size_alloc _ _).symm)); have H2 := qh (QG.hung HW.out H0.out _ hgrow (fun k e => (HKW.out.kn.own.lt _ e).1) (u := .slice (some ⟨g', 0, none⟩) (xsm.length + 1) cap) HKW.out.kn.low); clear hown1 hgrow hor hlt5)
            obtain ⟨K1, hK1⟩ : ∃ K1, K1 = pushK KM RA := ⟨_, rfl⟩
            have H := qh (show QG w0 w _ br A c L (posE K1) (badE K1) by rw [hK1, HRA.out, pos_push.1, pos_push.2, ← HRA.out, HRE.out]; exact H2.out)
            have HK := qh (show KU w.heap.size _ b _ _ K1 _ by rw [hK1, HRE.out]; exact K2.out)
            have HBD := qh (show Bd (lo + 1) 60000 K1 by rw [hK1, HRA.out]; exact HBDM.out.push (St.g2_bind HG2.out fun b => St.g2_ret _) (by omega))
            have HS := qh (show res = andK K1 (fun a => needF sEnd ((fun a => retP (mk 63 (p1, p2) sNil 0 a)) a)) L by
             rw [hK1, HRA.out, ← and_push (Q := (fun a => needF sEnd ((fun a => retP (mk 63 (p1, p2) sNil 0 a)) a))), HSM.out]
             refine congrArg (fun q => andK KM q L) (funext fun a => ?_)
             simp only [St.bind_assoc, St.ret_bind]
             rfl)
            clear hK1 H2 K2 HRA HRE HSM HBDM HM HKM HKW HY HW Q m4 m4f hbl4 HA0 hbra hwsz HGB
            clear KM
            clear RA
            clear resA
            rename Except Nat (List T1 × Nat) => K
            have ND := qh (uneedw HT.out HOK.out (K := K) (by have := HBD.out.hi; omega) sEnd _ H.out.1 (by decide))
            go_wp2_with fail
            ((with_reducible refine ND.out.mono ?_); rintro e wx ⟨rfl, hb⟩)
            obtain ⟨K1, hK1⟩ : ∃ K1, K1 = needK K sEnd L := ⟨_, rfl⟩
            replace H := qh (show QG w0 w wx br A c L (posE K1) (badE K1) by rw [hK1]; exact H.out.trans hb)
            replace HK := qh (show KU w.heap.size wx b _ _ K1 _ by rw [hK1]; exact (HK.out.grown hb.2 hbr0).to_ need_to)
            replace HBD := qh (show Bd (lo + 1) 60000 K1 by rw [hK1]; exact HBD.out.need (by omega))
            replace HS := qh (show res = andK K1 (fun a => retP (mk 63 (p1, p2) sNil 0 a)) L by rw [hK1]; exact HS.out.trans (and_need (Q := (fun a => retP (mk 63 (p1, p2) sNil 0 a)))))
            clear hb ND hK1
            clear K
            rename Except Nat (List T1 × Nat) => K
            go_wp2
            go_ret
            exact HK.out.done H.out HS.out
       | true =>
         have EA := qh (ueat_yes HT.out HOK.out (K := K) (by omega) sBar _ H.out.1 (by decide) hE)
         have hadv := pos_adv hE
         obtain ⟨K1, hK1⟩ : ∃ K1, K1 = advK K := ⟨_, rfl⟩
         replace HS := qh (show res = andK K1 (fun acc => (fun a _ => bindP (armsF g bd f a) (fun l => tokP (tT sElse) (fun t => bindP bd fun b => endS 63 (p1, p2) sNil (l ++ [mk 30 t.2.1 sNil 0 [b]])) (endS 63 (p1, p2) sNil l))) acc (tk L (posE K))) L by rw [hK1]; exact HS.out.trans (and_eat_yes (A := (fun a _ => bindP (armsF g bd f a) (fun l => tokP (tT sElse) (fun t => bindP bd fun b => endS 63 (p1, p2) sNil (l ++ [mk 30 t.2.1 sNil 0 [b]])) (endS 63 (p1, p2) sNil l)))) (B := (fun l => tokP (tT sElse) (fun t => bindP bd fun b => endS 63 (p1, p2) sNil (l ++ [mk 30 t.2.1 sNil 0 [b]])) (endS 63 (p1, p2) sNil l))) hE))
         replace HBD := qh (show Bd (lo + 1) 60000 K1 by rw [hK1]; exact HBD.out.adv (by omega) hE)
         go_wp2_with fail
         ((with_reducible refine EA.out.mono ?_); rintro e wx ⟨rfl, hb⟩)
         replace H := qh (show QG w0 w wx br A c L (posE (advK K)) (badE (advK K)) from H.out.trans hb)
         replace HK := qh (HK.out.grown hb.2 hbr0)
         clear hb EA
         replace HK := qh (show KU w.heap.size wx b _ _ K1 _ by rw [hK1]; exact HK.out.to_ adv_to)
         replace H := qh (show QG w0 w wx br A c L (posE K1) (badE K1) by rw [hK1]; exact H.out)
         have hp1 : posE K1 = posE K + 1 ∧ badE K1 = false ∧ badE K = false ∧ posE K < L.length := by rw [hK1]; exact hadv
         clear hadv hE hpk hK1
         replace HS := qh (show res = andK K1 (fun a => bindP (armsF g bd f a) (fun l => tokP (tT sElse) (fun t => bindP bd fun b => endS 63 (p1, p2) sNil (l ++ [mk 30 t.2.1 sNil 0 [b]])) (endS 63 (p1, p2) sNil l))) L from HS.out)
         have hq2 : posE K1 = posE K + 1 ∧ n0 ≤ posE K ∧ posE K < L.length := ⟨hp1.1, HBN.out.lo hp1.2.2.1, hp1.2.2.2⟩
         go_wp2
         go_roundg (mzK L.length K1)
         case measure =>
          unfold mzK
          rw [hp1.2.1]
          simp only [Bool.false_eq_true, if_false]
          omega
         case rel => exact qh ⟨K1, svm, xsm, f, rfl, H.out, HK.out, HBD.out, (fun e => by omega), hxl, (fun e => by omega), HS.out⟩
end Go.Proofs.Ytecmjhohniipoaa.Rs
end
