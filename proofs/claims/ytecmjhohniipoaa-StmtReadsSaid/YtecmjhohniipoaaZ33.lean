/- A part of the proof: V7. -/
import Derived.Test.YtecmjhohniipoaaZ1
import Derived.Test.YtecmjhohniipoaaZ30
import Derived.Deep.Cut
import Derived.Deep.CutBlock
import Derived.Deep.CutRange
import Derived.Deep.AppendLies
import Derived.Deep.LoopGhost
set_option linter.unusedSimpArgs false
set_option linter.unusedVariables false

section
namespace Go.Proofs.Ytecmjhohniipoaa.Rs
open Go.RowKit
open Tr (Nd Fo RepS RepN Rep cellsN)
open Lx (Tk noTk Blk run_store_complexL TokAt)
open Fl
open Ex
attribute [local go_sem] run_store_complexL run_field1 run_field3 St.run_field0
open St (sSem sAsg sCol sBar sIf sThen sElsif sElse sEnd sCase sOf sWhile sDo sRepeat sUntil sLoop sExit sFor sTo sBy sWith sReturn isWd6 whileS repS loopS exitS withS endS ifS ifsF elseS caseS armsF armOut forS forE returnS retOut plainS bodyR bodyG stmS stmL alts)
theorem ku_ex {B b n : Nat} {w : World} {d : Nd} {sv : Value} {xs : List Value} {K : Except Nat (List T1 × Nat)} (h : KU B w b d sv K xs) (hn : xs.length ≤ n) : ∃ sv xs, KU B w b d sv K xs ∧ xs.length ≤ n := ⟨_, _, h, hn⟩
set_option maxRecDepth 100000 in set_option maxHeartbeats 6400000 in
theorem rcounts {g : Nat} {w0 : World} {br c : Nat} {A : Option Addr} {L : List PT} (ht : Toks w0 br A L) (ok : OKRow L) (hg : L.length < g) {bd : Par T1} (hb2 : St.Good2 bd) {lo : Nat} (hB : UnOK 18 bd (lo + 1) w0 br A c L) (i : Nat) (hlo : lo + 1 ≤ i) (hi : i ≤ 60000) (p1 p2 : Nat) (w : World) (h : QInv w0 w br A c L i false) :
 Calls Try.prog 65 #[.pointer (some ⟨br, 0, none⟩), .complex .f64 (fl p1) (fl p2)] w (RefU w.heap.size w0 w br A c L (forS g bd (p1, p2) L i)) := by
 have hbr0 := h.row.lt
 have hlen := ht.len
 have H0 := qh h
 have H := qh (QG.start h)
 have HT := qh ht
 have HOK := qh ok
 have HG2 := qh hb2
 have UE := qh ((un_of (c := c) (rexpr_all ht ok) (fun j => expr_fuel hg j) (bexpr ht)).mono (Nat.zero_le (lo + 1)))
 have UB := qh hB
 obtain ⟨i0, hi0, hz0, hz1, hz2⟩ := info_parts infoN
 obtain ⟨res, hs0⟩ : ∃ r, r = forS g bd (p1, p2) L i := ⟨_, rfl⟩
 rw [← hs0]
 have hk1 := Nat.eq_or_lt_of_le (Nat.zero_le i)
 clear hk1
 have HNO := qh (fun (w : World) (h : QInv w0 w br A c L i false) (hT : ¬ (tk L i).1.kind = 1) => rname_no (c := c) ht (i := i) (by omega) w h hT)
 have HNY := qh (fun (w : World) (h : QInv w0 w br A c L i false) (B : Nat) (hB : B ≤ w.heap.size) (hT : (tk L i).1.kind = 1) => rname_ok (c := c) ht (i := i) (by omega) w h hB hT)
 have HS0 := qh hs0
 clear h ht ok hb2 hB hs0
 go_enter Try.func65, Try.ntmps65
 have NW := qh (node7 (B := w.heap.size) (w := w) (Nat.le_refl _) 68 68 rfl p1 p2)
 go_wp2_with fail
 ((with_reducible refine NW.out.mono ?_); rintro e wn ⟨b, rfl, hb, hk, hbl⟩)
 replace H := qh (H.out.below hb)
 have HK0 := qh hk
 clear hb hk hbl NW
 by_cases hk1 : (tk L i).1.kind = 1
 ·have hil : i < L.length := by
   rcases Nat.lt_or_ge i L.length with h | h
   ·exact h
   ·rw [kind_end h] at hk1; cases hk1
  have NM := qh (HNY.out wn H.out.1 w.heap.size H.out.2.size hk1)
  obtain ⟨t, htt⟩ : ∃ t, t = (tk L i).1.text := ⟨_, rfl⟩
  have HS1 := qh (show res = andK (.ok ([], i + 1)) (fun a => needF sAsg ((fun a => bindP (exprF g) (fun x => (fun a => needF sTo ((fun a => bindP (exprF g) (fun x => (fun a => tokP (tT sBy) (fun _ => bindP (exprF g) (fun x => (fun a => needF sDo ((fun a => bindP bd (fun x => (fun a => needF sEnd ((fun a => retP (mk 68 (p1, p2) t 0 a)) a)) (a ++ [x]))) a)) (a ++ [x]))) ((fun a => needF sDo ((fun a => bindP bd (fun x => (fun a => needF sEnd ((fun a => retP (mk 68 (p1, p2) t 0 a)) a)) (a ++ [x]))) a)) (a ++ [zeroT]))) (a ++ [x]))) a)) (a ++ [x]))) a)) L by rw [HS0.out]; unfold forS; rw [St.tok_y (show St.isNm (tk L i) = true by unfold St.isNm; rw [hk1]; rfl), ← htt]; rfl)
  clear hk1 HS0
  go_wp2_with fail
  ((with_reducible refine NM.out.mono ?_); rintro e wx ⟨bn, rfl, hp, hg, hr⟩)
  replace H := qh (H.out.trans ⟨hp, hg⟩)
  have HK1 := qh (HK0.out.grown hg hbr0 (Nat.le_refl _))
  obtain ⟨_, rn, _, rl⟩ := rep_root hr
  rw [show (mk 1 (pos L i) (tk L i).1.text 0 []).1.name = (tk L i).1.text from rfl, ← htt] at rn
  obtain ⟨-, -, m2, -, hlt⟩ := H.out.1.at_
  have c2 : wx.cell? ⟨b, 2, none⟩ = some (.string sNil) := HK1.out.kn.blk.cell 2
  have c2f := HK1.out.kn.blk.frozen 2
  have c2l := HK1.out.kn.blk.lt
  have HKT := qh (show KG w.heap.size w.heap.size (wx.setCell ⟨b, 2, none⟩ (.string t)) b ⟨68, (p1, p2), t, 0⟩ (.slice none 0 0) [] [] from ⟨HK1.out.kn.retag rfl, (by unfold forest; unfold RepS; rfl), rfl⟩)
  have HT2 := qh (H.out.far H0.out HK1.out.kn.low 2 (.string t))
  clear htt hp hg hr NM HK0
  go_wp2_with fail
  clear rn rl m2 hlt c2 c2f c2l HK1 H
  generalize wx.setCell ⟨b, 2, none⟩ (.string t) = ws at *
  obtain ⟨K, hK⟩ : ∃ K : Except Nat (List T1 × Nat), K = .ok ([], i + 1) := ⟨_, rfl⟩
  have H := qh (show QG w0 w ws br A c L (posE K) (badE K) by rw [hK]; exact HT2.out)
  have HK := qh (show KU w.heap.size ws b ⟨68, (p1, p2), t, 0⟩ (.slice none 0 0) K [] by rw [hK]; exact KU.start HKT.out)
  have HBD := qh (show Bd (lo + 1) 60000 K by rw [hK]; exact ⟨(fun _ => by show lo + 1 ≤ i + 1; omega), by show i + 1 ≤ 60000; omega⟩)
  have HS := qh (show res = andK K (fun a => needF sAsg ((fun a => bindP (exprF g) (fun x => (fun a => needF sTo ((fun a => bindP (exprF g) (fun x => (fun a => tokP (tT sBy) (fun _ => bindP (exprF g) (fun x => (fun a => needF sDo ((fun a => bindP bd (fun x => (fun a => needF sEnd ((fun a => retP (mk 68 (p1, p2) t 0 a)) a)) (a ++ [x]))) a)) (a ++ [x]))) ((fun a => needF sDo ((fun a => bindP bd (fun x => (fun a => needF sEnd ((fun a => retP (mk 68 (p1, p2) t 0 a)) a)) (a ++ [x]))) a)) (a ++ [zeroT]))) (a ++ [x]))) a)) (a ++ [x]))) a)) L by rw [hK]; exact HS1.out)
  have hxl : ([] : List Value).length ≤ 0 := Nat.le_refl _
  clear hK HT2 HKT HS1
  have ND := qh (uneed HT.out HOK.out (K := K) (by have := HBD.out.hi; omega) sAsg _ H.out.1 (by decide))
  go_wp2_with fail
  ((with_reducible refine ND.out.mono ?_); rintro e wx ⟨rfl, hb⟩)
  obtain ⟨K1, hK1⟩ : ∃ K1, K1 = needK K sAsg L := ⟨_, rfl⟩
  replace H := qh (show QG w0 w wx br A c L (posE K1) (badE K1) by rw [hK1]; exact H.out.trans hb)
  replace HK := qh (show KU w.heap.size wx b _ _ K1 _ by rw [hK1]; exact (HK.out.grown hb.2 hbr0).to_ need_to)
  replace HBD := qh (show Bd (lo + 1) 60000 K1 by rw [hK1]; exact HBD.out.need (by omega))
  replace HS := qh (show res = andK K1 (fun a => bindP (exprF g) (fun x => (fun a => needF sTo ((fun a => bindP (exprF g) (fun x => (fun a => tokP (tT sBy) (fun _ => bindP (exprF g) (fun x => (fun a => needF sDo ((fun a => bindP bd (fun x => (fun a => needF sEnd ((fun a => retP (mk 68 (p1, p2) t 0 a)) a)) (a ++ [x]))) a)) (a ++ [x]))) ((fun a => needF sDo ((fun a => bindP bd (fun x => (fun a => needF sEnd ((fun a => retP (mk 68 (p1, p2) t 0 a)) a)) (a ++ [x]))) a)) (a ++ [zeroT]))) (a ++ [x]))) a)) (a ++ [x]))) L by rw [hK1]; exact HS.out.trans (and_need (Q := (fun a => bindP (exprF g) (fun x => (fun a => needF sTo ((fun a => bindP (exprF g) (fun x => (fun a => tokP (tT sBy) (fun _ => bindP (exprF g) (fun x => (fun a => needF sDo ((fun a => bindP bd (fun x => (fun a => needF sEnd ((fun a => retP (mk 68 (p1, p2) t 0 a)) a)) (a ++ [x]))) a)) (a ++ [x]))) ((fun a => needF sDo ((fun a => bindP bd (fun x => (fun a => needF sEnd ((fun a => retP (mk 68 (p1, p2) t 0 a)) a)) (a ++ [x]))) a)) (a ++ [zeroT]))) (a ++ [x]))) a)) (a ++ [x]))))))
  clear hb ND hK1
  clear K
  rename Except Nat (List T1 × Nat) => K
  have D1 := qh (show Calls _ _ _ _ (RefU wx.drew.heap.size w0 wx.drew br A c L (goK K (exprF g) L)) from UE.out.at_ (HBD.out.weak (by omega)) (Nat.le_refl _) wx.drew (H.out.below ((Below.refl _ _).drew)).1)
  have HD := qh (H.out.below ((Below.refl _ _).drew))
  have HKD := qh (HK.out.below ((Below.refl _ _).drew))
  obtain ⟨m4, m4f, hbl4⟩ := HK.out.kn.facts
  have hxl2 : ([] : List Value).length ≤ 1000000 := by omega
  obtain ⟨K1, hK1⟩ : ∃ K1, K1 = pushK K (goK K (exprF g) L) := ⟨_, rfl⟩
  have HK1 := qh hK1
  have HBD1 := qh (show Bd (lo + 1) 60000 K1 by rw [hK1]; exact HBD.out.push St.g2_expr (by omega))
  replace HS := qh (show res = andK K1 (fun a => needF sTo ((fun a => bindP (exprF g) (fun x => (fun a => tokP (tT sBy) (fun _ => bindP (exprF g) (fun x => (fun a => needF sDo ((fun a => bindP bd (fun x => (fun a => needF sEnd ((fun a => retP (mk 68 (p1, p2) t 0 a)) a)) (a ++ [x]))) a)) (a ++ [x]))) ((fun a => needF sDo ((fun a => bindP bd (fun x => (fun a => needF sEnd ((fun a => retP (mk 68 (p1, p2) t 0 a)) a)) (a ++ [x]))) a)) (a ++ [zeroT]))) (a ++ [x]))) a)) L by rw [hK1]; exact HS.out.trans (and_push (Q := (fun a => needF sTo ((fun a => bindP (exprF g) (fun x => (fun a => tokP (tT sBy) (fun _ => bindP (exprF g) (fun x => (fun a => needF sDo ((fun a => bindP bd (fun x => (fun a => needF sEnd ((fun a => retP (mk 68 (p1, p2) t 0 a)) a)) (a ++ [x]))) a)) (a ++ [x]))) ((fun a => needF sDo ((fun a => bindP bd (fun x => (fun a => needF sEnd ((fun a => retP (mk 68 (p1, p2) t 0 a)) a)) (a ++ [x]))) a)) (a ++ [zeroT]))) (a ++ [x]))) a)))))
  clear hK1
  go_upto_region 7 with fail
  go_cut [] from 29 to 41 (fun wc => Hid (QG w0 w wc br A c L (posE K1) (badE K1) ∧ ∃ svc xsc, KU w.heap.size wc b ⟨68, (p1, p2), t, 0⟩ svc K1 xsc ∧ xsc.length ≤ 0 + 1))
  case first =>
   go_region_law (first
    | (go_simp; go_at_call 63; (with_reducible refine D1.out.mono ?_); rintro e x5 ⟨p9, rfl, hp, hgr, hr⟩; have HKX := qh (HKD.out.grown hgr hbr0); have HY := qh (HKD.out.new hr); have HX := qh (HD.out.trans ⟨hp, hgr⟩); clear hp hgr hr; obtain ⟨t4, t4f, hbx⟩ := HKX.out.kn.facts; have Q := kid_facts (p := p9) x5.heap.size rfl (Nat.le_trans HKX.out.kn.low (Nat.le_of_lt hbx)) HKX.out.kn.own hxl2)
    | (refine step_append_lies _ (by rfl) _ _ _ (by rfl) w.heap.size 26 i0 _ 1 8 Try.underlying40 hi0 hz0 hz1 hz2 rfl (by omega) (.slice none 0 0) ([] : List Value).length ([] : List Value) (by rfl) Q.out.2.2.2.2 ⟨x5.heap.size, 0, none⟩ 1 1 [.pointer p9] (by rfl) (by rfl) Q.out.1 Q.out.2.1 (by omega) Q.out.2.2.1 (by omega) Q.out.2.2.2.1 (x5.heap.size + 1) (by simp) ?_; intro g' cap w5 hown1 hgrow hor hlt5; obtain ⟨s4, s4f, hb5⟩ := KN.after (HKX.out.kn.below ((Below.refl _ _).alloc (Nat.le_refl _) _)) hgrow; have K2 := qh (KU.step (HKX.out.below ((Below.refl _ _).alloc (Nat.le_refl _) _)) (fun x j e => (HY.out x j e).below ((Below.refl _ _).alloc (Nat.le_refl _) _)) hown1 hgrow (hor.imp id fun e => e.trans (World.size_alloc _ _).symm)); have H2 := qh (QG.pushed (QG.hung HX.out H0.out _ hgrow (fun k e => (HKX.out.kn.own.lt _ e).1) (u := .slice (some ⟨g', 0, none⟩) (([] : List Value).length + 1) cap) HKX.out.kn.low)); clear hown1 hgrow hor hlt5))
   all_goals
    go_wp2_with fail
    go_meet
    exact qh ⟨(by rw [HK1.out]; exact H2.out), _, _, (by rw [HK1.out]; exact K2.out), (by simp only [List.length_append, List.length_cons, List.length_nil] at hxl ⊢; omega)⟩
  case rest =>
   obtain ⟨hc1, svc, xsc, hc2, hxl⟩ := hcut.out
   clear HK H hxl2 HKD HD hcut D1 HK1 HBD m4 m4f hbl4 K
   have H := qh hc1
   have HK := qh hc2
   have HBD := HBD1
   clear hc1 hc2 HBD1
   rename Except Nat (List T1 × Nat) => K
   have ND := qh (uneedw HT.out HOK.out (K := K) (by have := HBD.out.hi; omega) sTo _ H.out.1 (by decide))
   go_wp2_with fail
   ((with_reducible refine ND.out.mono ?_); rintro e wx ⟨rfl, hb⟩)
   obtain ⟨K1, hK1⟩ : ∃ K1, K1 = needK K sTo L := ⟨_, rfl⟩
   replace H := qh (show QG w0 w wx br A c L (posE K1) (badE K1) by rw [hK1]; exact H.out.trans hb)
   replace HK := qh (show KU w.heap.size wx b _ _ K1 _ by rw [hK1]; exact (HK.out.grown hb.2 hbr0).to_ need_to)
   replace HBD := qh (show Bd (lo + 1) 60000 K1 by rw [hK1]; exact HBD.out.need (by omega))
   replace HS := qh (show res = andK K1 (fun a => bindP (exprF g) (fun x => (fun a => tokP (tT sBy) (fun _ => bindP (exprF g) (fun x => (fun a => needF sDo ((fun a => bindP bd (fun x => (fun a => needF sEnd ((fun a => retP (mk 68 (p1, p2) t 0 a)) a)) (a ++ [x]))) a)) (a ++ [x]))) ((fun a => needF sDo ((fun a => bindP bd (fun x => (fun a => needF sEnd ((fun a => retP (mk 68 (p1, p2) t 0 a)) a)) (a ++ [x]))) a)) (a ++ [zeroT]))) (a ++ [x]))) L by rw [hK1]; exact HS.out.trans (and_need (Q := (fun a => bindP (exprF g) (fun x => (fun a => tokP (tT sBy) (fun _ => bindP (exprF g) (fun x => (fun a => needF sDo ((fun a => bindP bd (fun x => (fun a => needF sEnd ((fun a => retP (mk 68 (p1, p2) t 0 a)) a)) (a ++ [x]))) a)) (a ++ [x]))) ((fun a => needF sDo ((fun a => bindP bd (fun x => (fun a => needF sEnd ((fun a => retP (mk 68 (p1, p2) t 0 a)) a)) (a ++ [x]))) a)) (a ++ [zeroT]))) (a ++ [x]))))))
   clear hb ND hK1
   clear K
   rename Except Nat (List T1 × Nat) => K
   have D1 := qh (show Calls _ _ _ _ (RefU wx.drew.heap.size w0 wx.drew br A c L (goK K (exprF g) L)) from UE.out.at_ (HBD.out.weak (by omega)) (Nat.le_refl _) wx.drew (H.out.below ((Below.refl _ _).drew)).1)
   have HD := qh (H.out.below ((Below.refl _ _).drew))
   have HKD := qh (HK.out.below ((Below.refl _ _).drew))
   obtain ⟨m4, m4f, hbl4⟩ := HK.out.kn.facts
   have hxl2 : xsc.length ≤ 1000000 := by omega
   obtain ⟨K1, hK1⟩ : ∃ K1, K1 = pushK K (goK K (exprF g) L) := ⟨_, rfl⟩
   have HK1 := qh hK1
   have HBD1 := qh (show Bd (lo + 1) 60000 K1 by rw [hK1]; exact HBD.out.push St.g2_expr (by omega))
   replace HS := qh (show res = andK K1 (fun a => tokP (tT sBy) (fun _ => bindP (exprF g) (fun x => (fun a => needF sDo ((fun a => bindP bd (fun x => (fun a => needF sEnd ((fun a => retP (mk 68 (p1, p2) t 0 a)) a)) (a ++ [x]))) a)) (a ++ [x]))) ((fun a => needF sDo ((fun a => bindP bd (fun x => (fun a => needF sEnd ((fun a => retP (mk 68 (p1, p2) t 0 a)) a)) (a ++ [x]))) a)) (a ++ [zeroT]))) L by rw [hK1]; exact HS.out.trans (and_push (Q := (fun a => tokP (tT sBy) (fun _ => bindP (exprF g) (fun x => (fun a => needF sDo ((fun a => bindP bd (fun x => (fun a => needF sEnd ((fun a => retP (mk 68 (p1, p2) t 0 a)) a)) (a ++ [x]))) a)) (a ++ [x]))) ((fun a => needF sDo ((fun a => bindP bd (fun x => (fun a => needF sEnd ((fun a => retP (mk 68 (p1, p2) t 0 a)) a)) (a ++ [x]))) a)) (a ++ [zeroT]))))))
   clear hK1
   go_upto_region 9 with fail
   go_cut [] from 46 to 58 (fun wc => Hid (QG w0 w wc br A c L (posE K1) (badE K1) ∧ ∃ svc xsc, KU w.heap.size wc b ⟨68, (p1, p2), t, 0⟩ svc K1 xsc ∧ xsc.length ≤ 0 + 1 + 1))
   case first =>
    go_region_law (first
     | (go_simp; go_at_call 63; (with_reducible refine D1.out.mono ?_); rintro e x5 ⟨p9, rfl, hp, hgr, hr⟩; have HKX := qh (HKD.out.grown hgr hbr0); have HY := qh (HKD.out.new hr); have HX := qh (HD.out.trans ⟨hp, hgr⟩); clear hp hgr hr; obtain ⟨t4, t4f, hbx⟩ := HKX.out.kn.facts; have Q := kid_facts (p := p9) x5.heap.size rfl (Nat.le_trans HKX.out.kn.low (Nat.le_of_lt hbx)) HKX.out.kn.own hxl2)
     | (refine step_append_lies _ (by rfl) _ _ _ (by rfl) w.heap.size 26 i0 _ 1 8 Try.underlying40 hi0 hz0 hz1 hz2 rfl (by omega) svc xsc.length xsc (by rfl) Q.out.2.2.2.2 ⟨x5.heap.size, 0, none⟩ 1 1 [.pointer p9] (by rfl) (by rfl) Q.out.1 Q.out.2.1 (by omega) Q.out.2.2.1 (by omega) Q.out.2.2.2.1 (x5.heap.size + 1) (by simp) ?_; intro g' cap w5 hown1 hgrow hor hlt5; obtain ⟨s4, s4f, hb5⟩ := KN.after (HKX.out.kn.below ((Below.refl _ _).alloc (Nat.le_refl _) _)) hgrow; have K2 := qh (KU.step (HKX.out.below ((Below.refl _ _).alloc (Nat.le_refl _) _)) (fun x j e => (HY.out x j e).below ((Below.refl _ _).alloc (Nat.le_refl _) _)) hown1 hgrow (hor.imp id fun e => e.trans (World.size_alloc _ _).symm)); have H2 := qh (QG.pushed (QG.hung HX.out H0.out _ hgrow (fun k e => (HKX.out.kn.own.lt _ e).1) (u := .slice (some ⟨g', 0, none⟩) (xsc.length + 1) cap) HKX.out.kn.low)); clear hown1 hgrow hor hlt5))
    all_goals
     go_wp2_with fail
     go_meet
     exact qh ⟨(by rw [HK1.out]; exact H2.out), _, _, (by rw [HK1.out]; exact K2.out), (by simp only [List.length_append, List.length_cons, List.length_nil] at hxl ⊢; omega)⟩
   case rest =>
    obtain ⟨hc1, svc, xsc, hc2, hxl⟩ := hcut.out
    clear HK H hxl2 HKD HD hcut D1 HK1 HBD m4 m4f hbl4 K
    have H := qh hc1
    have HK := qh hc2
    have HBD := HBD1
    clear hc1 hc2 HBD1
    rename Except Nat (List T1 × Nat) => K
    have hpk := HBD.out.hi
    cases hE : eatK K sBy L with
    | false =>
      have EA := qh (ueatw_no HT.out HOK.out (K := K) (by omega) sBy _ H.out.1 (by decide) hE)
      replace HS := qh (show res = andK K (fun a => (fun a => needF sDo ((fun a => bindP bd (fun x => (fun a => needF sEnd ((fun a => retP (mk 68 (p1, p2) t 0 a)) a)) (a ++ [x]))) a)) (a ++ [zeroT])) L from HS.out.trans (and_eat_no (A := (fun a _ => bindP (exprF g) (fun x => (fun a => needF sDo ((fun a => bindP bd (fun x => (fun a => needF sEnd ((fun a => retP (mk 68 (p1, p2) t 0 a)) a)) (a ++ [x]))) a)) (a ++ [x])))) (B := (fun a => (fun a => needF sDo ((fun a => bindP bd (fun x => (fun a => needF sEnd ((fun a => retP (mk 68 (p1, p2) t 0 a)) a)) (a ++ [x]))) a)) (a ++ [zeroT]))) hE))
      clear hE hpk
      go_wp2_with fail
      ((with_reducible refine EA.out.mono ?_); rintro e wx ⟨rfl, hb⟩)
      replace H := qh (show QG w0 w wx br A c L (posE K) (badE K) from H.out.trans hb)
      replace HK := qh (HK.out.grown hb.2 hbr0)
      clear hb EA
      have hxl2 : xsc.length ≤ 1000000 := by omega
      have ZB := qh ((Below.refl wx.heap.size wx).alloc (Nat.le_refl _) (.cells #[.int .u8 0, .complex .f64 0 0, .string ⟨#[]⟩, .int .i64 0, .slice none 0 0] 42))
      have HKZ := qh (HK.out.below ZB.out)
      have HZ := qh (H.out.below ZB.out)
      have ZR := qh (Tr.zero_rep (S := fun y => w.heap.size ≤ y ∧ y ≠ b ∧ svc.ownBlock ≠ some y) wx ⟨H.out.2.size, (by have := HK.out.kn.blk.lt; omega), (fun e => by have := (HK.out.kn.own.lt _ e).2; omega)⟩)
      obtain ⟨m4, m4f, hbl4⟩ := HK.out.kn.facts
      have hzs : (wx.alloc (.cells #[.int .u8 0, .complex .f64 0 0, .string ⟨#[]⟩, .int .i64 0, .slice none 0 0] 42)).heap.size = wx.heap.size + 1 := World.size_alloc _ _
      have Q := kid_facts (W := wx.alloc (.cells #[.int .u8 0, .complex .f64 0 0, .string ⟨#[]⟩, .int .i64 0, .slice none 0 0] 42)) (p := some ⟨wx.heap.size, 0, none⟩) (wx.heap.size + 1) hzs (by have := HKZ.out.kn.low; have := HKZ.out.kn.blk.lt; omega) HKZ.out.kn.own hxl2
      obtain ⟨K1, hK1⟩ : ∃ K1, K1 = pushK K (.ok (zeroT, posE K)) := ⟨_, rfl⟩
      have hpk : posE K1 = posE K ∧ badE K1 = badE K := by rw [hK1]; rcases K with k | ⟨acc, j⟩ <;> exact ⟨rfl, rfl⟩
      have HPK := qh hpk
      have HK1 := qh hK1
      have HZS := qh hzs
      replace HS := qh (show res = andK K1 (fun a => needF sDo ((fun a => bindP bd (fun x => (fun a => needF sEnd ((fun a => retP (mk 68 (p1, p2) t 0 a)) a)) (a ++ [x]))) a)) L by rw [HS.out, hK1]; rcases K with k | ⟨acc, j⟩ <;> rfl)
      clear hzs hpk hK1 ZB
      go_wp2_with (at_builtin; refine wpList_append_lies _ rfl _ _ _ rfl w.heap.size 26 i0 _ 1 8 Try.underlying40 hi0 hz0 hz1 hz2 rfl (by omega) svc xsc.length xsc rfl Q.out.2.2.2.2 ⟨wx.heap.size + 1, 0, none⟩ 1 1 [.pointer (some ⟨wx.heap.size, 0, none⟩)] rfl rfl Q.out.1 Q.out.2.1 (by omega) Q.out.2.2.1 (by omega) Q.out.2.2.2.1 (wx.heap.size + 1 + 1) (by rw [World.size_alloc, World.size_alloc]) ?_; intro g' cap w5 hown1 hgrow hor hlt5; obtain ⟨s4, s4f, hb5⟩ := KN.after (HKZ.out.kn.below ((Below.refl _ _).alloc (Nat.le_refl _) _)) hgrow; have K2 := qh (KU.step (R := .ok (zeroT, posE K)) (HKZ.out.below ((Below.refl _ _).alloc (Nat.le_refl _) _)) (fun x j e => by cases e; exact ZR.out.below ((Below.refl _ _).alloc (Nat.le_refl _) _)) hown1 hgrow (hor.imp id fun e => e.trans (by rw [World.size_alloc, World.size_alloc]))); have H2 := qh (QG.hung HZ.out H0.out _ hgrow (fun k e => (HKZ.out.kn.own.lt _ e).1) (u := .slice (some ⟨g', 0, none⟩) (xsc.length + 1) cap) HKZ.out.kn.low); clear hown1 hgrow hor hlt5)
      replace H := qh (show QG w0 w _ br A c L (posE K1) (badE K1) by rw [HPK.out.1, HPK.out.2]; exact H2.out)
      replace HK := qh (show KU w.heap.size _ b _ _ K1 _ by rw [HK1.out]; exact K2.out)
      replace HBD := qh (show Bd (lo + 1) 60000 K1 from ⟨(fun e => by rw [HPK.out.1]; exact HBD.out.lo (by rw [← HPK.out.2]; exact e)), by rw [HPK.out.1]; exact HBD.out.hi⟩)
      obtain ⟨svn, xsn, hkn, hxn⟩ := ku_ex HK.out (show (xsc ++ [Value.pointer (some ⟨wx.heap.size, 0, none⟩)]).length ≤ 3 by simp only [List.length_append, List.length_cons, List.length_nil]; omega)
      clear H2 K2 HPK HK1 HKZ HZ ZR Q m4 m4f hbl4 hxl2 HZS hxl HK
      have hxl := hxn
      have HK := qh hkn
      clear hxn hkn
      clear K
      rename Except Nat (List T1 × Nat) => K
      have ND := qh (uneedw HT.out HOK.out (K := K) (by have := HBD.out.hi; omega) sDo _ H.out.1 (by decide))
      go_wp2_with fail
      ((with_reducible refine ND.out.mono ?_); rintro e wx ⟨rfl, hb⟩)
      obtain ⟨K1, hK1⟩ : ∃ K1, K1 = needK K sDo L := ⟨_, rfl⟩
      replace H := qh (show QG w0 w wx br A c L (posE K1) (badE K1) by rw [hK1]; exact H.out.trans hb)
      replace HK := qh (show KU w.heap.size wx b _ _ K1 _ by rw [hK1]; exact (HK.out.grown hb.2 hbr0).to_ need_to)
      replace HBD := qh (show Bd (lo + 1) 60000 K1 by rw [hK1]; exact HBD.out.need (by omega))
      replace HS := qh (show res = andK K1 (fun a => bindP bd (fun x => (fun a => needF sEnd ((fun a => retP (mk 68 (p1, p2) t 0 a)) a)) (a ++ [x]))) L by rw [hK1]; exact HS.out.trans (and_need (Q := (fun a => bindP bd (fun x => (fun a => needF sEnd ((fun a => retP (mk 68 (p1, p2) t 0 a)) a)) (a ++ [x]))))))
      clear hb ND hK1
      clear K
      rename Except Nat (List T1 × Nat) => K
      have D1 := qh (show Calls _ _ _ _ (RefU wx.drew.heap.size w0 wx.drew br A c L (goK K bd L)) from UB.out.at_ (HBD.out.weak (by omega)) (Nat.le_refl _) wx.drew (H.out.below ((Below.refl _ _).drew)).1)
      have HD := qh (H.out.below ((Below.refl _ _).drew))
      have HKD := qh (HK.out.below ((Below.refl _ _).drew))
      obtain ⟨m4, m4f, hbl4⟩ := HK.out.kn.facts
      have hxl2 : xsn.length ≤ 1000000 := by omega
      obtain ⟨K1, hK1⟩ : ∃ K1, K1 = pushK K (goK K bd L) := ⟨_, rfl⟩
      have HK1 := qh hK1
      have HBD1 := qh (show Bd (lo + 1) 60000 K1 by rw [hK1]; exact HBD.out.push HG2.out (by omega))
      replace HS := qh (show res = andK K1 (fun a => needF sEnd ((fun a => retP (mk 68 (p1, p2) t 0 a)) a)) L by rw [hK1]; exact HS.out.trans (and_push (Q := (fun a => needF sEnd ((fun a => retP (mk 68 (p1, p2) t 0 a)) a)))))
      clear hK1
      go_upto_region 14 with fail
      go_cut [] from 91 to 101 (fun wc => Hid (QG w0 w wc br A c L (posE K1) (badE K1) ∧ ∃ svc xsc, KU w.heap.size wc b ⟨68, (p1, p2), t, 0⟩ svc K1 xsc ∧ xsc.length ≤ 3 + 1))
      case first =>
       go_region_law (first
        | (go_simp; go_at_call 18; (with_reducible refine D1.out.mono ?_); rintro e x5 ⟨p9, rfl, hp, hgr, hr⟩; have HKX := qh (HKD.out.grown hgr hbr0); have HY := qh (HKD.out.new hr); have HX := qh (HD.out.trans ⟨hp, hgr⟩); clear hp hgr hr; obtain ⟨t4, t4f, hbx⟩ := HKX.out.kn.facts; have Q := kid_facts (p := p9) x5.heap.size rfl (Nat.le_trans HKX.out.kn.low (Nat.le_of_lt hbx)) HKX.out.kn.own hxl2)
        | (refine step_append_lies _ (by rfl) _ _ _ (by rfl) w.heap.size 26 i0 _ 1 8 Try.underlying40 hi0 hz0 hz1 hz2 rfl (by omega) svn xsn.length xsn (by rfl) Q.out.2.2.2.2 ⟨x5.heap.size, 0, none⟩ 1 1 [.pointer p9] (by rfl) (by rfl) Q.out.1 Q.out.2.1 (by omega) Q.out.2.2.1 (by omega) Q.out.2.2.2.1 (x5.heap.size + 1) (by simp) ?_; intro g' cap w5 hown1 hgrow hor hlt5; obtain ⟨s4, s4f, hb5⟩ := KN.after (HKX.out.kn.below ((Below.refl _ _).alloc (Nat.le_refl _) _)) hgrow; have K2 := qh (KU.step (HKX.out.below ((Below.refl _ _).alloc (Nat.le_refl _) _)) (fun x j e => (HY.out x j e).below ((Below.refl _ _).alloc (Nat.le_refl _) _)) hown1 hgrow (hor.imp id fun e => e.trans (World.size_alloc _ _).symm)); have H2 := qh (QG.pushed (QG.hung HX.out H0.out _ hgrow (fun k e => (HKX.out.kn.own.lt _ e).1) (u := .slice (some ⟨g', 0, none⟩) (xsn.length + 1) cap) HKX.out.kn.low)); clear hown1 hgrow hor hlt5))
       all_goals
        go_wp2_with fail
        go_meet
        exact qh ⟨(by rw [HK1.out]; exact H2.out), _, _, (by rw [HK1.out]; exact K2.out), (by simp only [List.length_append, List.length_cons, List.length_nil] at hxl ⊢; omega)⟩
      case rest =>
       obtain ⟨hc1, svc, xsc, hc2, hxl⟩ := hcut.out
       clear HK H hxl2 HKD HD hcut D1 HK1 HBD m4 m4f hbl4 K
       have H := qh hc1
       have HK := qh hc2
       have HBD := HBD1
       clear hc1 hc2 HBD1
       rename Except Nat (List T1 × Nat) => K
       have ND := qh (uneedw HT.out HOK.out (K := K) (by have := HBD.out.hi; omega) sEnd _ H.out.1 (by decide))
       go_wp2_with fail
       ((with_reducible refine ND.out.mono ?_); rintro e wx ⟨rfl, hb⟩)
       obtain ⟨K1, hK1⟩ : ∃ K1, K1 = needK K sEnd L := ⟨_, rfl⟩
       replace H := qh (show QG w0 w wx br A c L (posE K1) (badE K1) by rw [hK1]; exact H.out.trans hb)
       replace HK := qh (show KU w.heap.size wx b _ _ K1 _ by rw [hK1]; exact (HK.out.grown hb.2 hbr0).to_ need_to)
       replace HBD := qh (show Bd (lo + 1) 60000 K1 by rw [hK1]; exact HBD.out.need (by omega))
       replace HS := qh (show res = andK K1 (fun a => retP (mk 68 (p1, p2) t 0 a)) L by rw [hK1]; exact HS.out.trans (and_need (Q := (fun a => retP (mk 68 (p1, p2) t 0 a)))))
       clear hb ND hK1
       clear K
       rename Except Nat (List T1 × Nat) => K
       go_wp2
       go_ret
       exact HK.out.done H.out HS.out
    | true =>
      have EA := qh (ueatw_yes HT.out HOK.out (K := K) (by omega) sBy _ H.out.1 (by decide) hE)
      have hadv := pos_adv hE
      obtain ⟨K1, hK1⟩ : ∃ K1, K1 = advK K := ⟨_, rfl⟩
      replace HS := qh (show res = andK K1 (fun acc => (fun a _ => bindP (exprF g) (fun x => (fun a => needF sDo ((fun a => bindP bd (fun x => (fun a => needF sEnd ((fun a => retP (mk 68 (p1, p2) t 0 a)) a)) (a ++ [x]))) a)) (a ++ [x]))) acc (tk L (posE K))) L by rw [hK1]; exact HS.out.trans (and_eat_yes (A := (fun a _ => bindP (exprF g) (fun x => (fun a => needF sDo ((fun a => bindP bd (fun x => (fun a => needF sEnd ((fun a => retP (mk 68 (p1, p2) t 0 a)) a)) (a ++ [x]))) a)) (a ++ [x])))) (B := (fun a => (fun a => needF sDo ((fun a => bindP bd (fun x => (fun a => needF sEnd ((fun a => retP (mk 68 (p1, p2) t 0 a)) a)) (a ++ [x]))) a)) (a ++ [zeroT]))) hE))
      replace HBD := qh (show Bd (lo + 1) 60000 K1 by rw [hK1]; exact HBD.out.adv (by omega) hE)
      go_wp2_with fail
      ((with_reducible refine EA.out.mono ?_); rintro e wx ⟨rfl, hb⟩)
      replace H := qh (show QG w0 w wx br A c L (posE (advK K)) (badE (advK K)) from H.out.trans hb)
      replace HK := qh (HK.out.grown hb.2 hbr0)
      clear hb EA
      replace HK := qh (show KU w.heap.size wx b _ _ K1 _ by rw [hK1]; exact HK.out.to_ adv_to)
      replace H := qh (show QG w0 w wx br A c L (posE K1) (badE K1) by rw [hK1]; exact H.out)
      have hp1 : posE K1 = posE K + 1 ∧ badE K1 = false ∧ badE K = false ∧ posE K < L.length := by rw [hK1]; exact hadv
      clear hadv hE hpk hK1
      clear hp1
      clear K
      rename Except Nat (List T1 × Nat) => K
      have D1 := qh (show Calls _ _ _ _ (RefU wx.drew.heap.size w0 wx.drew br A c L (goK K (exprF g) L)) from UE.out.at_ (HBD.out.weak (by omega)) (Nat.le_refl _) wx.drew (H.out.below ((Below.refl _ _).drew)).1)
      have HD := qh (H.out.below ((Below.refl _ _).drew))
      have HKD := qh (HK.out.below ((Below.refl _ _).drew))
      obtain ⟨m4, m4f, hbl4⟩ := HK.out.kn.facts
      have hxl2 : xsc.length ≤ 1000000 := by omega
      obtain ⟨K1, hK1⟩ : ∃ K1, K1 = pushK K (goK K (exprF g) L) := ⟨_, rfl⟩
      have HK1 := qh hK1
      have HBD1 := qh (show Bd (lo + 1) 60000 K1 by rw [hK1]; exact HBD.out.push St.g2_expr (by omega))
      replace HS := qh (show res = andK K1 (fun a => needF sDo ((fun a => bindP bd (fun x => (fun a => needF sEnd ((fun a => retP (mk 68 (p1, p2) t 0 a)) a)) (a ++ [x]))) a)) L by rw [hK1]; exact HS.out.trans (and_push (Q := (fun a => needF sDo ((fun a => bindP bd (fun x => (fun a => needF sEnd ((fun a => retP (mk 68 (p1, p2) t 0 a)) a)) (a ++ [x]))) a)))))
      clear hK1
      go_wp2
      go_region_law (first
       | (go_simp; go_at_call 63; (with_reducible refine D1.out.mono ?_); rintro e x5 ⟨p9, rfl, hp, hgr, hr⟩; have HKX := qh (HKD.out.grown hgr hbr0); have HY := qh (HKD.out.new hr); have HX := qh (HD.out.trans ⟨hp, hgr⟩); clear hp hgr hr; obtain ⟨t4, t4f, hbx⟩ := HKX.out.kn.facts; have Q := kid_facts (p := p9) x5.heap.size rfl (Nat.le_trans HKX.out.kn.low (Nat.le_of_lt hbx)) HKX.out.kn.own hxl2)
       | (refine step_append_lies _ (by rfl) _ _ _ (by rfl) w.heap.size 26 i0 _ 1 8 Try.underlying40 hi0 hz0 hz1 hz2 rfl (by omega) svc xsc.length xsc (by rfl) Q.out.2.2.2.2 ⟨x5.heap.size, 0, none⟩ 1 1 [.pointer p9] (by rfl) (by rfl) Q.out.1 Q.out.2.1 (by omega) Q.out.2.2.1 (by omega) Q.out.2.2.2.1 (x5.heap.size + 1) (by simp) ?_; intro g' cap w5 hown1 hgrow hor hlt5; obtain ⟨s4, s4f, hb5⟩ := KN.after (HKX.out.kn.below ((Below.refl _ _).alloc (Nat.le_refl _) _)) hgrow; have K2 := qh (KU.step (HKX.out.below ((Below.refl _ _).alloc (Nat.le_refl _) _)) (fun x j e => (HY.out x j e).below ((Below.refl _ _).alloc (Nat.le_refl _) _)) hown1 hgrow (hor.imp id fun e => e.trans (World.size_alloc _ _).symm)); have H2 := qh (QG.pushed (QG.hung HX.out H0.out _ hgrow (fun k e => (HKX.out.kn.own.lt _ e).1) (u := .slice (some ⟨g', 0, none⟩) (xsc.length + 1) cap) HKX.out.kn.low)); clear hown1 hgrow hor hlt5))
      all_goals
       replace H := qh (show QG w0 w _ br A c L (posE K1) (badE K1) by rw [HK1.out]; exact H2.out)
       replace HK := qh (show KU w.heap.size _ b _ _ K1 _ by rw [HK1.out]; exact K2.out)
       replace HBD := HBD1
       clear HBD1 H2 K2 HKD HD HK1 D1 HX HKX HY m4 m4f hbl4 t4 t4f hxl2
       clear K
       rename Except Nat (List T1 × Nat) => K
       obtain ⟨svn, xsn, hkn, hxn⟩ := ku_ex HK.out (show (xsc ++ [Value.pointer p9]).length ≤ 3 by simp only [List.length_append, List.length_cons, List.length_nil]; omega)
       clear hxl HK
       have hxl := hxn
       have HK := qh hkn
       clear hxn hkn
       have ND := qh (uneedw HT.out HOK.out (K := K) (by have := HBD.out.hi; omega) sDo _ H.out.1 (by decide))
       go_wp2_with fail
       ((with_reducible refine ND.out.mono ?_); rintro e wx ⟨rfl, hb⟩)
       obtain ⟨K1, hK1⟩ : ∃ K1, K1 = needK K sDo L := ⟨_, rfl⟩
       replace H := qh (show QG w0 w wx br A c L (posE K1) (badE K1) by rw [hK1]; exact H.out.trans hb)
       replace HK := qh (show KU w.heap.size wx b _ _ K1 _ by rw [hK1]; exact (HK.out.grown hb.2 hbr0).to_ need_to)
       replace HBD := qh (show Bd (lo + 1) 60000 K1 by rw [hK1]; exact HBD.out.need (by omega))
       replace HS := qh (show res = andK K1 (fun a => bindP bd (fun x => (fun a => needF sEnd ((fun a => retP (mk 68 (p1, p2) t 0 a)) a)) (a ++ [x]))) L by rw [hK1]; exact HS.out.trans (and_need (Q := (fun a => bindP bd (fun x => (fun a => needF sEnd ((fun a => retP (mk 68 (p1, p2) t 0 a)) a)) (a ++ [x]))))))
       clear hb ND hK1
       clear K
       rename Except Nat (List T1 × Nat) => K
       have D1 := qh (show Calls _ _ _ _ (RefU wx.drew.heap.size w0 wx.drew br A c L (goK K bd L)) from UB.out.at_ (HBD.out.weak (by omega)) (Nat.le_refl _) wx.drew (H.out.below ((Below.refl _ _).drew)).1)
       have HD := qh (H.out.below ((Below.refl _ _).drew))
       have HKD := qh (HK.out.below ((Below.refl _ _).drew))
       obtain ⟨m4, m4f, hbl4⟩ := HK.out.kn.facts
       have hxl2 : xsn.length ≤ 1000000 := by omega
       obtain ⟨K1, hK1⟩ : ∃ K1, K1 = pushK K (goK K bd L) := ⟨_, rfl⟩
       have HK1 := qh hK1
       have HBD1 := qh (show Bd (lo + 1) 60000 K1 by rw [hK1]; exact HBD.out.push HG2.out (by omega))
       replace HS := qh (show res = andK K1 (fun a => needF sEnd ((fun a => retP (mk 68 (p1, p2) t 0 a)) a)) L by rw [hK1]; exact HS.out.trans (and_push (Q := (fun a => needF sEnd ((fun a => retP (mk 68 (p1, p2) t 0 a)) a)))))
       clear hK1
       go_upto_region 14 with fail
       go_cut [] from 91 to 101 (fun wc => Hid (QG w0 w wc br A c L (posE K1) (badE K1) ∧ ∃ svc xsc, KU w.heap.size wc b ⟨68, (p1, p2), t, 0⟩ svc K1 xsc ∧ xsc.length ≤ 3 + 1))
       case first =>
        go_region_law (first
         | (go_simp; go_at_call 18; (with_reducible refine D1.out.mono ?_); rintro e x5 ⟨p9, rfl, hp, hgr, hr⟩; have HKX := qh (HKD.out.grown hgr hbr0); have HY := qh (HKD.out.new hr); have HX := qh (HD.out.trans ⟨hp, hgr⟩); clear hp hgr hr; obtain ⟨t4, t4f, hbx⟩ := HKX.out.kn.facts; have Q := kid_facts (p := p9) x5.heap.size rfl (Nat.le_trans HKX.out.kn.low (Nat.le_of_lt hbx)) HKX.out.kn.own hxl2)
         | (refine step_append_lies _ (by rfl) _ _ _ (by rfl) w.heap.size 26 i0 _ 1 8 Try.underlying40 hi0 hz0 hz1 hz2 rfl (by omega) svn xsn.length xsn (by rfl) Q.out.2.2.2.2 ⟨x5.heap.size, 0, none⟩ 1 1 [.pointer p9] (by rfl) (by rfl) Q.out.1 Q.out.2.1 (by omega) Q.out.2.2.1 (by omega) Q.out.2.2.2.1 (x5.heap.size + 1) (by simp) ?_; intro g' cap w5 hown1 hgrow hor hlt5; obtain ⟨s4, s4f, hb5⟩ := KN.after (HKX.out.kn.below ((Below.refl _ _).alloc (Nat.le_refl _) _)) hgrow; have K2 := qh (KU.step (HKX.out.below ((Below.refl _ _).alloc (Nat.le_refl _) _)) (fun x j e => (HY.out x j e).below ((Below.refl _ _).alloc (Nat.le_refl _) _)) hown1 hgrow (hor.imp id fun e => e.trans (World.size_alloc _ _).symm)); have H2 := qh (QG.pushed (QG.hung HX.out H0.out _ hgrow (fun k e => (HKX.out.kn.own.lt _ e).1) (u := .slice (some ⟨g', 0, none⟩) (xsn.length + 1) cap) HKX.out.kn.low)); clear hown1 hgrow hor hlt5))
        all_goals
         go_wp2_with fail
         go_meet
         exact qh ⟨(by rw [HK1.out]; exact H2.out), _, _, (by rw [HK1.out]; exact K2.out), (by simp only [List.length_append, List.length_cons, List.length_nil] at hxl ⊢; omega)⟩
       case rest =>
        obtain ⟨hc1, svc, xsc, hc2, hxl⟩ := hcut.out
        clear HK H hxl2 HKD HD hcut D1 HK1 HBD m4 m4f hbl4 K
        have H := qh hc1
        have HK := qh hc2
        have HBD := HBD1
        clear hc1 hc2 HBD1
        rename Except Nat (List T1 × Nat) => K
        have ND := qh (uneedw HT.out HOK.out (K := K) (by have := HBD.out.hi; omega) sEnd _ H.out.1 (by decide))
        go_wp2_with fail
        ((with_reducible refine ND.out.mono ?_); rintro e wx ⟨rfl, hb⟩)
        obtain ⟨K1, hK1⟩ : ∃ K1, K1 = needK K sEnd L := ⟨_, rfl⟩
        replace H := qh (show QG w0 w wx br A c L (posE K1) (badE K1) by rw [hK1]; exact H.out.trans hb)
        replace HK := qh (show KU w.heap.size wx b _ _ K1 _ by rw [hK1]; exact (HK.out.grown hb.2 hbr0).to_ need_to)
        replace HBD := qh (show Bd (lo + 1) 60000 K1 by rw [hK1]; exact HBD.out.need (by omega))
        replace HS := qh (show res = andK K1 (fun a => retP (mk 68 (p1, p2) t 0 a)) L by rw [hK1]; exact HS.out.trans (and_need (Q := (fun a => retP (mk 68 (p1, p2) t 0 a)))))
        clear hb ND hK1
        clear K
        rename Except Nat (List T1 × Nat) => K
        go_wp2
        go_ret
        exact HK.out.done H.out HS.out
 ·have NM := qh (HNO.out wn H.out.1 hk1)
  have HS := qh (show res = .error i by rw [HS0.out]; unfold forS; rw [St.tok_n (show St.isNm (tk L i) = false by unfold St.isNm; simpa using hk1)]; rfl)
  clear hk1 HS0
  go_wp2_with fail
  ((with_reducible refine NM.out.mono ?_); rintro e wx ⟨rfl, hp, hg⟩)
  replace H := qh (H.out.trans ⟨hp, hg⟩)
  obtain ⟨-, -, m2, -, hlt⟩ := H.out.1.at_
  clear hp hg
  go_wp2
  go_ret
  rw [HS.out]
  exact ⟨_, rfl, H.out.1, H.out.2, (fun x j e => by cases e)⟩
end Go.Proofs.Ytecmjhohniipoaa.Rs
end
