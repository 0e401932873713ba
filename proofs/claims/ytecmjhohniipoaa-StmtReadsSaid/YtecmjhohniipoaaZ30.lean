/- A part of the proof: V5. -/
import Derived.Test.YtecmjhohniipoaaZ1
import Derived.Test.YtecmjhohniipoaaZ29
import Derived.Deep.Cut
import Derived.Deep.CutBlock
import Derived.Deep.CutRange
import Derived.Deep.AppendLies
import Derived.Deep.LoopGhost
set_option linter.unusedSimpArgs false
set_option linter.unusedVariables false

section
namespace Go.Proofs.Ytecmjhohniipoaa.Rs
open Go.RowKit
open Tr (Nd Fo RepS RepN Rep cellsN)
open Lx (Tk noTk Blk run_store_complexL TokAt)
open Fl
open Ex
attribute [local go_sem] run_store_complexL run_field1 run_field3 St.run_field0
open St (sSem sAsg sCol sBar sIf sThen sElsif sElse sEnd sCase sOf sWhile sDo sRepeat sUntil sLoop sExit sFor sTo sBy sWith sReturn isWd6 whileS repS loopS exitS withS endS ifS ifsF elseS caseS armsF armOut forS forE returnS retOut plainS bodyR bodyG stmS stmL alts)
set_option maxRecDepth 100000 in set_option maxHeartbeats 6400000 in
theorem rreturns {g : Nat} {w0 : World} {br c : Nat} {A : Option Addr} {L : List PT} (ht : Toks w0 br A L) (ok : OKRow L) (hg : L.length < g) {bd : Par T1} (hb2 : St.Good2 bd) {lo : Nat} (hB : UnOK 18 bd (lo + 1) w0 br A c L) (i : Nat) (hlo : lo + 1 ≤ i) (hi : i ≤ 60000) (p1 p2 : Nat) (w : World) (h : QInv w0 w br A c L i false) :
 Calls Try.prog 67 #[.pointer (some ⟨br, 0, none⟩), .complex .f64 (fl p1) (fl p2)] w (RefU w.heap.size w0 w br A c L (returnS g (p1, p2) L i)) := by
 have hbr0 := h.row.lt
 have hlen := ht.len
 have H0 := qh h
 have H := qh (QG.start h)
 have HT := qh ht
 have HOK := qh ok
 have HG2 := qh hb2
 have UE := qh ((un_of (c := c) (rexpr_all ht ok) (fun j => expr_fuel hg j) (bexpr ht)).mono (Nat.zero_le (lo + 1)))
 have UB := qh hB
 obtain ⟨i0, hi0, hz0, hz1, hz2⟩ := info_parts infoN
 obtain ⟨res, hs0⟩ : ∃ r, r = returnS g (p1, p2) L i := ⟨_, rfl⟩
 rw [← hs0]
 have HRN := qh (fun (w : World) (h : QInv w0 w br A c L i false) => rnow_any ht (i := i) (by omega) w h)
 have HS := qh (show res = (if retOut (tk L i) = true then retP (mk 70 (p1, p2) sNil 0 []) else bindP (exprF g) fun x => retP (mk 70 (p1, p2) sNil 0 [x])) L i from hs0)
 clear h ht ok hb2 hB hs0
 go_enter Try.func67, Try.ntmps67
 have NW := qh (node7 (B := w.heap.size) (w := w) (Nat.le_refl _) 70 70 rfl p1 p2)
 go_wp2_with fail
 ((with_reducible refine NW.out.mono ?_); rintro e wn ⟨b, rfl, hb, hk, hbl⟩)
 replace H := qh (H.out.below hb)
 obtain ⟨K, hK⟩ : ∃ K : Except Nat (List T1 × Nat), K = .ok ([], i) := ⟨_, rfl⟩
 have HK := qh (show KU w.heap.size wn b ⟨70, (p1, p2), sNil, 0⟩ (.slice none 0 0) K [] by rw [hK]; exact KU.start hk)
 have HBD := qh (show Bd (lo + 1) 60000 K by rw [hK]; exact ⟨(fun _ => by show lo + 1 ≤ i; omega), by show i ≤ 60000; omega⟩)
 have hxl : ([] : List Value).length ≤ 0 := Nat.le_refl _
 have HK0 := qh hK
 have H1 := H
 replace H := qh (show QG w0 w wn br A c L (posE K) (badE K) by rw [hK]; exact H.out)
 clear hb hk NW hK hbl
 have n2 := HRN.out wn H1.out.1
 obtain ⟨k8, r1, r2, s1, s2, t8, n8, e1, e2⟩ := val_form (tk L i)
 rw [e2] at n2
 have N2 := qh n2
 have HKK := qh (show (tk L i).1.kind = k8 by rw [e1])
 clear n2 e1 e2 HRN
 go_wp2_with fail
 ((with_reducible refine N2.out.mono ?_); rintro e wx ⟨rfl, hb⟩)
 replace H := qh (H.out.below hb)
 replace H1 := qh (H1.out.below hb)
 replace HK := qh (HK.out.below hb)
 clear hb N2
 by_cases hk0 : k8 = 0
 ·have k0 : ((k8 : Int) == 0) = true := by rw [hk0]; rfl
  have hk09 : retOut (tk L i) = true := by unfold retOut; rw [HKK.out, hk0]; rfl
  clear hk0
  replace HS := qh (show res = andK K (fun a => retP (mk 70 (p1, p2) sNil 0 a)) L by rw [HS.out, if_pos (hk09), HK0.out]; rfl)
  go_wp2
  go_ret
  exact HK.out.done H.out HS.out
 ·have k0 : ((k8 : Int) == 0) = false := by simp only [beq_eq_false_iff_ne, ne_eq]; omega
  cases hT0 : isT L i sSem with
  | true =>
    have SY := rsymT HT.out (i := i) (by omega) sSem _ HOK.out (by decide) H1.out.1
    rw [hT0] at SY
    have SY := qh SY
    go_wp2_with fail
    ((with_reducible refine SY.out.mono ?_); rintro e wx ⟨rfl, hb⟩)
    replace H := qh (H.out.below hb)
    replace H1 := qh (H1.out.below hb)
    replace HK := qh (HK.out.below hb)
    clear hb SY
    replace HS := qh (show res = andK K (fun a => retP (mk 70 (p1, p2) sNil 0 a)) L by rw [HS.out, if_pos (St.retOut_yes (s := sSem) (by simp) hT0), HK0.out]; rfl)
    go_wp2
    go_ret
    exact HK.out.done H.out HS.out
  | false =>
    have SY := rsymT HT.out (i := i) (by omega) sSem _ HOK.out (by decide) H1.out.1
    rw [hT0] at SY
    have SY := qh SY
    go_wp2_with fail
    ((with_reducible refine SY.out.mono ?_); rintro e wx ⟨rfl, hb⟩)
    replace H := qh (H.out.below hb)
    replace H1 := qh (H1.out.below hb)
    replace HK := qh (HK.out.below hb)
    clear hb SY
    cases hT1 : isT L i sBar with
    | true =>
      have SY := rsymT HT.out (i := i) (by omega) sBar _ HOK.out (by decide) H1.out.1
      rw [hT1] at SY
      have SY := qh SY
      go_wp2_with fail
      ((with_reducible refine SY.out.mono ?_); rintro e wx ⟨rfl, hb⟩)
      replace H := qh (H.out.below hb)
      replace H1 := qh (H1.out.below hb)
      replace HK := qh (HK.out.below hb)
      clear hb SY
      replace HS := qh (show res = andK K (fun a => retP (mk 70 (p1, p2) sNil 0 a)) L by rw [HS.out, if_pos (St.retOut_yes (s := sBar) (by simp) hT1), HK0.out]; rfl)
      go_wp2
      go_ret
      exact HK.out.done H.out HS.out
    | false =>
      have SY := rsymT HT.out (i := i) (by omega) sBar _ HOK.out (by decide) H1.out.1
      rw [hT1] at SY
      have SY := qh SY
      go_wp2_with fail
      ((with_reducible refine SY.out.mono ?_); rintro e wx ⟨rfl, hb⟩)
      replace H := qh (H.out.below hb)
      replace H1 := qh (H1.out.below hb)
      replace HK := qh (HK.out.below hb)
      clear hb SY
      cases hT2 : isT L i sEnd with
      | true =>
        have SY := rwordT HT.out (i := i) (by omega) sEnd _ HOK.out (by decide) H1.out.1
        rw [hT2] at SY
        have SY := qh SY
        go_wp2_with fail
        ((with_reducible refine SY.out.mono ?_); rintro e wx ⟨rfl, hb⟩)
        replace H := qh (H.out.below hb)
        replace H1 := qh (H1.out.below hb)
        replace HK := qh (HK.out.below hb)
        clear hb SY
        replace HS := qh (show res = andK K (fun a => retP (mk 70 (p1, p2) sNil 0 a)) L by rw [HS.out, if_pos (St.retOut_yes (s := sEnd) (by simp) hT2), HK0.out]; rfl)
        go_wp2
        go_ret
        exact HK.out.done H.out HS.out
      | false =>
        have SY := rwordT HT.out (i := i) (by omega) sEnd _ HOK.out (by decide) H1.out.1
        rw [hT2] at SY
        have SY := qh SY
        go_wp2_with fail
        ((with_reducible refine SY.out.mono ?_); rintro e wx ⟨rfl, hb⟩)
        replace H := qh (H.out.below hb)
        replace H1 := qh (H1.out.below hb)
        replace HK := qh (HK.out.below hb)
        clear hb SY
        cases hT3 : isT L i sElse with
        | true =>
          have SY := rwordT HT.out (i := i) (by omega) sElse _ HOK.out (by decide) H1.out.1
          rw [hT3] at SY
          have SY := qh SY
          go_wp2_with fail
          ((with_reducible refine SY.out.mono ?_); rintro e wx ⟨rfl, hb⟩)
          replace H := qh (H.out.below hb)
          replace H1 := qh (H1.out.below hb)
          replace HK := qh (HK.out.below hb)
          clear hb SY
          replace HS := qh (show res = andK K (fun a => retP (mk 70 (p1, p2) sNil 0 a)) L by rw [HS.out, if_pos (St.retOut_yes (s := sElse) (by simp) hT3), HK0.out]; rfl)
          go_wp2
          go_ret
          exact HK.out.done H.out HS.out
        | false =>
          have SY := rwordT HT.out (i := i) (by omega) sElse _ HOK.out (by decide) H1.out.1
          rw [hT3] at SY
          have SY := qh SY
          go_wp2_with fail
          ((with_reducible refine SY.out.mono ?_); rintro e wx ⟨rfl, hb⟩)
          replace H := qh (H.out.below hb)
          replace H1 := qh (H1.out.below hb)
          replace HK := qh (HK.out.below hb)
          clear hb SY
          cases hT4 : isT L i sElsif with
          | true =>
            have SY := rwordT HT.out (i := i) (by omega) sElsif _ HOK.out (by decide) H1.out.1
            rw [hT4] at SY
            have SY := qh SY
            go_wp2_with fail
            ((with_reducible refine SY.out.mono ?_); rintro e wx ⟨rfl, hb⟩)
            replace H := qh (H.out.below hb)
            replace H1 := qh (H1.out.below hb)
            replace HK := qh (HK.out.below hb)
            clear hb SY
            replace HS := qh (show res = andK K (fun a => retP (mk 70 (p1, p2) sNil 0 a)) L by rw [HS.out, if_pos (St.retOut_yes (s := sElsif) (by simp) hT4), HK0.out]; rfl)
            go_wp2
            go_ret
            exact HK.out.done H.out HS.out
          | false =>
            have SY := rwordT HT.out (i := i) (by omega) sElsif _ HOK.out (by decide) H1.out.1
            rw [hT4] at SY
            have SY := qh SY
            go_wp2_with fail
            ((with_reducible refine SY.out.mono ?_); rintro e wx ⟨rfl, hb⟩)
            replace H := qh (H.out.below hb)
            replace H1 := qh (H1.out.below hb)
            replace HK := qh (HK.out.below hb)
            clear hb SY
            cases hT5 : isT L i sUntil with
            | true =>
              have SY := rwordT HT.out (i := i) (by omega) sUntil _ HOK.out (by decide) H1.out.1
              rw [hT5] at SY
              have SY := qh SY
              go_wp2_with fail
              ((with_reducible refine SY.out.mono ?_); rintro e wx ⟨rfl, hb⟩)
              replace H := qh (H.out.below hb)
              replace H1 := qh (H1.out.below hb)
              replace HK := qh (HK.out.below hb)
              clear hb SY
              replace HS := qh (show res = andK K (fun a => retP (mk 70 (p1, p2) sNil 0 a)) L by rw [HS.out, if_pos (St.retOut_yes (s := sUntil) (by simp) hT5), HK0.out]; rfl)
              go_wp2
              go_ret
              exact HK.out.done H.out HS.out
            | false =>
              have SY := rwordT HT.out (i := i) (by omega) sUntil _ HOK.out (by decide) H1.out.1
              rw [hT5] at SY
              have SY := qh SY
              go_wp2_with fail
              ((with_reducible refine SY.out.mono ?_); rintro e wx ⟨rfl, hb⟩)
              replace H := qh (H.out.below hb)
              replace H1 := qh (H1.out.below hb)
              replace HK := qh (HK.out.below hb)
              clear hb SY
              replace HS := qh (show res = andK K (fun a => bindP (exprF g) (fun x => (fun a => retP (mk 70 (p1, p2) sNil 0 a)) (a ++ [x]))) L by
               rw [HS.out, if_neg, HK0.out]
               ·rfl
               ·rw [St.retOut_no (decide_eq_false (by rw [HKK.out]; exact hk0)) (fun s hs => by
                 simp only [List.mem_cons, List.not_mem_nil, or_false] at hs
                 rcases hs with rfl | rfl | rfl | rfl | rfl | rfl <;> assumption)]
                simp)
              clear HK0 hT0 hT1 hT2 hT3 hT4 hT5
              have D1 := qh (show Calls _ _ _ _ (RefU wx.drew.heap.size w0 wx.drew br A c L (goK K (exprF g) L)) from UE.out.at_ (HBD.out.weak (by omega)) (Nat.le_refl _) wx.drew (H.out.below ((Below.refl _ _).drew)).1)
              have HD := qh (H.out.below ((Below.refl _ _).drew))
              have HKD := qh (HK.out.below ((Below.refl _ _).drew))
              obtain ⟨m4, m4f, hbl4⟩ := HK.out.kn.facts
              have hxl2 : ([] : List Value).length ≤ 1000000 := by omega
              obtain ⟨K1, hK1⟩ : ∃ K1, K1 = pushK K (goK K (exprF g) L) := ⟨_, rfl⟩
              have HK1 := qh hK1
              have HBD1 := qh (show Bd (lo + 1) 60000 K1 by rw [hK1]; exact HBD.out.push St.g2_expr (by omega))
              replace HS := qh (show res = andK K1 (fun a => retP (mk 70 (p1, p2) sNil 0 a)) L by rw [hK1]; exact HS.out.trans (and_push (Q := (fun a => retP (mk 70 (p1, p2) sNil 0 a)))))
              clear hK1
              go_upto_region 4 with fail
              go_cut [] from 51 to 63 (fun wc => Hid (QG w0 w wc br A c L (posE K1) (badE K1) ∧ ∃ svc xsc, KU w.heap.size wc b ⟨70, (p1, p2), sNil, 0⟩ svc K1 xsc ∧ xsc.length ≤ 0 + 1))
              case first =>
               go_region_law (first
                | (go_simp; go_at_call 63; (with_reducible refine D1.out.mono ?_); rintro e x5 ⟨p9, rfl, hp, hgr, hr⟩; have HKX := qh (HKD.out.grown hgr hbr0); have HY := qh (HKD.out.new hr); have HX := qh (HD.out.trans ⟨hp, hgr⟩); clear hp hgr hr; obtain ⟨t4, t4f, hbx⟩ := HKX.out.kn.facts; have Q := kid_facts (p := p9) x5.heap.size rfl (Nat.le_trans HKX.out.kn.low (Nat.le_of_lt hbx)) HKX.out.kn.own hxl2)
                | (refine step_append_lies _ (by rfl) _ _ _ (by rfl) w.heap.size 26 i0 _ 1 8 Try.underlying40 hi0 hz0 hz1 hz2 rfl (by omega) (.slice none 0 0) ([] : List Value).length ([] : List Value) (by rfl) Q.out.2.2.2.2 ⟨x5.heap.size, 0, none⟩ 1 1 [.pointer p9] (by rfl) (by rfl) Q.out.1 Q.out.2.1 (by omega) Q.out.2.2.1 (by omega) Q.out.2.2.2.1 (x5.heap.size + 1) (by simp) ?_; intro g' cap w5 hown1 hgrow hor hlt5; obtain ⟨s4, s4f, hb5⟩ := KN.after (HKX.out.kn.below ((Below.refl _ _).alloc (Nat.le_refl _) _)) hgrow; have K2 := qh (KU.step (HKX.out.below ((Below.refl _ _).alloc (Nat.le_refl _) _)) (fun x j e => (HY.out x j e).below ((Below.refl _ _).alloc (Nat.le_refl _) _)) hown1 hgrow (hor.imp id fun e => e.trans (World.size_alloc _ _).symm)); have H2 := qh (QG.pushed (QG.hung HX.out H0.out _ hgrow (fun k e => (HKX.out.kn.own.lt _ e).1) (u := .slice (some ⟨g', 0, none⟩) (([] : List Value).length + 1) cap) HKX.out.kn.low)); clear hown1 hgrow hor hlt5))
               all_goals
                go_wp2_with fail
                go_meet
                exact qh ⟨(by rw [HK1.out]; exact H2.out), _, _, (by rw [HK1.out]; exact K2.out), (by simp only [List.length_append, List.length_cons, List.length_nil] at hxl ⊢; omega)⟩
              case rest =>
               obtain ⟨hc1, svc, xsc, hc2, hxl⟩ := hcut.out
               clear HK H hxl2 HKD HD hcut D1 HK1 HBD m4 m4f hbl4 K
               have H := qh hc1
               have HK := qh hc2
               have HBD := HBD1
               clear hc1 hc2 HBD1
               rename Except Nat (List T1 × Nat) => K
               go_wp2
               go_ret
               exact HK.out.done H.out HS.out
def mzK {α : Type} (n : Nat) (K : Except Nat (α × Nat)) : Nat := if badE K = true then 0 else n + 2 - posE K
theorem ifs_stepU {g : Nat} {bd : Par T1} {p1 p2 : Nat} {f : Nat} {acc : List T1} : bindP (ifsF g bd (f + 1) acc) (fun l => elseS bd 62 (p1, p2) l) = (fun a => bindP (exprF g) (fun x => (fun a => needF sThen ((fun a => bindP bd (fun x => (fun a => tokP (tT sElsif) (fun _ => bindP (ifsF g bd f a) (fun l => elseS bd 62 (p1, p2) l)) ((fun l => elseS bd 62 (p1, p2) l) a)) (a ++ [x]))) a)) (a ++ [x]))) acc := by
 rw [St.ifs_step]
 simp only [List.append_assoc, List.cons_append, List.nil_append]
set_option maxRecDepth 100000 in set_option maxHeartbeats 6400000 in
theorem rbranches {g : Nat} {w0 : World} {br c : Nat} {A : Option Addr} {L : List PT} (ht : Toks w0 br A L) (ok : OKRow L) (hg : L.length < g) {bd : Par T1} (hb2 : St.Good2 bd) {lo : Nat} (hB : UnOK 18 bd (lo + 1) w0 br A c L) (i : Nat) (hlo : lo + 1 ≤ i) (hi : i ≤ 60000) (p1 p2 : Nat) (w : World) (h : QInv w0 w br A c L i false) :
 Calls Try.prog 61 #[.pointer (some ⟨br, 0, none⟩), .complex .f64 (fl p1) (fl p2)] w (RefU w.heap.size w0 w br A c L (ifS g bd (p1, p2) L i)) := by
 have hbr0 := h.row.lt
 have hlen := ht.len
 have H0 := qh h
 have H := qh (QG.start h)
 have HT := qh ht
 have HOK := qh ok
 have HG2 := qh hb2
 have UE := qh ((un_of (c := c) (rexpr_all ht ok) (fun j => expr_fuel hg j) (bexpr ht)).mono (Nat.zero_le (lo + 1)))
 have UB := qh hB
 obtain ⟨i0, hi0, hz0, hz1, hz2⟩ := info_parts infoN
 obtain ⟨res, hs0⟩ : ∃ r, r = ifS g bd (p1, p2) L i := ⟨_, rfl⟩
 rw [← hs0]
 obtain ⟨f0, hf0⟩ : ∃ f, g = f + 1 := ⟨g - 1, by omega⟩
 have hgf : ∀ n, n = f0 + 1 → ifsF g bd n [] = ifsF g bd (f0 + 1) [] := by rintro _ rfl; rfl
 have HS := qh (show res = andK (.ok ([], i)) (fun a => bindP (exprF g) (fun x => (fun a => needF sThen ((fun a => bindP bd (fun x => (fun a => tokP (tT sElsif) (fun _ => bindP (ifsF g bd f0 a) (fun l => elseS bd 62 (p1, p2) l)) ((fun l => elseS bd 62 (p1, p2) l) a)) (a ++ [x]))) a)) (a ++ [x]))) L by
  rw [hs0]
  show bindP (ifsF g bd g []) (fun l => elseS bd 62 (p1, p2) l) L i = _
  rw [hgf g hf0]
  exact congrFun (congrFun ifs_stepU L) i)
 have hf02 : L.length < f0 + 1 := by omega
 clear h ht ok hb2 hB hs0 hgf hf0
 go_enter Try.func61, Try.ntmps61
 have NW := qh (node7 (B := w.heap.size) (w := w) H.out.2.size 62 62 rfl p1 p2)
 go_wp2_with fail
 ((with_reducible refine NW.out.mono ?_); rintro e wn ⟨b, rfl, hb, hk, hbl⟩)
 obtain ⟨K, hK⟩ : ∃ K : Except Nat (List T1 × Nat), K = .ok ([], i) := ⟨_, rfl⟩
 have H := qh (show QG w0 w wn br A c L (posE K) (badE K) by rw [hK]; exact H.out.below hb)
 have HK := qh (show KU w.heap.size wn b ⟨62, (p1, p2), sNil, 0⟩ (.slice none 0 0) K [] by rw [hK]; exact KU.start hk)
 have HBD := qh (show Bd (lo + 1) 60000 K by rw [hK]; exact ⟨(fun _ => by show lo + 1 ≤ i; omega), by show i ≤ 60000; omega⟩)
 replace HS := qh (show res = andK K (fun a => bindP (exprF g) (fun x => (fun a => needF sThen ((fun a => bindP bd (fun x => (fun a => tokP (tT sElsif) (fun _ => bindP (ifsF g bd f0 a) (fun l => elseS bd 62 (p1, p2) l)) ((fun l => elseS bd 62 (p1, p2) l) a)) (a ++ [x]))) a)) (a ++ [x]))) L by rw [hK]; exact HS.out)
 have hxl : ([] : List Value).length ≤ 0 := Nat.le_refl _
 clear hb hk NW hK hbl
 have D1 := qh (show Calls _ _ _ _ (RefU wn.drew.heap.size w0 wn.drew br A c L (goK K (exprF g) L)) from UE.out.at_ (HBD.out.weak (by omega)) (Nat.le_refl _) wn.drew (H.out.below ((Below.refl _ _).drew)).1)
 have HD := qh (H.out.below ((Below.refl _ _).drew))
 have HKD := qh (HK.out.below ((Below.refl _ _).drew))
 obtain ⟨m4, m4f, hbl4⟩ := HK.out.kn.facts
 have hxl2 : ([] : List Value).length ≤ 1000000 := by omega
 obtain ⟨K1, hK1⟩ : ∃ K1, K1 = pushK K (goK K (exprF g) L) := ⟨_, rfl⟩
 have HK1 := qh hK1
 have HBD1 := qh (show Bd (lo + 1) 60000 K1 by rw [hK1]; exact HBD.out.push St.g2_expr (by omega))
 replace HS := qh (show res = andK K1 (fun a => needF sThen ((fun a => bindP bd (fun x => (fun a => tokP (tT sElsif) (fun _ => bindP (ifsF g bd f0 a) (fun l => elseS bd 62 (p1, p2) l)) ((fun l => elseS bd 62 (p1, p2) l) a)) (a ++ [x]))) a)) L by rw [hK1]; exact HS.out.trans (and_push (Q := (fun a => needF sThen ((fun a => bindP bd (fun x => (fun a => tokP (tT sElsif) (fun _ => bindP (ifsF g bd f0 a) (fun l => elseS bd 62 (p1, p2) l)) ((fun l => elseS bd 62 (p1, p2) l) a)) (a ++ [x]))) a)))))
 clear hK1
 go_upto_region 2 with fail
 go_cut [] from 8 to 20 (fun wc => Hid (QG w0 w wc br A c L (posE K1) (badE K1) ∧ ∃ svc xsc, KU w.heap.size wc b ⟨62, (p1, p2), sNil, 0⟩ svc K1 xsc ∧ xsc.length ≤ 0 + 1))
 case first =>
  go_region_law (first
   | (go_simp; go_at_call 63; (with_reducible refine D1.out.mono ?_); rintro e x5 ⟨p9, rfl, hp, hgr, hr⟩; have HKX := qh (HKD.out.grown hgr hbr0); have HY := qh (HKD.out.new hr); have HX := qh (HD.out.trans ⟨hp, hgr⟩); clear hp hgr hr; obtain ⟨t4, t4f, hbx⟩ := HKX.out.kn.facts; have Q := kid_facts (p := p9) x5.heap.size rfl (Nat.le_trans HKX.out.kn.low (Nat.le_of_lt hbx)) HKX.out.kn.own hxl2)
   | (refine step_append_lies _ (by rfl) _ _ _ (by rfl) w.heap.size 26 i0 _ 1 8 Try.underlying40 hi0 hz0 hz1 hz2 rfl (by omega) (.slice none 0 0) ([] : List Value).length ([] : List Value) (by rfl) Q.out.2.2.2.2 ⟨x5.heap.size, 0, none⟩ 1 1 [.pointer p9] (by rfl) (by rfl) Q.out.1 Q.out.2.1 (by omega) Q.out.2.2.1 (by omega) Q.out.2.2.2.1 (x5.heap.size + 1) (by simp) ?_; intro g' cap w5 hown1 hgrow hor hlt5; obtain ⟨s4, s4f, hb5⟩ := KN.after (HKX.out.kn.below ((Below.refl _ _).alloc (Nat.le_refl _) _)) hgrow; have K2 := qh (KU.step (HKX.out.below ((Below.refl _ _).alloc (Nat.le_refl _) _)) (fun x j e => (HY.out x j e).below ((Below.refl _ _).alloc (Nat.le_refl _) _)) hown1 hgrow (hor.imp id fun e => e.trans (World.size_alloc _ _).symm)); have H2 := qh (QG.pushed (QG.hung HX.out H0.out _ hgrow (fun k e => (HKX.out.kn.own.lt _ e).1) (u := .slice (some ⟨g', 0, none⟩) (([] : List Value).length + 1) cap) HKX.out.kn.low)); clear hown1 hgrow hor hlt5))
  all_goals
   go_wp2_with fail
   go_meet
   exact qh ⟨(by rw [HK1.out]; exact H2.out), _, _, (by rw [HK1.out]; exact K2.out), (by simp only [List.length_append, List.length_cons, List.length_nil] at hxl ⊢; omega)⟩
 case rest =>
  obtain ⟨hc1, svc, xsc, hc2, hxl⟩ := hcut.out
  clear HK H hxl2 HKD HD hcut D1 HK1 HBD m4 m4f hbl4 K
  have H := qh hc1
  have HK := qh hc2
  have HBD := HBD1
  clear hc1 hc2 HBD1
  rename Except Nat (List T1 × Nat) => K
  have ND := qh (uneedw HT.out HOK.out (K := K) (by have := HBD.out.hi; omega) sThen _ H.out.1 (by decide))
  go_wp2_with fail
  ((with_reducible refine ND.out.mono ?_); rintro e wx ⟨rfl, hb⟩)
  obtain ⟨K1, hK1⟩ : ∃ K1, K1 = needK K sThen L := ⟨_, rfl⟩
  replace H := qh (show QG w0 w wx br A c L (posE K1) (badE K1) by rw [hK1]; exact H.out.trans hb)
  replace HK := qh (show KU w.heap.size wx b _ _ K1 _ by rw [hK1]; exact (HK.out.grown hb.2 hbr0).to_ need_to)
  replace HBD := qh (show Bd (lo + 1) 60000 K1 by rw [hK1]; exact HBD.out.need (by omega))
  replace HS := qh (show res = andK K1 (fun a => bindP bd (fun x => (fun a => tokP (tT sElsif) (fun _ => bindP (ifsF g bd f0 a) (fun l => elseS bd 62 (p1, p2) l)) ((fun l => elseS bd 62 (p1, p2) l) a)) (a ++ [x]))) L by rw [hK1]; exact HS.out.trans (and_need (Q := (fun a => bindP bd (fun x => (fun a => tokP (tT sElsif) (fun _ => bindP (ifsF g bd f0 a) (fun l => elseS bd 62 (p1, p2) l)) ((fun l => elseS bd 62 (p1, p2) l) a)) (a ++ [x]))))))
  clear hb ND hK1
  clear K
  rename Except Nat (List T1 × Nat) => K
  have D1 := qh (show Calls _ _ _ _ (RefU wx.drew.heap.size w0 wx.drew br A c L (goK K bd L)) from UB.out.at_ (HBD.out.weak (by omega)) (Nat.le_refl _) wx.drew (H.out.below ((Below.refl _ _).drew)).1)
  have HD := qh (H.out.below ((Below.refl _ _).drew))
  have HKD := qh (HK.out.below ((Below.refl _ _).drew))
  obtain ⟨m4, m4f, hbl4⟩ := HK.out.kn.facts
  have hxl2 : xsc.length ≤ 1000000 := by omega
  obtain ⟨K1, hK1⟩ : ∃ K1, K1 = pushK K (goK K bd L) := ⟨_, rfl⟩
  have HK1 := qh hK1
  have HBD1 := qh (show Bd (lo + 1) 60000 K1 by rw [hK1]; exact HBD.out.push HG2.out (by omega))
  replace HS := qh (show res = andK K1 (fun a => tokP (tT sElsif) (fun _ => bindP (ifsF g bd f0 a) (fun l => elseS bd 62 (p1, p2) l)) ((fun l => elseS bd 62 (p1, p2) l) a)) L by rw [hK1]; exact HS.out.trans (and_push (Q := (fun a => tokP (tT sElsif) (fun _ => bindP (ifsF g bd f0 a) (fun l => elseS bd 62 (p1, p2) l)) ((fun l => elseS bd 62 (p1, p2) l) a)))))
  clear hK1
  go_upto_region 4 with fail
  go_cut [] from 25 to 35 (fun wc => Hid (QG w0 w wc br A c L (posE K1) (badE K1) ∧ ∃ svc xsc, KU w.heap.size wc b ⟨62, (p1, p2), sNil, 0⟩ svc K1 xsc ∧ xsc.length ≤ 0 + 1 + 1))
  case first =>
   go_region_law (first
    | (go_simp; go_at_call 18; (with_reducible refine D1.out.mono ?_); rintro e x5 ⟨p9, rfl, hp, hgr, hr⟩; have HKX := qh (HKD.out.grown hgr hbr0); have HY := qh (HKD.out.new hr); have HX := qh (HD.out.trans ⟨hp, hgr⟩); clear hp hgr hr; obtain ⟨t4, t4f, hbx⟩ := HKX.out.kn.facts; have Q := kid_facts (p := p9) x5.heap.size rfl (Nat.le_trans HKX.out.kn.low (Nat.le_of_lt hbx)) HKX.out.kn.own hxl2)
    | (refine step_append_lies _ (by rfl) _ _ _ (by rfl) w.heap.size 26 i0 _ 1 8 Try.underlying40 hi0 hz0 hz1 hz2 rfl (by omega) svc xsc.length xsc (by rfl) Q.out.2.2.2.2 ⟨x5.heap.size, 0, none⟩ 1 1 [.pointer p9] (by rfl) (by rfl) Q.out.1 Q.out.2.1 (by omega) Q.out.2.2.1 (by omega) Q.out.2.2.2.1 (x5.heap.size + 1) (by simp) ?_; intro g' cap w5 hown1 hgrow hor hlt5; obtain ⟨s4, s4f, hb5⟩ := KN.after (HKX.out.kn.below ((Below.refl _ _).alloc (Nat.le_refl _) _)) hgrow; have K2 := qh (KU.step (HKX.out.below ((Below.refl _ _).alloc (Nat.le_refl _) _)) (fun x j e => (HY.out x j e).below ((Below.refl _ _).alloc (Nat.le_refl _) _)) hown1 hgrow (hor.imp id fun e => e.trans (World.size_alloc _ _).symm)); have H2 := qh (QG.pushed (QG.hung HX.out H0.out _ hgrow (fun k e => (HKX.out.kn.own.lt _ e).1) (u := .slice (some ⟨g', 0, none⟩) (xsc.length + 1) cap) HKX.out.kn.low)); clear hown1 hgrow hor hlt5))
   all_goals
    go_wp2_with fail
    go_meet
    exact qh ⟨(by rw [HK1.out]; exact H2.out), _, _, (by rw [HK1.out]; exact K2.out), (by simp only [List.length_append, List.length_cons, List.length_nil] at hxl ⊢; omega)⟩
  case rest =>
   obtain ⟨hc1, svc, xsc, hc2, hxl⟩ := hcut.out
   clear HK H hxl2 HKD HD hcut D1 HK1 HBD m4 m4f hbl4 K
   have H := qh hc1
   have HK := qh hc2
   have HBD := HBD1
   clear hc1 hc2 HBD1
   rename Except Nat (List T1 × Nat) => K
   go_wp2_with fail
   go_loopg [] (mzK L.length K) (fun gm wr => Hid (∃ (K : Except Nat (List T1 × Nat)) (sv : Value) (xs : List Value) (f : Nat), gm = mzK L.length K ∧ QG w0 w wr br A c L (posE K) (badE K) ∧ KU w.heap.size wr b ⟨62, (p1, p2), sNil, 0⟩ sv K xs ∧ Bd (lo + 1) 60000 K ∧ (badE K = false → xs.length ≤ 2 * posE K + 4) ∧ xs.length ≤ 130000 ∧ (badE K = false → L.length < posE K + f) ∧ res = andK K (fun a => tokP (tT sElsif) (fun _ => bindP (ifsF g bd f a) (fun l => elseS bd 62 (p1, p2) l)) ((fun l => elseS bd 62 (p1, p2) l) a)) L))
   case atStart => exact qh ⟨K, svc, xsc, f0, rfl, H.out, HK.out, HBD.out, (fun e => by have := HBD.out.lo e; omega), by omega, (fun e => by have := HBD.out.lo e; omega), HS.out⟩
   case round =>
    clear H HK HS HBD hxl
    clear K
    obtain ⟨K, sv, xs, f, hgk, h1_, h2_, h3_, hx1, hxl, hf1, h4_⟩ := hrel.out
    have H := qh h1_
    have HK := qh h2_
    have HBD := qh h3_
    have HB0 := qh h3_
    have HS := qh h4_
    obtain ⟨wo, rfl⟩ : ∃ wo : World, wo = wr := ⟨_, rfl⟩
    clear hrel h1_ h2_ h3_ h4_
    have hpk := HBD.out.hi
    cases hE : eatK K sElsif L with
    | false =>
      have EA := qh (ueatw_no HT.out HOK.out (K := K) (by omega) sElsif _ H.out.1 (by decide) hE)
      replace HS := qh (show res = andK K (fun l => elseS bd 62 (p1, p2) l) L from HS.out.trans (and_eat_no (A := (fun a _ => bindP (ifsF g bd f a) (fun l => elseS bd 62 (p1, p2) l))) (B := (fun l => elseS bd 62 (p1, p2) l)) hE))
      clear hE hpk
      go_wp2_with fail
      ((with_reducible refine EA.out.mono ?_); rintro e wx ⟨rfl, hb⟩)
      replace H := qh (show QG w0 w wx br A c L (posE K) (badE K) from H.out.trans hb)
      replace HK := qh (HK.out.grown hb.2 hbr0)
      clear hb EA
      clear hx1 hf1 HB0 hgk
      have hpk := HBD.out.hi
      cases hE : eatK K sElse L with
      | false =>
        have EA := qh (ueatw_no HT.out HOK.out (K := K) (by omega) sElse _ H.out.1 (by decide) hE)
        replace HS := qh (show res = andK K (fun l => endS 62 (p1, p2) sNil l) L from HS.out.trans (and_eat_no (A := (fun l _ => bindP bd fun b => endS 62 (p1, p2) sNil (l ++ [b]))) (B := (fun l => endS 62 (p1, p2) sNil l)) hE))
        clear hE hpk
        go_wp2_with fail
        ((with_reducible refine EA.out.mono ?_); rintro e wx ⟨rfl, hb⟩)
        replace H := qh (show QG w0 w wx br A c L (posE K) (badE K) from H.out.trans hb)
        replace HK := qh (HK.out.grown hb.2 hbr0)
        clear hb EA
        replace HS := qh (show res = andK K (fun a => needF sEnd (retP (mk 62 (p1, p2) sNil 0 a))) L from HS.out)
        have ND := qh (uneedw HT.out HOK.out (K := K) (by have := HBD.out.hi; omega) sEnd _ H.out.1 (by decide))
        go_wp2_with fail
        ((with_reducible refine ND.out.mono ?_); rintro e wx ⟨rfl, hb⟩)
        obtain ⟨K1, hK1⟩ : ∃ K1, K1 = needK K sEnd L := ⟨_, rfl⟩
        replace H := qh (show QG w0 w wx br A c L (posE K1) (badE K1) by rw [hK1]; exact H.out.trans hb)
        replace HK := qh (show KU w.heap.size wx b _ _ K1 _ by rw [hK1]; exact (HK.out.grown hb.2 hbr0).to_ need_to)
        replace HBD := qh (show Bd (lo + 1) 60000 K1 by rw [hK1]; exact HBD.out.need (by omega))
        replace HS := qh (show res = andK K1 (fun a => retP (mk 62 (p1, p2) sNil 0 a)) L by rw [hK1]; exact HS.out.trans (and_need (Q := (fun a => retP (mk 62 (p1, p2) sNil 0 a)))))
        clear hb ND hK1
        clear K
        rename Except Nat (List T1 × Nat) => K
        go_wp2
        go_ret
        exact HK.out.done H.out HS.out
      | true =>
        have EA := qh (ueatw_yes HT.out HOK.out (K := K) (by omega) sElse _ H.out.1 (by decide) hE)
        have hadv := pos_adv hE
        obtain ⟨K1, hK1⟩ : ∃ K1, K1 = advK K := ⟨_, rfl⟩
        replace HS := qh (show res = andK K1 (fun acc => (fun l _ => bindP bd fun b => endS 62 (p1, p2) sNil (l ++ [b])) acc (tk L (posE K))) L by rw [hK1]; exact HS.out.trans (and_eat_yes (A := (fun l _ => bindP bd fun b => endS 62 (p1, p2) sNil (l ++ [b]))) (B := (fun l => endS 62 (p1, p2) sNil l)) hE))
        replace HBD := qh (show Bd (lo + 1) 60000 K1 by rw [hK1]; exact HBD.out.adv (by omega) hE)
        go_wp2_with fail
        ((with_reducible refine EA.out.mono ?_); rintro e wx ⟨rfl, hb⟩)
        replace H := qh (show QG w0 w wx br A c L (posE (advK K)) (badE (advK K)) from H.out.trans hb)
        replace HK := qh (HK.out.grown hb.2 hbr0)
        clear hb EA
        replace HK := qh (show KU w.heap.size wx b _ _ K1 _ by rw [hK1]; exact HK.out.to_ adv_to)
        replace H := qh (show QG w0 w wx br A c L (posE K1) (badE K1) by rw [hK1]; exact H.out)
        have hp1 : posE K1 = posE K + 1 ∧ badE K1 = false ∧ badE K = false ∧ posE K < L.length := by rw [hK1]; exact hadv
        clear hadv hE hpk hK1
        replace HS := qh (show res = andK K1 (fun a => bindP bd (fun x => (fun a => needF sEnd (retP (mk 62 (p1, p2) sNil 0 a))) (a ++ [x]))) L from HS.out)
        clear hp1
        clear K
        rename Except Nat (List T1 × Nat) => K
        have D1 := qh (show Calls _ _ _ _ (RefU wx.drew.heap.size w0 wx.drew br A c L (goK K bd L)) from UB.out.at_ (HBD.out.weak (by omega)) (Nat.le_refl _) wx.drew (H.out.below ((Below.refl _ _).drew)).1)
        have HD := qh (H.out.below ((Below.refl _ _).drew))
        have HKD := qh (HK.out.below ((Below.refl _ _).drew))
        obtain ⟨m4, m4f, hbl4⟩ := HK.out.kn.facts
        have hxl2 : xs.length ≤ 1000000 := by omega
        obtain ⟨K1, hK1⟩ : ∃ K1, K1 = pushK K (goK K bd L) := ⟨_, rfl⟩
        have HK1 := qh hK1
        have HBD1 := qh (show Bd (lo + 1) 60000 K1 by rw [hK1]; exact HBD.out.push HG2.out (by omega))
        replace HS := qh (show res = andK K1 (fun a => needF sEnd (retP (mk 62 (p1, p2) sNil 0 a))) L by rw [hK1]; exact HS.out.trans (and_push (Q := (fun a => needF sEnd (retP (mk 62 (p1, p2) sNil 0 a))))))
        clear hK1
        go_wp2
        go_region_law (first
         | (go_simp; go_at_call 18; (with_reducible refine D1.out.mono ?_); rintro e x5 ⟨p9, rfl, hp, hgr, hr⟩; have HKX := qh (HKD.out.grown hgr hbr0); have HY := qh (HKD.out.new hr); have HX := qh (HD.out.trans ⟨hp, hgr⟩); clear hp hgr hr; obtain ⟨t4, t4f, hbx⟩ := HKX.out.kn.facts; have Q := kid_facts (p := p9) x5.heap.size rfl (Nat.le_trans HKX.out.kn.low (Nat.le_of_lt hbx)) HKX.out.kn.own hxl2)
         | (refine step_append_lies _ (by rfl) _ _ _ (by rfl) w.heap.size 26 i0 _ 1 8 Try.underlying40 hi0 hz0 hz1 hz2 rfl (by omega) sv xs.length xs (by rfl) Q.out.2.2.2.2 ⟨x5.heap.size, 0, none⟩ 1 1 [.pointer p9] (by rfl) (by rfl) Q.out.1 Q.out.2.1 (by omega) Q.out.2.2.1 (by omega) Q.out.2.2.2.1 (x5.heap.size + 1) (by simp) ?_; intro g' cap w5 hown1 hgrow hor hlt5; obtain ⟨s4, s4f, hb5⟩ := KN.after (HKX.out.kn.below ((Below.refl _ _).alloc (Nat.le_refl _) _)) hgrow; have K2 := qh (KU.step (HKX.out.below ((Below.refl _ _).alloc (Nat.le_refl _) _)) (fun x j e => (HY.out x j e).below ((Below.refl _ _).alloc (Nat.le_refl _) _)) hown1 hgrow (hor.imp id fun e => e.trans (World.size_alloc _ _).symm)); have H2 := qh (QG.pushed (QG.hung HX.out H0.out _ hgrow (fun k e => (HKX.out.kn.own.lt _ e).1) (u := .slice (some ⟨g', 0, none⟩) (xs.length + 1) cap) HKX.out.kn.low)); clear hown1 hgrow hor hlt5))
        all_goals
         replace H := qh (show QG w0 w _ br A c L (posE K1) (badE K1) by rw [HK1.out]; exact H2.out)
         replace HK := qh (show KU w.heap.size _ b _ _ K1 _ by rw [HK1.out]; exact K2.out)
         replace HBD := HBD1
         clear HBD1 H2 K2 HKD HD HK1 D1 HX HKX HY m4 m4f hbl4 t4 t4f hxl2
         clear K
         rename Except Nat (List T1 × Nat) => K
         have ND := qh (uneedw HT.out HOK.out (K := K) (by have := HBD.out.hi; omega) sEnd _ H.out.1 (by decide))
         go_wp2_with fail
         ((with_reducible refine ND.out.mono ?_); rintro e wx ⟨rfl, hb⟩)
         obtain ⟨K1, hK1⟩ : ∃ K1, K1 = needK K sEnd L := ⟨_, rfl⟩
         replace H := qh (show QG w0 w wx br A c L (posE K1) (badE K1) by rw [hK1]; exact H.out.trans hb)
         replace HK := qh (show KU w.heap.size wx b _ _ K1 _ by rw [hK1]; exact (HK.out.grown hb.2 hbr0).to_ need_to)
         replace HBD := qh (show Bd (lo + 1) 60000 K1 by rw [hK1]; exact HBD.out.need (by omega))
         replace HS := qh (show res = andK K1 (fun a => retP (mk 62 (p1, p2) sNil 0 a)) L by rw [hK1]; exact HS.out.trans (and_need (Q := (fun a => retP (mk 62 (p1, p2) sNil 0 a)))))
         clear hb ND hK1
         clear K
         rename Except Nat (List T1 × Nat) => K
         go_wp2
         go_ret
         exact HK.out.done H.out HS.out
    | true =>
      have EA := qh (ueatw_yes HT.out HOK.out (K := K) (by omega) sElsif _ H.out.1 (by decide) hE)
      have hadv := pos_adv hE
      obtain ⟨K1, hK1⟩ : ∃ K1, K1 = advK K := ⟨_, rfl⟩
      replace HS := qh (show res = andK K1 (fun acc => (fun a _ => bindP (ifsF g bd f a) (fun l => elseS bd 62 (p1, p2) l)) acc (tk L (posE K))) L by rw [hK1]; exact HS.out.trans (and_eat_yes (A := (fun a _ => bindP (ifsF g bd f a) (fun l => elseS bd 62 (p1, p2) l))) (B := (fun l => elseS bd 62 (p1, p2) l)) hE))
      replace HBD := qh (show Bd (lo + 1) 60000 K1 by rw [hK1]; exact HBD.out.adv (by omega) hE)
      go_wp2_with fail
      ((with_reducible refine EA.out.mono ?_); rintro e wx ⟨rfl, hb⟩)
      replace H := qh (show QG w0 w wx br A c L (posE (advK K)) (badE (advK K)) from H.out.trans hb)
      replace HK := qh (HK.out.grown hb.2 hbr0)
      clear hb EA
      replace HK := qh (show KU w.heap.size wx b _ _ K1 _ by rw [hK1]; exact HK.out.to_ adv_to)
      replace H := qh (show QG w0 w wx br A c L (posE K1) (badE K1) by rw [hK1]; exact H.out)
      have hp1 : posE K1 = posE K + 1 ∧ badE K1 = false ∧ badE K = false ∧ posE K < L.length := by rw [hK1]; exact hadv
      clear hadv hE hpk hK1
      have hn1 : ∃ n, n = posE K := ⟨_, rfl⟩
      obtain ⟨n0, hn0⟩ := hn1
      have hq : posE K1 = n0 + 1 ∧ n0 < L.length ∧ lo + 1 ≤ n0 + 1 ∧ xs.length ≤ 2 * n0 + 4 ∧ L.length < n0 + f := by
       have a1 := hx1 hp1.2.2.1
       have a2 := hf1 hp1.2.2.1
       have a3 := HB0.out.lo hp1.2.2.1
       refine ⟨by omega, by omega, by omega, by omega, by omega⟩
      obtain ⟨f, rfl⟩ : ∃ f', f = f' + 1 := ⟨f - 1, by omega⟩
      obtain ⟨hqp, hq⟩ := hq
      replace HBD := qh (show Bd (n0 + 1) 60000 K1 from ⟨fun _ => by omega, HBD.out.hi⟩)
      replace HS := qh (show res = andK K1 (fun a => bindP (exprF g) (fun x => (fun a => needF sThen ((fun a => bindP bd (fun x => (fun a => tokP (tT sElsif) (fun _ => bindP (ifsF g bd f a) (fun l => elseS bd 62 (p1, p2) l)) ((fun l => elseS bd 62 (p1, p2) l) a)) (a ++ [x]))) a)) (a ++ [x]))) L from HS.out.trans (congrArg (fun q => andK K1 q L) (funext fun a => ifs_stepU)))
      have hgm : mzK L.length K = L.length + 2 - n0 := by unfold mzK; rw [hp1.2.2.1, ← hn0]; rfl
      rw [hgm] at hgk
      clear hp1 hn0 hx1 hf1 HB0 hgm hqp
      clear K
      rename Except Nat (List T1 × Nat) => K
      have D1 := qh (show Calls _ _ _ _ (RefU wx.drew.heap.size w0 wx.drew br A c L (goK K (exprF g) L)) from UE.out.at_ (HBD.out.weak (by omega)) (Nat.le_refl _) wx.drew (H.out.below ((Below.refl _ _).drew)).1)
      have HD := qh (H.out.below ((Below.refl _ _).drew))
      have HKD := qh (HK.out.below ((Below.refl _ _).drew))
      obtain ⟨m4, m4f, hbl4⟩ := HK.out.kn.facts
      have hxl2 : xs.length ≤ 1000000 := by omega
      obtain ⟨K1, hK1⟩ : ∃ K1, K1 = pushK K (goK K (exprF g) L) := ⟨_, rfl⟩
      have HK1 := qh hK1
      have HBD1 := qh (show Bd (n0 + 1) 60000 K1 by rw [hK1]; exact HBD.out.push St.g2_expr (by omega))
      replace HS := qh (show res = andK K1 (fun a => needF sThen ((fun a => bindP bd (fun x => (fun a => tokP (tT sElsif) (fun _ => bindP (ifsF g bd f a) (fun l => elseS bd 62 (p1, p2) l)) ((fun l => elseS bd 62 (p1, p2) l) a)) (a ++ [x]))) a)) L by rw [hK1]; exact HS.out.trans (and_push (Q := (fun a => needF sThen ((fun a => bindP bd (fun x => (fun a => tokP (tT sElsif) (fun _ => bindP (ifsF g bd f a) (fun l => elseS bd 62 (p1, p2) l)) ((fun l => elseS bd 62 (p1, p2) l) a)) (a ++ [x]))) a)))))
      clear hK1
      go_upto_region 6 with fail
      go_cut [] from 40 to 52 (fun wc => Hid (QG w0 w wc br A c L (posE K1) (badE K1) ∧ ∃ svc xsc, KU w.heap.size wc b ⟨62, (p1, p2), sNil, 0⟩ svc K1 xsc ∧ xsc.length ≤ 2 * n0 + 4 + 1))
      case first =>
       go_region_law (first
        | (go_simp; go_at_call 63; (with_reducible refine D1.out.mono ?_); rintro e x5 ⟨p9, rfl, hp, hgr, hr⟩; have HKX := qh (HKD.out.grown hgr hbr0); have HY := qh (HKD.out.new hr); have HX := qh (HD.out.trans ⟨hp, hgr⟩); clear hp hgr hr; obtain ⟨t4, t4f, hbx⟩ := HKX.out.kn.facts; have Q := kid_facts (p := p9) x5.heap.size rfl (Nat.le_trans HKX.out.kn.low (Nat.le_of_lt hbx)) HKX.out.kn.own hxl2)
        | (refine step_append_lies _ (by rfl) _ _ _ (by rfl) w.heap.size 26 i0 _ 1 8 Try.underlying40 hi0 hz0 hz1 hz2 rfl (by omega) sv xs.length xs (by rfl) Q.out.2.2.2.2 ⟨x5.heap.size, 0, none⟩ 1 1 [.pointer p9] (by rfl) (by rfl) Q.out.1 Q.out.2.1 (by omega) Q.out.2.2.1 (by omega) Q.out.2.2.2.1 (x5.heap.size + 1) (by simp) ?_; intro g' cap w5 hown1 hgrow hor hlt5; obtain ⟨s4, s4f, hb5⟩ := KN.after (HKX.out.kn.below ((Below.refl _ _).alloc (Nat.le_refl _) _)) hgrow; have K2 := qh (KU.step (HKX.out.below ((Below.refl _ _).alloc (Nat.le_refl _) _)) (fun x j e => (HY.out x j e).below ((Below.refl _ _).alloc (Nat.le_refl _) _)) hown1 hgrow (hor.imp id fun e => e.trans (World.size_alloc _ _).symm)); have H2 := qh (QG.pushed (QG.hung HX.out H0.out _ hgrow (fun k e => (HKX.out.kn.own.lt _ e).1) (u := .slice (some ⟨g', 0, none⟩) (xs.length + 1) cap) HKX.out.kn.low)); clear hown1 hgrow hor hlt5))
       all_goals
        go_wp2_with fail
        go_meet
        exact qh ⟨(by rw [HK1.out]; exact H2.out), _, _, (by rw [HK1.out]; exact K2.out), (by simp only [List.length_append, List.length_cons, List.length_nil] at hxl ⊢; omega)⟩
      case rest =>
       obtain ⟨hc1, svc, xsc, hc2, hxl⟩ := hcut.out
       clear HK H hxl2 HKD HD hcut D1 HK1 HBD m4 m4f hbl4 K
       have H := qh hc1
       have HK := qh hc2
       have HBD := HBD1
       clear hc1 hc2 HBD1
       rename Except Nat (List T1 × Nat) => K
       have ND := qh (uneedw HT.out HOK.out (K := K) (by have := HBD.out.hi; omega) sThen _ H.out.1 (by decide))
       go_wp2_with fail
       ((with_reducible refine ND.out.mono ?_); rintro e wx ⟨rfl, hb⟩)
       obtain ⟨K1, hK1⟩ : ∃ K1, K1 = needK K sThen L := ⟨_, rfl⟩
       replace H := qh (show QG w0 w wx br A c L (posE K1) (badE K1) by rw [hK1]; exact H.out.trans hb)
       replace HK := qh (show KU w.heap.size wx b _ _ K1 _ by rw [hK1]; exact (HK.out.grown hb.2 hbr0).to_ need_to)
       replace HBD := qh (show Bd (n0 + 1) 60000 K1 by rw [hK1]; exact HBD.out.need (by omega))
       replace HS := qh (show res = andK K1 (fun a => bindP bd (fun x => (fun a => tokP (tT sElsif) (fun _ => bindP (ifsF g bd f a) (fun l => elseS bd 62 (p1, p2) l)) ((fun l => elseS bd 62 (p1, p2) l) a)) (a ++ [x]))) L by rw [hK1]; exact HS.out.trans (and_need (Q := (fun a => bindP bd (fun x => (fun a => tokP (tT sElsif) (fun _ => bindP (ifsF g bd f a) (fun l => elseS bd 62 (p1, p2) l)) ((fun l => elseS bd 62 (p1, p2) l) a)) (a ++ [x]))))))
       clear hb ND hK1
       clear K
       rename Except Nat (List T1 × Nat) => K
       have D1 := qh (show Calls _ _ _ _ (RefU wx.drew.heap.size w0 wx.drew br A c L (goK K bd L)) from UB.out.at_ (HBD.out.weak (by omega)) (Nat.le_refl _) wx.drew (H.out.below ((Below.refl _ _).drew)).1)
       have HD := qh (H.out.below ((Below.refl _ _).drew))
       have HKD := qh (HK.out.below ((Below.refl _ _).drew))
       obtain ⟨m4, m4f, hbl4⟩ := HK.out.kn.facts
       have hxl2 : xsc.length ≤ 1000000 := by omega
       obtain ⟨K1, hK1⟩ : ∃ K1, K1 = pushK K (goK K bd L) := ⟨_, rfl⟩
       have HK1 := qh hK1
       have HBD1 := qh (show Bd (n0 + 1) 60000 K1 by rw [hK1]; exact HBD.out.push HG2.out (by omega))
       replace HS := qh (show res = andK K1 (fun a => tokP (tT sElsif) (fun _ => bindP (ifsF g bd f a) (fun l => elseS bd 62 (p1, p2) l)) ((fun l => elseS bd 62 (p1, p2) l) a)) L by rw [hK1]; exact HS.out.trans (and_push (Q := (fun a => tokP (tT sElsif) (fun _ => bindP (ifsF g bd f a) (fun l => elseS bd 62 (p1, p2) l)) ((fun l => elseS bd 62 (p1, p2) l) a)))))
       clear hK1
       go_wp2
       go_region_law (first
        | (go_simp; go_at_call 18; (with_reducible refine D1.out.mono ?_); rintro e x5 ⟨p9, rfl, hp, hgr, hr⟩; have HKX := qh (HKD.out.grown hgr hbr0); have HY := qh (HKD.out.new hr); have HX := qh (HD.out.trans ⟨hp, hgr⟩); clear hp hgr hr; obtain ⟨t4, t4f, hbx⟩ := HKX.out.kn.facts; have Q := kid_facts (p := p9) x5.heap.size rfl (Nat.le_trans HKX.out.kn.low (Nat.le_of_lt hbx)) HKX.out.kn.own hxl2)
        | (refine step_append_lies _ (by rfl) _ _ _ (by rfl) w.heap.size 26 i0 _ 1 8 Try.underlying40 hi0 hz0 hz1 hz2 rfl (by omega) svc xsc.length xsc (by rfl) Q.out.2.2.2.2 ⟨x5.heap.size, 0, none⟩ 1 1 [.pointer p9] (by rfl) (by rfl) Q.out.1 Q.out.2.1 (by omega) Q.out.2.2.1 (by omega) Q.out.2.2.2.1 (x5.heap.size + 1) (by simp) ?_; intro g' cap w5 hown1 hgrow hor hlt5; obtain ⟨s4, s4f, hb5⟩ := KN.after (HKX.out.kn.below ((Below.refl _ _).alloc (Nat.le_refl _) _)) hgrow; have K2 := qh (KU.step (HKX.out.below ((Below.refl _ _).alloc (Nat.le_refl _) _)) (fun x j e => (HY.out x j e).below ((Below.refl _ _).alloc (Nat.le_refl _) _)) hown1 hgrow (hor.imp id fun e => e.trans (World.size_alloc _ _).symm)); have H2 := qh (QG.pushed (QG.hung HX.out H0.out _ hgrow (fun k e => (HKX.out.kn.own.lt _ e).1) (u := .slice (some ⟨g', 0, none⟩) (xsc.length + 1) cap) HKX.out.kn.low)); clear hown1 hgrow hor hlt5))
       all_goals
        replace H := qh (show QG w0 w _ br A c L (posE K1) (badE K1) by rw [HK1.out]; exact H2.out)
        replace HK := qh (show KU w.heap.size _ b _ _ K1 _ by rw [HK1.out]; exact K2.out)
        replace HBD := HBD1
        clear HBD1 H2 K2 HKD HD HK1 D1 HX HKX HY m4 m4f hbl4 t4 t4f hxl2
        clear K
        rename Except Nat (List T1 × Nat) => K
        go_wp2
        go_roundg (mzK L.length K)
        case measure =>
         unfold mzK
         cases hbK : badE K with
         | true => simp only [if_true]; omega
         | false => have := HBD.out.lo hbK; simp only [Bool.false_eq_true, if_false]; omega
        case rel => exact qh ⟨K, _, _, f, rfl, H.out, HK.out, HBD.out.weak (by omega), (fun e => by have := HBD.out.lo e; simp only [List.length_append, List.length_cons, List.length_nil]; omega), by simp only [List.length_append, List.length_cons, List.length_nil]; omega, (fun e => by have := HBD.out.lo e; omega), HS.out⟩
end Go.Proofs.Ytecmjhohniipoaa.Rs
end
