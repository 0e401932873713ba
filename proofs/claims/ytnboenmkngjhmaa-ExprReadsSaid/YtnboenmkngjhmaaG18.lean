/- The walk of the reference's Labels. -/
import Derived.Test.YtnboenmkngjhmaaG14
import Derived.Deep.AppendLies
import Derived.Deep.LoopGhost
set_option linter.unusedSimpArgs false
set_option linter.unusedVariables false
namespace Go.Proofs.Ytnboenmkngjhmaa.Ex
open Go.RowKit
open Tr (Nd Fo RepS RepN Rep cellsN)
open Lx (Tk noTk Blk run_store_complexL TokAt)
open Fl
attribute [local go_sem] run_store_complexL run_field1 run_field3

set_option maxRecDepth 100000 in
set_option maxHeartbeats 6400000 in
theorem rlabels_any {w0 : World} {br c : Nat} {A : Option Addr} {L : List PT} (ht : Toks w0 br A L) (ok : OKRow L) {el : Nat → Except Nat (T1 × Nat)} {lo : Nat} (hE : RnOK 53 el lo w0 br A c L) (hm : SpOK L el) (hme : ∀ j k, j ≤ 60000 → el j = .error k → k ≤ 80000) (i : Nat) (hlo : lo ≤ i) (hi : i ≤ 60000) (w : World) (h : QInv w0 w br A c L i false) :
    Calls Try.prog 28 #[.pointer (some ⟨br, 0, none⟩)] w (RefR w.heap.size w0 w br A c L (match manyP L el i with | .error k => .error k | .ok (l, j) => .ok (mk 29 (pos L i) sNil 0 l, j))) := by
  have hbr0 := h.row.lt
  have hlen := ht.len
  have hB00 : ∃ B0, B0 = w.heap.size := ⟨_, rfl⟩
  have H0 := Lib.hid h
  have H := Lib.hid (QG.start h)
  have HE := Lib.hid hE
  have HM := Lib.hid hm
  have HT := Lib.hid ht
  have HOK := Lib.hid ok
  have HME := Lib.hid hme
  have HMS := Lib.hid (many_same hm)
  have N1 := Lib.hid (rnow_any ht (by omega) w h)
  obtain ⟨k_, p1, p2, q1_, q2_, t_, n_, e1, e2⟩ := val_form (tk L i)
  rw [e2] at N1
  rw [show pos L i = (p1, p2) by unfold pos; rw [e1]]
  have HS1 := Lib.hid (show (match manyP L el i with | .error k => .error k | .ok (l, j) => .ok (mk 29 (p1, p2) sNil 0 l, j) : Except Nat (T1 × Nat)) = match el i with
    | .error k => .error k
    | .ok (x, j) => (match manyR L el (L.length + 1) [x] j with | .error k => .error k | .ok (l, j) => .ok (mk 29 (p1, p2) sNil 0 l, j)) by
      unfold manyP
      cases el i with
      | error k => rfl
      | ok r => rfl)
  generalize (match manyP L el i with | .error k => .error k | .ok (l, j) => .ok (mk 29 (p1, p2) sNil 0 l, j) : Except Nat (T1 × Nat)) = res at HS1 ⊢
  obtain ⟨i0, hi0, hz0, hz1, hz2⟩ := info_parts infoN
  obtain ⟨B0, hB0⟩ := hB00
  rw [← hB0]
  clear hE h ht ok hm hme e1 e2
  go_enter Try.func28, Try.ntmps28

  go_wp2_with fail
  ((with_reducible refine N1.out.mono ?_); rintro e wb ⟨rfl, hb⟩)
  have H := Lib.hid (H.out.below hb)
  have hBw : w.heap.size ≤ wb.heap.size := hb.size
  have hB : B0 ≤ wb.heap.size := by omega
  have hbB0 : br < B0 := by omega
  have hbrB : br < wb.heap.size := by omega
  have NW := Lib.hid (node_kn (w := wb) 29 29 rfl p1 p2 sNil none none)
  clear hb N1
  go_wp2_with fail
  ((with_reducible refine NW.out.mono ?_); rintro e v1 ⟨b, sv0, rfl, hn⟩)
  have HK := Lib.hid (KG.start0 (B0 := B0) hn)
  have H := Lib.hid (H.out.below hn.bel)
  have hBb := hn.low
  clear hn NW
  have d3 := HE.out i (by omega) (by omega) v1.drew (H.out.below ((Below.refl _ _).drew)).1
  have hxl : ([] : List Value).length ≤ 1000000 := by simp
  cases hy : el i with
  | error k =>
    rw [hy] at d3
    have HS := Lib.hid (show res = .error k by rw [HS1.out, hy])
    have D1 := Lib.hid d3
    have hk8 := HME.out _ _ (by omega) hy
    clear d3 hy HS1
    have HD := Lib.hid (H.out.below ((Below.refl _ _).drew))
    have HKD := Lib.hid (HK.out.below ((Below.refl _ _).drew))
    obtain ⟨m4, m4f, hbl4⟩ := HK.out.kn.facts
    go_wp2
    go_region_law (first
      | (go_simp; go_at_call 53; (with_reducible refine D1.out.mono ?_); rintro e x ⟨p9, rfl, hp, hg⟩; have HKX := Lib.hid (HKD.out.kn.grown hg hbrB); have HX := Lib.hid (HD.out.trans ⟨hp, hg⟩); clear hp hg; obtain ⟨t4, t4f, hbx⟩ := HKX.out.facts; have Q := kid_facts (p := p9) x.heap.size rfl (Nat.le_trans HKX.out.low (Nat.le_of_lt hbx)) HKX.out.own hxl)
      | (refine step_append_lies _ (by rfl) _ _ _ (by rfl) wb.heap.size 24 i0 _ 1 8 Try.underlying36 hi0 hz0 hz1 hz2 rfl (by omega) sv0 ([] : List Value).length ([] : List Value) (by rfl) Q.out.2.2.2.2 ⟨x.heap.size, 0, none⟩ 1 1 [.pointer p9] (by rfl) (by rfl) Q.out.1 Q.out.2.1 (by omega) Q.out.2.2.1 (by omega) Q.out.2.2.2.1 (x.heap.size + 1) (by simp) ?_; intro g' cap w5 hown1 hgrow hor hlt5; obtain ⟨s4, s4f, hb5⟩ := KN.after (HKX.out.below ((Below.refl _ _).alloc (Nat.le_refl _) _)) hgrow; have K2 := Lib.hid (KN.step (HKX.out.below ((Below.refl _ _).alloc (Nat.le_refl _) _)) hown1 hgrow); have H2 := Lib.hid (QG.hung HX.out H0.out _ hgrow (fun k e => Nat.le_trans hBw (HKX.out.own.lt _ e).1) (u := .slice (some ⟨g', 0, none⟩) (([] : List Value).length + 1) cap) (Nat.le_trans hBw HKX.out.low)); clear hown1 hgrow hor hlt5))
    all_goals
      go_wp2_with fail
      go_loopw [] (fun wr => Hid (QG w0 w wr br A c L k true ∧ ∃ sv xs, KN wb.heap.size wr b ⟨29, (p1, p2), sNil, 0⟩ sv xs)) (fun _ => 0)
      case atStart => exact Lib.hid ⟨H2.out, _, _, K2.out⟩
      case round =>
        clear H H2 HK K2
        obtain ⟨hG, sv, xs, hK⟩ := hrel.out
        have H := Lib.hid hG
        have HK := Lib.hid hK
        clear hrel hG hK
        have EB := Lib.hid (reat_bad HT.out (by omega) sCom _ H.out.1)
        go_wp2_with fail
        ((with_reducible refine (EB.out).mono ?_); rintro e v1 ⟨rfl, hb⟩)
        have H := Lib.hid (H.out.trans hb)
        have HK := Lib.hid (HK.out.grown hb.2 hbrB)
        clear hb
        go_wp2
        go_ret
        rw [HS.out]
        exact ⟨_, rfl, H.out.1, H.out.2⟩
  | ok r =>
    obtain ⟨x1, j⟩ := r
    rw [hy] at d3
    have hj4 := HM.out _ _ _ hy
    have HS := Lib.hid (show res = (match manyR L el (L.length + 1) [x1] j with | .error k => .error k | .ok (l, j) => .ok (mk 29 (p1, p2) sNil 0 l, j)) by rw [HS1.out, hy])
    have D1 := Lib.hid d3
    clear d3 hy HS1
    have HD := Lib.hid (H.out.below ((Below.refl _ _).drew))
    have HKD := Lib.hid (HK.out.below ((Below.refl _ _).drew))
    obtain ⟨m4, m4f, hbl4⟩ := HK.out.kn.facts
    go_wp2
    go_region_law (first
      | (go_simp; go_at_call 53; (with_reducible refine D1.out.mono ?_); rintro e x ⟨by_, rfl, hp, hg, hr⟩; have HKX := Lib.hid (HKD.out.grown hg hbB0 hB); have HY := Lib.hid (HKD.out.new hr hB); have HX := Lib.hid (HD.out.trans ⟨hp, hg⟩); clear hp hg hr; obtain ⟨t4, t4f, hbx⟩ := HKX.out.kn.facts; have Q := kid_facts (p := some ⟨by_, 0, none⟩) x.heap.size rfl (Nat.le_trans HKX.out.kn.low (Nat.le_of_lt hbx)) HKX.out.kn.own hxl)
      | (refine step_append_lies _ (by rfl) _ _ _ (by rfl) wb.heap.size 24 i0 _ 1 8 Try.underlying36 hi0 hz0 hz1 hz2 rfl (by omega) sv0 ([] : List Value).length ([] : List Value) (by rfl) Q.out.2.2.2.2 ⟨x.heap.size, 0, none⟩ 1 1 [.pointer (some ⟨by_, 0, none⟩)] (by rfl) (by rfl) Q.out.1 Q.out.2.1 (by omega) Q.out.2.2.1 (by omega) Q.out.2.2.2.1 (x.heap.size + 1) (by simp) ?_; intro g' cap w5 hown1 hgrow hor hlt5; obtain ⟨s4, s4f, hb5⟩ := KN.after (HKX.out.kn.below ((Below.refl _ _).alloc (Nat.le_refl _) _)) hgrow; have K2 := Lib.hid (KG.step (HKX.out.below ((Below.refl _ _).alloc (Nat.le_refl _) _)) (HY.out.below ((Below.refl _ _).alloc (Nat.le_refl _) _)) hown1 hgrow (hor.imp id fun e => e.trans (World.size_alloc _ _).symm)); have H2 := Lib.hid (QG.hung HX.out H0.out _ hgrow (fun k e => Nat.le_trans hBw (HKX.out.kn.own.lt _ e).1) (u := .slice (some ⟨g', 0, none⟩) (([] : List Value).length + 1) cap) (Nat.le_trans hBw HKX.out.kn.low)); clear hown1 hgrow hor hlt5))
    all_goals
      go_wp2_with fail
      go_loopw [] (fun wr => Hid (LK B0 wb.heap.size w0 w br A c L b ⟨29, (p1, p2), sNil, 0⟩ res (fun acc j => ∃ l, acc = l ∧ i < j ∧ res = (match manyR L el (L.length + 1) l j with | .error k => .error k | .ok (l, j) => .ok (mk 29 (p1, p2) sNil 0 l, j))) wr)) (fun wr => loopM L.length wr br)
      case atStart => exact Lib.hid (LK.good (by omega) (by simp only [List.nil_append, List.length_append, List.length_singleton, List.length_cons, List.length_nil]; omega) H2.out K2.out ⟨_, rfl, by omega, HS.out⟩)
      case round =>
        clear H H2 HK K2 HS
        rcases hrel.out with ⟨acc, sv, xs, j, hj, hac, hG, hK, l, hl, hij, hS⟩ | ⟨sv, xs, k, hk8, hvs, hG, hK, hS⟩
        case' inr =>
          have H := Lib.hid hG
          have HS := Lib.hid hS
          have HK := Lib.hid hK
          clear hrel hG hS hK
          have EB := Lib.hid (reat_bad HT.out (by omega) sCom _ H.out.1)
          go_wp2_with fail
          ((with_reducible refine (EB.out).mono ?_); rintro e v1 ⟨rfl, hb⟩)
          have H := Lib.hid (H.out.trans hb)
          have HK := Lib.hid (HK.out.grown hb.2 hbrB)
          clear hb
          go_wp2
          go_ret
          rw [HS.out]
          exact ⟨_, rfl, H.out.1, H.out.2⟩
        subst hl
        obtain ⟨wo, rfl⟩ : ∃ wo : World, wo = wr := ⟨_, rfl⟩
        have H := Lib.hid hG
        have HO := Lib.hid hG
        have HK := Lib.hid hK
        have HS1 := Lib.hid (show res = _ from hS.trans (by rw [manyR_succ]))
        clear hrel hG hS hK
        cases hC : isT L j sCom with
        | false =>
          have EN := Lib.hid (reatT_no HT.out (by omega) sCom _ HOK.out (by decide) H.out.1 hC)
          have HS := Lib.hid (show res = .ok (mk 29 (p1, p2) sNil 0 acc, j) by rw [HS1.out, if_neg (by rw [hC]; simp)])
          clear HS1
          go_wp2_with fail
          ((with_reducible refine (EN.out).mono ?_); rintro e v1 ⟨rfl, hb⟩)
          have H := Lib.hid (H.out.trans hb)
          have HK := Lib.hid (HK.out.grown hb.2 hbB0 hB)
          clear hb
          go_wp2
          go_ret
          rw [HS.out]
          exact ⟨b, rfl, H.out.1, H.out.2, HK.out.done hB⟩
        | true =>
          have hjlt := isT_lt hC
          have EY := Lib.hid (reatT_yes HT.out (by omega) sCom _ HOK.out (by decide) H.out.1 hC)
          have HS2 := Lib.hid (HS1.out.trans (by rw [if_pos hC]))
          clear HS1
          go_wp2_with fail
          ((with_reducible refine (EY.out).mono ?_); rintro e v1 ⟨rfl, hb⟩)
          have H := Lib.hid (H.out.trans hb)
          have HK := Lib.hid (HK.out.grown hb.2 hbB0 hB)
          clear hb
          have hxl : xs.length ≤ 1000000 := by have := HK.out.len; omega
          have d3 := HE.out (j + 1) (by omega) (by omega) v1.drew (H.out.below ((Below.refl _ _).drew)).1
          cases hy : el (j + 1) with
          | error k =>
            rw [hy] at d3
            have HS := Lib.hid (show res = .error k by rw [HS2.out, hy])
            have D1 := Lib.hid d3
            have hk8 := HME.out _ _ (by omega) hy
            clear d3 hy HS2
            have HD := Lib.hid (H.out.below ((Below.refl _ _).drew))
            have HKD := Lib.hid (HK.out.below ((Below.refl _ _).drew))
            obtain ⟨m4, m4f, hbl4⟩ := HK.out.kn.facts
            go_wp2
            go_region_law (first
              | (go_simp; go_at_call 53; (with_reducible refine D1.out.mono ?_); rintro e x ⟨p9, rfl, hp, hg⟩; have HKX := Lib.hid (HKD.out.kn.grown hg hbrB); have HX := Lib.hid (HD.out.trans ⟨hp, hg⟩); clear hp hg; obtain ⟨t4, t4f, hbx⟩ := HKX.out.facts; have Q := kid_facts (p := p9) x.heap.size rfl (Nat.le_trans HKX.out.low (Nat.le_of_lt hbx)) HKX.out.own hxl)
              | (refine step_append_lies _ (by rfl) _ _ _ (by rfl) wb.heap.size 24 i0 _ 1 8 Try.underlying36 hi0 hz0 hz1 hz2 rfl (by omega) sv xs.length xs (by rfl) Q.out.2.2.2.2 ⟨x.heap.size, 0, none⟩ 1 1 [.pointer p9] (by rfl) (by rfl) Q.out.1 Q.out.2.1 (by omega) Q.out.2.2.1 (by omega) Q.out.2.2.2.1 (x.heap.size + 1) (by simp) ?_; intro g' cap w5 hown1 hgrow hor hlt5; obtain ⟨s4, s4f, hb5⟩ := KN.after (HKX.out.below ((Below.refl _ _).alloc (Nat.le_refl _) _)) hgrow; have K2 := Lib.hid (KN.step (HKX.out.below ((Below.refl _ _).alloc (Nat.le_refl _) _)) hown1 hgrow); have H2 := Lib.hid (QG.hung HX.out H0.out _ hgrow (fun k e => Nat.le_trans hBw (HKX.out.own.lt _ e).1) (u := .slice (some ⟨g', 0, none⟩) (xs.length + 1) cap) (Nat.le_trans hBw HKX.out.low)); clear hown1 hgrow hor hlt5))
            all_goals
              have HM0 := Lib.hid (loopM_bad (w := w) H2.out HO.out hj)
              go_wp2
              go_roundw
              case rel => exact Lib.hid (LK.hung H2.out K2.out (by rw [List.length_append]; simp only [List.length_singleton]; have := HK.out.len; omega) HS.out (by omega))
              case measure => exact HM0.out
          | ok r =>
            obtain ⟨y, j4⟩ := r
            rw [hy] at d3
            have hj4 := HM.out _ _ _ hy
            have HS7 := Lib.hid (show res = (match manyR L el (L.length + 1) (acc ++ [y]) j4 with | .error k => .error k | .ok (l, j) => .ok (mk 29 (p1, p2) sNil 0 l, j)) by rw [HS2.out, hy]; dsimp only; rw [HMS.out L.length (L.length + 1) _ _ (by omega) (by omega)])
            have D1 := Lib.hid d3
            clear d3 hy HS2
            have HD := Lib.hid (H.out.below ((Below.refl _ _).drew))
            have HKD := Lib.hid (HK.out.below ((Below.refl _ _).drew))
            obtain ⟨m4, m4f, hbl4⟩ := HK.out.kn.facts
            go_wp2
            go_region_law (first
              | (go_simp; go_at_call 53; (with_reducible refine D1.out.mono ?_); rintro e x ⟨by_, rfl, hp, hg, hr⟩; have HKX := Lib.hid (HKD.out.grown hg hbB0 hB); have HY := Lib.hid (HKD.out.new hr hB); have HX := Lib.hid (HD.out.trans ⟨hp, hg⟩); clear hp hg hr; obtain ⟨t4, t4f, hbx⟩ := HKX.out.kn.facts; have Q := kid_facts (p := some ⟨by_, 0, none⟩) x.heap.size rfl (Nat.le_trans HKX.out.kn.low (Nat.le_of_lt hbx)) HKX.out.kn.own hxl)
              | (refine step_append_lies _ (by rfl) _ _ _ (by rfl) wb.heap.size 24 i0 _ 1 8 Try.underlying36 hi0 hz0 hz1 hz2 rfl (by omega) sv xs.length xs (by rfl) Q.out.2.2.2.2 ⟨x.heap.size, 0, none⟩ 1 1 [.pointer (some ⟨by_, 0, none⟩)] (by rfl) (by rfl) Q.out.1 Q.out.2.1 (by omega) Q.out.2.2.1 (by omega) Q.out.2.2.2.1 (x.heap.size + 1) (by simp) ?_; intro g' cap w5 hown1 hgrow hor hlt5; obtain ⟨s4, s4f, hb5⟩ := KN.after (HKX.out.kn.below ((Below.refl _ _).alloc (Nat.le_refl _) _)) hgrow; have K2 := Lib.hid (KG.step (HKX.out.below ((Below.refl _ _).alloc (Nat.le_refl _) _)) (HY.out.below ((Below.refl _ _).alloc (Nat.le_refl _) _)) hown1 hgrow (hor.imp id fun e => e.trans (World.size_alloc _ _).symm)); have H2 := Lib.hid (QG.hung HX.out H0.out _ hgrow (fun k e => Nat.le_trans hBw (HKX.out.kn.own.lt _ e).1) (u := .slice (some ⟨g', 0, none⟩) (xs.length + 1) cap) (Nat.le_trans hBw HKX.out.kn.low)); clear hown1 hgrow hor hlt5))
            all_goals
              have HM0 := Lib.hid (loopM_good (w := w) H2.out HO.out hj (by omega))
              go_wp2
              go_roundw
              case rel => exact Lib.hid (LK.good (by omega) (by rw [List.length_append]; simp only [List.length_singleton]; omega) H2.out K2.out ⟨acc ++ [y], rfl, by omega, HS7.out⟩)
              case measure => exact HM0.out
end Go.Proofs.Ytnboenmkngjhmaa.Ex
