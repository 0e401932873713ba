/- A part of the proof: G18, F5. -/
import Derived.Test.YtecmjhohniipoaaZ1
import Derived.Test.YtecmjhohniipoaaZ19
import Derived.Deep.AppendLies
import Derived.Deep.LoopGhost
import Derived.Test.YtecmjhohniipoaaZ12
set_option linter.unusedSimpArgs false
set_option linter.unusedVariables false

section
namespace Go.Proofs.Ytecmjhohniipoaa.Ex
open Go.RowKit
open Tr (Nd Fo RepS RepN Rep cellsN)
open Lx (Tk noTk Blk run_store_complexL TokAt)
open Fl
attribute [local go_sem] run_store_complexL run_field1 run_field3
set_option maxRecDepth 100000 in set_option maxHeartbeats 6400000 in
theorem rlabels_any {w0 : World} {br c : Nat} {A : Option Addr} {L : List PT} (ht : Toks w0 br A L) (ok : OKRow L) {el : Nat → Except Nat (T1 × Nat)} {lo : Nat} (hE : RnOK 92 el lo w0 br A c L) (hm : SpOK L el) (hme : ∀ j k, j ≤ 60000 → el j = .error k → k ≤ 80000) (i : Nat) (hlo : lo ≤ i) (hi : i ≤ 60000) (w : World) (h : QInv w0 w br A c L i false) :
 Calls Try.prog 79 #[.pointer (some ⟨br, 0, none⟩)] w (RefR w.heap.size w0 w br A c L (match manyP L el i with | .error k => .error k | .ok (l, j) => .ok (mk 29 (pos L i) sNil 0 l, j))) := by
 have hbr0 := h.row.lt
 have hlen := ht.len
 have hB00 : ∃ B0, B0 = w.heap.size := ⟨_, rfl⟩
 have H0 := qh h
 have H := qh (QG.start h)
 have HE := qh hE
 have HM := qh hm
 have HT := qh ht
 have HOK := qh ok
 have HME := qh hme
 have HMS := qh (many_same hm)
 have N1 := qh (rnow_any ht (by omega) w h)
 obtain ⟨k_, p1, p2, q1_, q2_, t_, n_, e1, e2⟩ := val_form (tk L i)
 rw [e2] at N1
 rw [show pos L i = (p1, p2) by unfold pos; rw [e1]]
 have HS1 := qh (show (match manyP L el i with | .error k => .error k | .ok (l, j) => .ok (mk 29 (p1, p2) sNil 0 l, j) : Except Nat (T1 × Nat)) = match el i with
  | .error k => .error k
  | .ok (x, j) => (match manyR L el (L.length + 1) [x] j with | .error k => .error k | .ok (l, j) => .ok (mk 29 (p1, p2) sNil 0 l, j)) by
    unfold manyP
    cases el i with
    | error k => rfl
    | ok r => rfl)
 generalize (match manyP L el i with | .error k => .error k | .ok (l, j) => .ok (mk 29 (p1, p2) sNil 0 l, j) : Except Nat (T1 × Nat)) = res at HS1 ⊢
 obtain ⟨i0, hi0, hz0, hz1, hz2⟩ := info_parts infoN
 obtain ⟨B0, hB0⟩ := hB00
 rw [← hB0]
 clear hE h ht ok hm hme e1 e2
 go_enter Try.func79, Try.ntmps79
 go_wp2_with fail
 ((with_reducible refine N1.out.mono ?_); rintro e wb ⟨rfl, hb⟩)
 have H := qh (H.out.below hb)
 have hBw : w.heap.size ≤ wb.heap.size := hb.size
 have hB : B0 ≤ wb.heap.size := by omega
 have hbB0 : br < B0 := by omega
 have hbrB : br < wb.heap.size := by omega
 have NW := qh (node_kn (w := wb) 29 29 rfl p1 p2 sNil none none)
 clear hb N1
 go_wp2_with fail
 ((with_reducible refine NW.out.mono ?_); rintro e v1 ⟨b, sv0, rfl, hn⟩)
 have HK := qh (KG.start0 (B0 := B0) hn)
 have H := qh (H.out.below hn.bel)
 have hBb := hn.low
 clear hn NW
 have d3 := HE.out i (by omega) (by omega) v1.drew (H.out.below ((Below.refl _ _).drew)).1
 have hxl : ([] : List Value).length ≤ 1000000 := by simp
 cases hy : el i with
 | error k =>
   rw [hy] at d3
   have HS := qh (show res = .error k by rw [HS1.out, hy])
   have D1 := qh d3
   have hk8 := HME.out _ _ (by omega) hy
   clear d3 hy HS1
   have HD := qh (H.out.below ((Below.refl _ _).drew))
   have HKD := qh (HK.out.below ((Below.refl _ _).drew))
   obtain ⟨m4, m4f, hbl4⟩ := HK.out.kn.facts
   go_wp2
   go_region_law (first
    | (go_simp; go_at_call 92; (with_reducible refine D1.out.mono ?_); rintro e x ⟨p9, rfl, hp, hg⟩; have HKX := qh (HKD.out.kn.grown hg hbrB); have HX := qh (HD.out.trans ⟨hp, hg⟩); clear hp hg; obtain ⟨t4, t4f, hbx⟩ := HKX.out.facts; have Q := kid_facts (p := p9) x.heap.size rfl (Nat.le_trans HKX.out.low (Nat.le_of_lt hbx)) HKX.out.own hxl)
    | (refine step_append_lies _ (by rfl) _ _ _ (by rfl) wb.heap.size 26 i0 _ 1 8 Try.underlying40 hi0 hz0 hz1 hz2 rfl (by omega) sv0 ([] : List Value).length ([] : List Value) (by rfl) Q.out.2.2.2.2 ⟨x.heap.size, 0, none⟩ 1 1 [.pointer p9] (by rfl) (by rfl) Q.out.1 Q.out.2.1 (by omega) Q.out.2.2.1 (by omega) Q.out.2.2.2.1 (x.heap.size + 1) (by simp) ?_; intro g' cap w5 hown1 hgrow hor hlt5; obtain ⟨s4, s4f, hb5⟩ := KN.after (HKX.out.below ((Below.refl _ _).alloc (Nat.le_refl _) _)) hgrow; have K2 := qh (KN.step (HKX.out.below ((Below.refl _ _).alloc (Nat.le_refl _) _)) hown1 hgrow); have H2 := qh (QG.hung HX.out H0.out _ hgrow (fun k e => Nat.le_trans hBw (HKX.out.own.lt _ e).1) (u := .slice (some ⟨g', 0, none⟩) (([] : List Value).length + 1) cap) (Nat.le_trans hBw HKX.out.low)); clear hown1 hgrow hor hlt5))
   all_goals
    go_wp2_with fail
    go_loopw [] (fun wr => Hid (QG w0 w wr br A c L k true ∧ ∃ sv xs, KN wb.heap.size wr b ⟨29, (p1, p2), sNil, 0⟩ sv xs)) (fun _ => 0)
    case atStart => exact qh ⟨H2.out, _, _, K2.out⟩
    case round =>
     clear H H2 HK K2
     obtain ⟨hG, sv, xs, hK⟩ := hrel.out
     have H := qh hG
     have HK := qh hK
     clear hrel hG hK
     have EB := qh (reat_bad HT.out (by omega) sCom _ H.out.1)
     go_wp2_with fail
     ((with_reducible refine (EB.out).mono ?_); rintro e v1 ⟨rfl, hb⟩)
     have H := qh (H.out.trans hb)
     have HK := qh (HK.out.grown hb.2 hbrB)
     clear hb
     go_wp2
     go_ret
     rw [HS.out]
     exact ⟨_, rfl, H.out.1, H.out.2⟩
 | ok r =>
   obtain ⟨x1, j⟩ := r
   rw [hy] at d3
   have hj4 := HM.out _ _ _ hy
   have HS := qh (show res = (match manyR L el (L.length + 1) [x1] j with | .error k => .error k | .ok (l, j) => .ok (mk 29 (p1, p2) sNil 0 l, j)) by rw [HS1.out, hy])
   have D1 := qh d3
   clear d3 hy HS1
   have HD := qh (H.out.below ((Below.refl _ _).drew))
   have HKD := qh (HK.out.below ((Below.refl _ _).drew))
   obtain ⟨m4, m4f, hbl4⟩ := HK.out.kn.facts
   go_wp2
   go_region_law (first
    | (go_simp; go_at_call 92; (with_reducible refine D1.out.mono ?_); rintro e x ⟨by_, rfl, hp, hg, hr⟩; have HKX := qh (HKD.out.grown hg hbB0 hB); have HY := qh (HKD.out.new hr hB); have HX := qh (HD.out.trans ⟨hp, hg⟩); clear hp hg hr; obtain ⟨t4, t4f, hbx⟩ := HKX.out.kn.facts; have Q := kid_facts (p := some ⟨by_, 0, none⟩) x.heap.size rfl (Nat.le_trans HKX.out.kn.low (Nat.le_of_lt hbx)) HKX.out.kn.own hxl)
    | (refine step_append_lies _ (by rfl) _ _ _ (by rfl) wb.heap.size 26 i0 _ 1 8 Try.underlying40 hi0 hz0 hz1 hz2 rfl (by omega) sv0 ([] : List Value).length ([] : List Value) (by rfl) Q.out.2.2.2.2 ⟨x.heap.size, 0, none⟩ 1 1 [.pointer (some ⟨by_, 0, none⟩)] (by rfl) (by rfl) Q.out.1 Q.out.2.1 (by omega) Q.out.2.2.1 (by omega) Q.out.2.2.2.1 (x.heap.size + 1) (by simp) ?_; intro g' cap w5 hown1 hgrow hor hlt5; obtain ⟨s4, s4f, hb5⟩ := KN.after (HKX.out.kn.below ((Below.refl _ _).alloc (Nat.le_refl _) _)) hgrow; have K2 := qh (KG.step (HKX.out.below ((Below.refl _ _).alloc (Nat.le_refl _) _)) (HY.out.below ((Below.refl _ _).alloc (Nat.le_refl _) _)) hown1 hgrow (hor.imp id fun e => e.trans (World.size_alloc _ _).symm)); have H2 := qh (QG.hung HX.out H0.out _ hgrow (fun k e => Nat.le_trans hBw (HKX.out.kn.own.lt _ e).1) (u := .slice (some ⟨g', 0, none⟩) (([] : List Value).length + 1) cap) (Nat.le_trans hBw HKX.out.kn.low)); clear hown1 hgrow hor hlt5))
   all_goals
    go_wp2_with fail
    go_loopw [] (fun wr => Hid (LK B0 wb.heap.size w0 w br A c L b ⟨29, (p1, p2), sNil, 0⟩ res (fun acc j => ∃ l, acc = l ∧ i < j ∧ res = (match manyR L el (L.length + 1) l j with | .error k => .error k | .ok (l, j) => .ok (mk 29 (p1, p2) sNil 0 l, j))) wr)) (fun wr => loopM L.length wr br)
    case atStart => exact qh (LK.good (by omega) (by simp only [List.nil_append, List.length_append, List.length_singleton, List.length_cons, List.length_nil]; omega) H2.out K2.out ⟨_, rfl, by omega, HS.out⟩)
    case round =>
     clear H H2 HK K2 HS
     rcases hrel.out with ⟨acc, sv, xs, j, hj, hac, hG, hK, l, hl, hij, hS⟩ | ⟨sv, xs, k, hk8, hvs, hG, hK, hS⟩
     case' inr =>
      have H := qh hG
      have HS := qh hS
      have HK := qh hK
      clear hrel hG hS hK
      have EB := qh (reat_bad HT.out (by omega) sCom _ H.out.1)
      go_wp2_with fail
      ((with_reducible refine (EB.out).mono ?_); rintro e v1 ⟨rfl, hb⟩)
      have H := qh (H.out.trans hb)
      have HK := qh (HK.out.grown hb.2 hbrB)
      clear hb
      go_wp2
      go_ret
      rw [HS.out]
      exact ⟨_, rfl, H.out.1, H.out.2⟩
     subst hl
     obtain ⟨wo, rfl⟩ : ∃ wo : World, wo = wr := ⟨_, rfl⟩
     have H := qh hG
     have HO := qh hG
     have HK := qh hK
     have HS1 := qh (show res = _ from hS.trans (by rw [manyR_succ]))
     clear hrel hG hS hK
     cases hC : isT L j sCom with
     | false =>
       have EN := qh (reatT_no HT.out (by omega) sCom _ HOK.out (by decide) H.out.1 hC)
       have HS := qh (show res = .ok (mk 29 (p1, p2) sNil 0 acc, j) by rw [HS1.out, if_neg (by rw [hC]; simp)])
       clear HS1
       go_wp2_with fail
       ((with_reducible refine (EN.out).mono ?_); rintro e v1 ⟨rfl, hb⟩)
       have H := qh (H.out.trans hb)
       have HK := qh (HK.out.grown hb.2 hbB0 hB)
       clear hb
       go_wp2
       go_ret
       rw [HS.out]
       exact ⟨b, rfl, H.out.1, H.out.2, HK.out.done hB⟩
     | true =>
       have hjlt := isT_lt hC
       have EY := qh (reatT_yes HT.out (by omega) sCom _ HOK.out (by decide) H.out.1 hC)
       have HS2 := qh (HS1.out.trans (by rw [if_pos hC]))
       clear HS1
       go_wp2_with fail
       ((with_reducible refine (EY.out).mono ?_); rintro e v1 ⟨rfl, hb⟩)
       have H := qh (H.out.trans hb)
       have HK := qh (HK.out.grown hb.2 hbB0 hB)
       clear hb
       have hxl : xs.length ≤ 1000000 := by have := HK.out.len; omega
       have d3 := HE.out (j + 1) (by omega) (by omega) v1.drew (H.out.below ((Below.refl _ _).drew)).1
       cases hy : el (j + 1) with
       | error k =>
         rw [hy] at d3
         have HS := qh (show res = .error k by rw [HS2.out, hy])
         have D1 := qh d3
         have hk8 := HME.out _ _ (by omega) hy
         clear d3 hy HS2
         have HD := qh (H.out.below ((Below.refl _ _).drew))
         have HKD := qh (HK.out.below ((Below.refl _ _).drew))
         obtain ⟨m4, m4f, hbl4⟩ := HK.out.kn.facts
         go_wp2
         go_region_law (first
          | (go_simp; go_at_call 92; (with_reducible refine D1.out.mono ?_); rintro e x ⟨p9, rfl, hp, hg⟩; have HKX := qh (HKD.out.kn.grown hg hbrB); have HX := qh (HD.out.trans ⟨hp, hg⟩); clear hp hg; obtain ⟨t4, t4f, hbx⟩ := HKX.out.facts; have Q := kid_facts (p := p9) x.heap.size rfl (Nat.le_trans HKX.out.low (Nat.le_of_lt hbx)) HKX.out.own hxl)
          | (refine step_append_lies _ (by rfl) _ _ _ (by rfl) wb.heap.size 26 i0 _ 1 8 Try.underlying40 hi0 hz0 hz1 hz2 rfl (by omega) sv xs.length xs (by rfl) Q.out.2.2.2.2 ⟨x.heap.size, 0, none⟩ 1 1 [.pointer p9] (by rfl) (by rfl) Q.out.1 Q.out.2.1 (by omega) Q.out.2.2.1 (by omega) Q.out.2.2.2.1 (x.heap.size + 1) (by simp) ?_; intro g' cap w5 hown1 hgrow hor hlt5; obtain ⟨s4, s4f, hb5⟩ := KN.after (HKX.out.below ((Below.refl _ _).alloc (Nat.le_refl _) _)) hgrow; have K2 := qh (KN.step (HKX.out.below ((Below.refl _ _).alloc (Nat.le_refl _) _)) hown1 hgrow); have H2 := qh (QG.hung HX.out H0.out _ hgrow (fun k e => Nat.le_trans hBw (HKX.out.own.lt _ e).1) (u := .slice (some ⟨g', 0, none⟩) (xs.length + 1) cap) (Nat.le_trans hBw HKX.out.low)); clear hown1 hgrow hor hlt5))
         all_goals
          have HM0 := qh (loopM_bad (w := w) H2.out HO.out hj)
          go_wp2
          go_roundw
          case rel => exact qh (LK.hung H2.out K2.out (by rw [List.length_append]; simp only [List.length_singleton]; have := HK.out.len; omega) HS.out (by omega))
          case measure => exact HM0.out
       | ok r =>
         obtain ⟨y, j4⟩ := r
         rw [hy] at d3
         have hj4 := HM.out _ _ _ hy
         have HS7 := qh (show res = (match manyR L el (L.length + 1) (acc ++ [y]) j4 with | .error k => .error k | .ok (l, j) => .ok (mk 29 (p1, p2) sNil 0 l, j)) by rw [HS2.out, hy]; dsimp only; rw [HMS.out L.length (L.length + 1) _ _ (by omega) (by omega)])
         have D1 := qh d3
         clear d3 hy HS2
         have HD := qh (H.out.below ((Below.refl _ _).drew))
         have HKD := qh (HK.out.below ((Below.refl _ _).drew))
         obtain ⟨m4, m4f, hbl4⟩ := HK.out.kn.facts
         go_wp2
         go_region_law (first
          | (go_simp; go_at_call 92; (with_reducible refine D1.out.mono ?_); rintro e x ⟨by_, rfl, hp, hg, hr⟩; have HKX := qh (HKD.out.grown hg hbB0 hB); have HY := qh (HKD.out.new hr hB); have HX := qh (HD.out.trans ⟨hp, hg⟩); clear hp hg hr; obtain ⟨t4, t4f, hbx⟩ := HKX.out.kn.facts; have Q := kid_facts (p := some ⟨by_, 0, none⟩) x.heap.size rfl (Nat.le_trans HKX.out.kn.low (Nat.le_of_lt hbx)) HKX.out.kn.own hxl)
          | (refine step_append_lies _ (by rfl) _ _ _ (by rfl) wb.heap.size 26 i0 _ 1 8 Try.underlying40 hi0 hz0 hz1 hz2 rfl (by omega) sv xs.length xs (by rfl) Q.out.2.2.2.2 ⟨x.heap.size, 0, none⟩ 1 1 [.pointer (some ⟨by_, 0, none⟩)] (by rfl) (by rfl) Q.out.1 Q.out.2.1 (by omega) Q.out.2.2.1 (by omega) Q.out.2.2.2.1 (x.heap.size + 1) (by simp) ?_; intro g' cap w5 hown1 hgrow hor hlt5; obtain ⟨s4, s4f, hb5⟩ := KN.after (HKX.out.kn.below ((Below.refl _ _).alloc (Nat.le_refl _) _)) hgrow; have K2 := qh (KG.step (HKX.out.below ((Below.refl _ _).alloc (Nat.le_refl _) _)) (HY.out.below ((Below.refl _ _).alloc (Nat.le_refl _) _)) hown1 hgrow (hor.imp id fun e => e.trans (World.size_alloc _ _).symm)); have H2 := qh (QG.hung HX.out H0.out _ hgrow (fun k e => Nat.le_trans hBw (HKX.out.kn.own.lt _ e).1) (u := .slice (some ⟨g', 0, none⟩) (xs.length + 1) cap) (Nat.le_trans hBw HKX.out.kn.low)); clear hown1 hgrow hor hlt5))
         all_goals
          have HM0 := qh (loopM_good (w := w) H2.out HO.out hj (by omega))
          go_wp2
          go_roundw
          case rel => exact qh (LK.good (by omega) (by rw [List.length_append]; simp only [List.length_singleton]; omega) H2.out K2.out ⟨acc ++ [y], rfl, by omega, HS7.out⟩)
          case measure => exact HM0.out
end Go.Proofs.Ytecmjhohniipoaa.Ex
end

section
namespace Go.Proofs.Ytecmjhohniipoaa.Ex
open Tr (Nd Fo)
open Lx (Tk noTk)
def cntT (x : T1) : Nat := (Fo.node x.1 x.2 .no).count
def cntL (l : List T1) : Nat := (forest l).count
theorem cnt_mk (kind : Nat) (p : Nat × Nat) (name : ByteArray) (n : Int) (l : List T1) : cntT (mk kind p name n l) = 1 + cntL l := by simp [cntT, cntL, mk, Fo.count]
theorem cntL_nil : cntL [] = 0 := rfl
theorem cntL_cons (x : T1) (l : List T1) : cntL (x :: l) = cntT x + cntL l := by simp [cntT, cntL, forest, Fo.count]
theorem cntL_snoc (y : T1) : ∀ l : List T1, cntL (l ++ [y]) = cntL l + cntT y
 | [] => by simp [cntL_cons, cntL_nil]
 | x :: l => by rw [List.cons_append, cntL_cons, cntL_cons, cntL_snoc y l]; omega
def Grow {α : Type} (c : α → Nat) (k : Nat) (p : Par α) : Prop := ∀ L i a j, p L i = .ok (a, j) → c a + i ≤ k + j
section
variable {α β : Type} {c : α → Nat} {c' : β → Nat} {k k' : Nat}
theorem Grow.more {p : Par α} (h : Grow c k p) (hk : k ≤ k') : Grow c k' p := fun L i a j e => by have := h L i a j e; omega
theorem grow_ret {a : α} (h : c a ≤ k) : Grow c k (retP a) := fun L i b j e => by cases e; omega
theorem grow_fail : Grow c k (failP (α := α)) := fun L i b j e => by cases e
theorem grow_bind {p : Par α} {q : α → Par β} {m : Nat} (hp : Grow c k p) (hq : ∀ a, Grow c' (c a + m) (q a)) (hk : k + m ≤ k') : Grow c' k' (bindP p q) := by
 intro L i b j e
 unfold bindP at e
 cases e1 : p L i with
 | error x => rw [e1] at e; cases e
 | ok r =>
   obtain ⟨a, j1⟩ := r
   rw [e1] at e
   have h1 := hp L i a j1 e1
   have h2 := hq a L j1 b j e
   omega
theorem grow_tok {t : PT → Bool} {A : PT → Par α} {B : Par α} (hA : ∀ x, Grow c (k + 1) (A x)) (hB : Grow c k B) : Grow c k (tokP t A B) := by
 intro L i a j e
 unfold tokP at e
 split at e
 ·have := hA _ L (i + 1) a j e; omega
 ·exact hB L i a j e
theorem grow_pos {q : PT → Par α} (h : ∀ x, Grow c k (q x)) : Grow c k (posP q) := fun L i a j e => h _ L i a j e
end
theorem grow_name : Grow (fun _ => 1) 0 nameP := by
 rw [nameP_eq]
 exact grow_tok (fun x => grow_ret (Nat.le_refl _)) grow_fail
theorem grow_needF {α : Type} {c : α → Nat} {k : Nat} (s : ByteArray) {p : Par α} (h : Grow c k p) : Grow c k (needF s p) := grow_tok (fun _ => h.more (Nat.le_succ _)) grow_fail
theorem cnt_1 (kind : Nat) (p : Nat × Nat) (name : ByteArray) (n : Int) (x : T1) : cntT (mk kind p name n [x]) = 1 + cntT x := by rw [cnt_mk, cntL_cons, cntL_nil]; rfl
theorem cnt_2 (kind : Nat) (p : Nat × Nat) (name : ByteArray) (n : Int) (x y : T1) : cntT (mk kind p name n [x, y]) = 1 + cntT x + cntT y := by rw [cnt_mk, cntL_cons, cntL_cons, cntL_nil]; omega
theorem grow_dotsF : ∀ (f : Nat) (x : T1), Grow cntT (cntT x) (dotsF f x)
 | 0, x => grow_ret (Nat.le_refl _)
 | f + 1, x => grow_tok (fun t => grow_bind (m := cntT x) grow_name (fun a => (grow_dotsF f _).more (by rw [cnt_1]; exact Nat.le_refl _)) (by omega)) (grow_ret (Nat.le_refl _))
theorem grow_qualF (g : Nat) : Grow cntT 0 (qualF g) := grow_bind (m := 0) grow_name (fun a => (grow_dotsF g _).more (by rw [cnt_mk, cntL_nil]; exact Nat.le_refl _)) (by omega)
section
variable {e : Par T1} (ge : Grow cntT 0 e)
include ge
theorem grow_commasF : ∀ (f : Nat) (x : T1), Grow cntT (cntT x) (commasF e f x)
 | 0, x => grow_ret (Nat.le_refl _)
 | f + 1, x => grow_tok (fun t => grow_bind (m := 1 + cntT x) ge (fun a => (grow_commasF f _).more (by rw [cnt_2]; omega)) (by omega)) (grow_ret (Nat.le_refl _))
theorem grow_desF (g : Nat) : ∀ (f : Nat) (x : T1), Grow cntT (cntT x) (desF e g f x)
 | 0, x => grow_ret (Nat.le_refl _)
 | f + 1, x => grow_tok (fun t => grow_bind (m := cntT x) grow_name (fun a => (grow_desF g f _).more (by rw [cnt_1]; exact Nat.le_refl _)) (by omega))
    (grow_tok (fun t => (grow_desF g f _).more (by rw [cnt_1]; omega))
    (grow_tok (fun t => grow_bind (m := 1 + cntT x) ge (fun a => grow_bind (m := 0) (grow_commasF ge g _) (fun z => grow_needF _ (grow_desF g f z)) (by rw [cnt_2]; omega)) (by omega)) (grow_ret (Nat.le_refl _))))
theorem grow_designF (g : Nat) : Grow cntT 0 (designF e g) := grow_bind (m := 0) (grow_qualF g) (fun x => (grow_desF ge g g x).more (by omega)) (by omega)
theorem grow_elemF : Grow cntT 0 (elemF e) := grow_pos fun t => grow_bind (m := 0) ge (fun x => grow_tok (fun _ => grow_bind (m := 1 + cntT x) ge (fun y => grow_ret (by rw [cnt_2]; omega)) (by omega)) (grow_ret (by omega))) (by omega)
theorem grow_manyRF : ∀ (f : Nat) (l : List T1), Grow cntL (cntL l) (manyRF e f l)
 | 0, x => grow_ret (Nat.le_refl _)
 | f + 1, l => grow_tok (fun t => grow_bind (m := cntL l) ge (fun a => (grow_manyRF f _).more (by rw [cntL_snoc]; omega)) (by omega)) (grow_ret (Nat.le_refl _))
theorem grow_manyF (g : Nat) : Grow cntL 0 (manyF e g) := grow_bind (m := 0) ge (fun a => (grow_manyRF ge g [a]).more (by rw [cntL_cons, cntL_nil]; omega)) (by omega)
theorem grow_betweenF (g : Nat) (close : ByteArray) : Grow cntL 0 (betweenF e g close) :=
 grow_tok (fun _ => grow_ret (by rw [cntL_nil]; omega)) (grow_bind (m := 0) (grow_manyF ge g) (fun l => grow_needF _ (grow_ret (by omega))) (by omega))
end
theorem grow_bins {su : Par T1} (gs : Grow cntT 0 su) (k : Nat) : ∀ (f : Nat) (x : T1), Grow cntT (cntT x) (binsF su k f x)
 | 0, x => grow_ret (Nat.le_refl _)
 | f + 1, x => grow_tok (fun t => grow_bind (m := 1 + cntT x) gs (fun a => by
    split
    ·exact grow_ret (by rw [cnt_2]; omega)
    ·exact (grow_bins gs k f _).more (by rw [cnt_2]; omega)) (by omega)) (grow_ret (Nat.le_refl _))
theorem grow_lev {fac : Par T1} (gf : Grow cntT 0 fac) (g : Nat) : ∀ d, Grow cntT 0 (levF fac g d)
 | 0 => gf
 | d + 1 => grow_tok (fun t => grow_bind (m := 1) (grow_lev gf g d) (fun x => (grow_bins (grow_lev gf g d) _ g _).more (by rw [cnt_1]; omega)) (by omega))
    (grow_bind (m := 0) (grow_lev gf g d) (fun x => (grow_bins (grow_lev gf g d) _ g _).more (by omega)) (by omega))
theorem cnt_zero : cntT zeroT = 1 := rfl
theorem grow_fact (g : Nat) : ∀ f, Grow cntT 0 (factF g f)
 | 0 => grow_fail
 | f + 1 => by
   have h := grow_fact g f
   have e := grow_lev h g 3
   have em := grow_elemF e
   refine grow_tok (fun t => grow_ret (by rw [cnt_mk, cntL_nil]; omega)) (grow_tok (fun _ => grow_bind (m := 0) e (fun x => grow_needF _ (grow_ret (by omega))) (by omega))
    (grow_tok (fun t => grow_bind (m := 1) h (fun x => grow_ret (by rw [cnt_1]; omega)) (by omega))
    (grow_tok (fun t => ?_) (grow_pos fun t0 => grow_bind (m := 0) (grow_designF e g) (fun x => ?_) (by omega)))))
   ·intro L i a j hh
    unfold bindP at hh
    cases e1 : betweenF (elemF (levF (factF g f) g 3)) g sRuc L i with
    | error k => rw [e1] at hh; cases hh
    | ok r =>
      obtain ⟨l, j1⟩ := r
      rw [e1] at hh
      cases hh
      have h1 := grow_betweenF em g sRuc L i l j e1
      rw [cnt_mk, cntL_cons, cnt_zero]
      have h2 : i + 1 ≤ j := by
       by_cases hT : tT sRuc (tk L i) = true
       ·unfold betweenF tokP at e1
        rw [if_pos hT] at e1
        cases e1
        omega
       ·exact strict_betweenF (good_elemF (good_levF g (fact_gs g f).1 3) (strict_levF g (fact_gs g f).1 (fact_gs g f).2 3)) (strict_elemF (good_levF g (fact_gs g f).1 3) (strict_levF g (fact_gs g f).1 (fact_gs g f).2 3)) g sRuc L i l j e1
      have h3 : cntL l + i + 1 ≤ j := by
       by_cases hT : tT sRuc (tk L i) = true
       ·unfold betweenF tokP at e1
        rw [if_pos hT] at e1
        cases e1
        rw [cntL_nil]
        omega
       ·unfold betweenF tokP at e1
        rw [if_neg hT] at e1
        unfold bindP at e1
        cases e2 : manyF (elemF (levF (factF g f) g 3)) g L i with
        | error k => rw [e2] at e1; cases e1
        | ok r =>
          obtain ⟨l2, j2⟩ := r
          rw [e2] at e1
          have h4 := grow_manyF em g L i l2 j2 e2
          dsimp only at e1
          unfold needF tokP at e1
          split at e1
          ·cases e1; omega
          ·cases e1
      omega
   ·exact grow_tok (fun _ => grow_bind (m := 1 + cntT x) (grow_betweenF em g _) (fun l => grow_ret (by rw [cnt_mk, cntL_cons]; omega)) (by omega))
     (grow_tok (fun tj => grow_bind (m := 1 + cntT x) (grow_betweenF e g _) (fun l => grow_ret (by rw [cnt_mk, cntL_cons]; omega)) (by omega)) (grow_ret (by omega)))
end Go.Proofs.Ytecmjhohniipoaa.Ex
end
