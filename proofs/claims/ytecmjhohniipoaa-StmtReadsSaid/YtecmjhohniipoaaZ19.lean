/- A part of the proof: G14. -/
import Derived.Test.YtecmjhohniipoaaZ1
import Derived.Test.YtecmjhohniipoaaZ16
import Derived.Test.YtecmjhohniipoaaZ18
import Derived.Deep.AppendLies
import Derived.Deep.LoopGhost
set_option linter.unusedSimpArgs false
set_option linter.unusedVariables false

section
namespace Go.Proofs.Ytecmjhohniipoaa.Ex
open Go.RowKit
open Tr (Nd Fo RepS RepN Rep cellsN)
open Lx (Tk noTk Blk run_store_complexL TokAt)
open Fl
attribute [local go_sem] run_store_complexL run_field1 run_field3
def LK (B0 B : Nat) (w0 w : World) (br : Nat) (A : Option Addr) (c : Nat) (L : List PT) (b : Nat) (d : Nd) (res : Except Nat (T1 × Nat)) (G : List T1 → Nat → Prop) (wr : World) : Prop :=
 (∃ (acc : List T1) (sv : Value) (xs : List Value) (j : Nat), j ≤ L.length ∧ acc.length ≤ j + 1 ∧ QG w0 w wr br A c L j false ∧ KG B0 B wr b d sv acc xs ∧ G acc j) ∨
 (∃ (sv : Value) (xs : List Value) (k : Nat), k ≤ 80000 ∧ xs.length ≤ 20003 ∧ QG w0 w wr br A c L k true ∧ KN B wr b d sv xs ∧ res = .error k)
section
variable {w0 w wr w1 : World} {B br b c i i' : Nat} {d : Nd} {A : Option Addr} {L : List PT} {sv u : Value} {xs : List Value} {bad bad' : Bool}
theorem QG.hung {row : Option Nat} (h : QG w0 w wr br A c L i bad) (hw : QInv w0 w br A c L i' bad') (o : Obj) (hg : (wr.alloc o).grownBy w1 row) (hr : ∀ k, row = some k → w.heap.size ≤ k) (hb : w.heap.size ≤ b) : QG w0 w (w1.setCell ⟨b, 4, none⟩ u) br A c L i bad :=
 (QG.appended h hw hg hr).far hw hb 4 u
theorem kid_facts {W : World} {p : Option Addr} (m : Nat) (hm : W.heap.size = m) (hw : B ≤ W.heap.size) (hown : W.ownsRow B 26 1 sv xs.length xs) (hn : xs.length ≤ 1000000) :
 Hid ((∀ i v, [Value.pointer p][i]? = some v → (W.alloc (.cells #[.pointer p] 26)).cell? ((⟨m, 0, none⟩ : Addr).add i) = some v) ∧ (∀ v ∈ [Value.pointer p], v.oneCell' = true) ∧ xs.length + 1 ≤ maxLen ∧ B ≤ (W.alloc (.cells #[.pointer p] 26)).heap.size ∧ (W.alloc (.cells #[.pointer p] 26)).ownsRow B 26 1 sv xs.length xs) :=
 hm ▸ qh ⟨World.news_of_block (cs := #[.pointer p]) (heap_alloc_new W _), fun v hv => by simp only [List.mem_singleton] at hv; subst hv; rfl, by unfold maxLen; omega, by rw [World.size_alloc]; omega, hown.alloc _⟩
theorem KN.after (h : KN B wr b d sv xs) (hg : wr.grownBy w1 sv.ownBlock) : w1.cell? ⟨b, 4, none⟩ = some sv ∧ w1.frozen? ⟨b, 4, none⟩ = false ∧ b < w1.heap.size :=
 have hb := h.blk.grown hg (fun e => Tr.own_blk_ne h.own h.blk (by decide) e.symm)
 ⟨hb.cell 4, hb.frozen 4, hb.lt⟩
theorem KG.start0 {B0 : Nat} (h : NB w wr b d sv []) : KG B0 w.heap.size wr b d sv [] [] := ⟨h.kn, (by unfold forest; unfold RepS; rfl), rfl⟩
theorem KG.start1 {B0 bt : Nat} {x : T1} (h : NB w wr b d sv [.pointer (some ⟨bt, 0, none⟩)]) (hx : RepS (fun y => B0 ≤ y) w (.node x.1 x.2 .no) [.pointer (some ⟨bt, 0, none⟩)]) : KG B0 w.heap.size wr b d sv [x] [.pointer (some ⟨bt, 0, none⟩)] := by
 refine ⟨h.kn, ?_, rfl⟩
 have h1 : RepS (fun y => B0 ≤ y ∧ y < w.heap.size) wr (.node x.1 x.2 .no) [.pointer (some ⟨bt, 0, none⟩)] := (hx.more fun y hy hl => ⟨hy, hl⟩).below h.bel
 refine h1.more fun y hy _ => ⟨hy.1, ?_, fun e => ?_⟩
 ·have := h.low; omega
 ·have := (h.own.lt _ e).1; omega
theorem KG.new {B0 : Nat} {acc : List T1} {f : Fo} {vs : List Value} (h : KG B0 B wr b d sv acc xs) (hr : RepS (fun y => wr.heap.size ≤ y) w1 f vs) (hB : B0 ≤ B) : RepS (fun y => B0 ≤ y ∧ y ≠ b ∧ sv.ownBlock ≠ some y) w1 f vs := by
 have h1 := h.kn.blk.lt
 have h2 := h.kn.low
 exact hr.more fun y hy _ => ⟨by omega, by omega, fun e => by have := (h.kn.own.lt _ e).2; omega⟩
theorem node_kn {w : World} (kI : Int) (k : Nat) (hk : kI = (k : Int)) (p1 p2 : Nat) (name : ByteArray) (pa pb : Option Addr) : Calls Try.prog 83 #[.int .u8 kI, .complex .f64 (fl p1) (fl p2), .string name, .pointer pa, .pointer pb] w fun e w' => ∃ b sv, e = .returned (.pointer (some ⟨b, 0, none⟩)) ∧ NB w w' b ⟨k, (p1, p2), name, 0⟩ sv (ptrs pa ++ ptrs pb) := by
 subst hk
 exact node_any k p1 p2 name pa pb w
theorem LK.good {B0 : Nat} {acc : List T1} {res : Except Nat (T1 × Nat)} {G : List T1 → Nat → Prop} {j : Nat} (hj : j ≤ L.length) (ha : acc.length ≤ j + 1) (h : QG w0 w wr br A c L j false) (hb : KG B0 B wr b d sv acc xs) (hG : G acc j) : LK B0 B w0 w br A c L b d res G wr := .inl ⟨acc, sv, xs, j, hj, ha, h, hb, hG⟩
theorem LK.hung {B0 : Nat} {res : Except Nat (T1 × Nat)} {G : List T1 → Nat → Prop} {k : Nat} (h : QG w0 w wr br A c L k true) (hb : KN B wr b d sv xs) (hv : xs.length ≤ 20003) (hr : res = .error k) (hk : k ≤ 80000) : LK B0 B w0 w br A c L b d res G wr := .inr ⟨sv, xs, k, hk, hv, h, hb, hr⟩
end
set_option maxRecDepth 100000 in set_option maxHeartbeats 6400000 in
theorem rset_any {w0 : World} {br c : Nat} {A : Option Addr} {L : List PT} (ht : Toks w0 br A L) (ok : OKRow L) {el : Nat → Except Nat (T1 × Nat)} {lo : Nat} (hE : RnOK 92 el lo w0 br A c L) (hm : SpOK L el) (hme : ∀ j k, j ≤ 60000 → el j = .error k → k ≤ 80000) {B0 bt p1 p2 : Nat} {typ : T1} (i : Nat) (hlo : lo ≤ i + 1) (hi : i ≤ 60000) (w : World) (h : QInv w0 w br A c L i false) (hB : B0 ≤ w.heap.size) (hbB0 : br < B0) (hty : RepS (fun y => B0 ≤ y) w (.node typ.1 typ.2 .no) [.pointer (some ⟨bt, 0, none⟩)]) (hP : isT L i sCur = true) :
 Calls Try.prog 100 #[.pointer (some ⟨br, 0, none⟩), .complex .f64 (fl p1) (fl p2), .pointer (some ⟨bt, 0, none⟩)] w (RefR B0 w0 w br A c L (match betweenP L el sRuc (i + 1) with | .error k => .error k | .ok (l, j) => .ok (mk 8 (p1, p2) sNil 0 (typ :: l), j))) := by
 have hbr0 := h.row.lt
 have hlen := ht.len
 have hil := isT_lt hP
 have hbrB : br < w.heap.size := by omega
 have hBw : w.heap.size ≤ w.heap.size := Nat.le_refl _
 have H0 := qh h
 have H := qh (QG.start h)
 have HE := qh hE
 have HM := qh hm
 have HT := qh ht
 have HOK := qh ok
 have HME := qh hme
 have HMS := qh (many_same hm)
 have HTY := qh hty
 have HS0 := qh (show (match betweenP L el sRuc (i + 1) with | .error k => .error k | .ok (l, j) => .ok (mk 8 (p1, p2) sNil 0 (typ :: l), j) : Except Nat (T1 × Nat)) = if isT L (i + 1) sRuc = true then .ok (mk 8 (p1, p2) sNil 0 [typ], i + 1 + 1) else match el (i + 1) with
  | .error k => .error k
  | .ok (x, j) => (match manyR L el (L.length + 1) [x] j with | .error k => .error k | .ok (l, j) => match need L j sRuc with | .error k => .error k | .ok j2 => .ok (mk 8 (p1, p2) sNil 0 (typ :: l), j2)) by
    unfold betweenP manyP
    by_cases hT : isT L (i + 1) sRuc = true
    ·simp only [if_pos hT]
    ·simp only [if_neg hT]
     cases el (i + 1) with
     | error k => rfl
     | ok r =>
       dsimp only
       cases manyR L el (L.length + 1) [r.1] r.2 with
       | error k => rfl
       | ok q => dsimp only; cases need L q.2 sRuc <;> rfl)
 generalize (match betweenP L el sRuc (i + 1) with | .error k => .error k | .ok (l, j) => .ok (mk 8 (p1, p2) sNil 0 (typ :: l), j) : Except Nat (T1 × Nat)) = res at *
 have NW := qh (node_kn (w := w) 8 8 rfl p1 p2 sNil (some ⟨bt, 0, none⟩) none)
 obtain ⟨i0, hi0, hz0, hz1, hz2⟩ := info_parts infoN
 have HP := qh hP
 clear hE h ht hm ok hme hP hty
 go_enter Try.func100, Try.ntmps100
 go_wp2_with fail
 ((with_reducible refine NW.out.mono ?_); rintro e wx ⟨b, sv0, rfl, hn⟩)
 have HK := qh (KG.start1 (B0 := B0) hn HTY.out)
 have H := qh (H.out.below hn.bel)
 have hBb := hn.low
 clear hn NW
 have ND := qh (rneedT_yes HT.out (by omega) sCur _ HOK.out (by decide) H.out.1 HP.out)
 go_wp2_with fail
 ((with_reducible refine (ND.out).mono ?_); rintro e v1 ⟨rfl, hb⟩)
 have H := qh (H.out.trans hb)
 have HK := qh (HK.out.grown hb.2 hbB0 hB)
 clear hb
 cases hK : isT L (i + 1) sRuc with
 | true =>
   have EY := qh (reatT_yes HT.out (by omega) sRuc _ HOK.out (by decide) H.out.1 hK)
   have HS := qh (HS0.out.trans (if_pos hK))
   clear HS0
   go_wp2_with fail
   ((with_reducible refine (EY.out).mono ?_); rintro e v1 ⟨rfl, hb⟩)
   have H := qh (H.out.trans hb)
   have HK := qh (HK.out.grown hb.2 hbB0 hB)
   clear hb
   go_wp2
   go_ret
   rw [HS.out]
   exact ⟨b, rfl, H.out.1, H.out.2, HK.out.done hB⟩
 | false =>
   have EN := qh (reatT_no HT.out (by omega) sRuc _ HOK.out (by decide) H.out.1 hK)
   have HS1 := qh (HS0.out.trans (if_neg (by rw [hK]; simp)))
   clear HS0
   go_wp2_with fail
   ((with_reducible refine (EN.out).mono ?_); rintro e v1 ⟨rfl, hb⟩)
   have H := qh (H.out.trans hb)
   have HK := qh (HK.out.grown hb.2 hbB0 hB)
   clear hb
   have hxl : [Value.pointer (some ⟨bt, 0, none⟩)].length ≤ 1000000 := by simp
   have d3 := HE.out (i + 1) (by omega) (by omega) v1.drew (H.out.below ((Below.refl _ _).drew)).1
   cases hy : el (i + 1) with
   | error k =>
     rw [hy] at d3
     have HS := qh (show res = .error k by rw [HS1.out, hy])
     have D1 := qh d3
     have hk8 := HME.out _ _ (by omega) hy
     clear d3 hy HS1
     have HD := qh (H.out.below ((Below.refl _ _).drew))
     have HKD := qh (HK.out.below ((Below.refl _ _).drew))
     obtain ⟨m4, m4f, hbl4⟩ := HK.out.kn.facts
     go_wp2
     go_region_law (first
      | (go_simp; go_at_call 92; (with_reducible refine D1.out.mono ?_); rintro e x ⟨p9, rfl, hp, hg⟩; have HKX := qh (HKD.out.kn.grown hg hbrB); have HX := qh (HD.out.trans ⟨hp, hg⟩); clear hp hg; obtain ⟨t4, t4f, hbx⟩ := HKX.out.facts; have Q := kid_facts (p := p9) x.heap.size rfl (Nat.le_trans HKX.out.low (Nat.le_of_lt hbx)) HKX.out.own hxl)
      | (refine step_append_lies _ (by rfl) _ _ _ (by rfl) w.heap.size 26 i0 _ 1 8 Try.underlying40 hi0 hz0 hz1 hz2 rfl (by omega) sv0 [Value.pointer (some ⟨bt, 0, none⟩)].length [Value.pointer (some ⟨bt, 0, none⟩)] (by rfl) Q.out.2.2.2.2 ⟨x.heap.size, 0, none⟩ 1 1 [.pointer p9] (by rfl) (by rfl) Q.out.1 Q.out.2.1 (by omega) Q.out.2.2.1 (by omega) Q.out.2.2.2.1 (x.heap.size + 1) (by simp) ?_; intro g' cap w5 hown1 hgrow hor hlt5; obtain ⟨s4, s4f, hb5⟩ := KN.after (HKX.out.below ((Below.refl _ _).alloc (Nat.le_refl _) _)) hgrow; have K2 := qh (KN.step (HKX.out.below ((Below.refl _ _).alloc (Nat.le_refl _) _)) hown1 hgrow); have H2 := qh (QG.hung HX.out H0.out _ hgrow (fun k e => Nat.le_trans hBw (HKX.out.own.lt _ e).1) (u := .slice (some ⟨g', 0, none⟩) ([Value.pointer (some ⟨bt, 0, none⟩)].length + 1) cap) (Nat.le_trans hBw HKX.out.low)); clear hown1 hgrow hor hlt5))
     all_goals
      go_wp2_with fail
      go_loopw [] (fun wr => Hid (QG w0 w wr br A c L k true ∧ ∃ sv xs, KN w.heap.size wr b ⟨8, (p1, p2), sNil, 0⟩ sv xs)) (fun _ => 0)
      case atStart => exact qh ⟨H2.out, _, _, K2.out⟩
      case round =>
       clear H H2 HK K2
       obtain ⟨hG, sv, xs, hK⟩ := hrel.out
       have H := qh hG
       have HK := qh hK
       clear hrel hG hK
       have EB := qh (reat_bad HT.out (by omega) sCom _ H.out.1)
       go_wp2_with fail
       ((with_reducible refine (EB.out).mono ?_); rintro e v1 ⟨rfl, hb⟩)
       have H := qh (H.out.trans hb)
       have HK := qh (HK.out.grown hb.2 hbrB)
       clear hb
       have NB := qh (rneed_bad HT.out (by omega) sRuc _ H.out.1)
       go_wp2_with fail
       ((with_reducible refine (NB.out).mono ?_); rintro e v1 ⟨rfl, hb⟩)
       have H := qh (H.out.trans hb)
       have HK := qh (HK.out.grown hb.2 hbrB)
       clear hb
       go_wp2
       go_ret
       rw [HS.out]
       exact ⟨_, rfl, H.out.1, H.out.2⟩
   | ok r =>
     obtain ⟨x1, j⟩ := r
     rw [hy] at d3
     have hj4 := HM.out _ _ _ hy
     have HS := qh (show res = (match manyR L el (L.length + 1) [x1] j with | .error k => .error k | .ok (l, j) => match need L j sRuc with | .error k => .error k | .ok j2 => .ok (mk 8 (p1, p2) sNil 0 (typ :: l), j2)) by rw [HS1.out, hy])
     have D1 := qh d3
     clear d3 hy HS1
     have HD := qh (H.out.below ((Below.refl _ _).drew))
     have HKD := qh (HK.out.below ((Below.refl _ _).drew))
     obtain ⟨m4, m4f, hbl4⟩ := HK.out.kn.facts
     go_wp2
     go_region_law (first
      | (go_simp; go_at_call 92; (with_reducible refine D1.out.mono ?_); rintro e x ⟨by_, rfl, hp, hg, hr⟩; have HKX := qh (HKD.out.grown hg hbB0 hB); have HY := qh (HKD.out.new hr hB); have HX := qh (HD.out.trans ⟨hp, hg⟩); clear hp hg hr; obtain ⟨t4, t4f, hbx⟩ := HKX.out.kn.facts; have Q := kid_facts (p := some ⟨by_, 0, none⟩) x.heap.size rfl (Nat.le_trans HKX.out.kn.low (Nat.le_of_lt hbx)) HKX.out.kn.own hxl)
      | (refine step_append_lies _ (by rfl) _ _ _ (by rfl) w.heap.size 26 i0 _ 1 8 Try.underlying40 hi0 hz0 hz1 hz2 rfl (by omega) sv0 [Value.pointer (some ⟨bt, 0, none⟩)].length [Value.pointer (some ⟨bt, 0, none⟩)] (by rfl) Q.out.2.2.2.2 ⟨x.heap.size, 0, none⟩ 1 1 [.pointer (some ⟨by_, 0, none⟩)] (by rfl) (by rfl) Q.out.1 Q.out.2.1 (by omega) Q.out.2.2.1 (by omega) Q.out.2.2.2.1 (x.heap.size + 1) (by simp) ?_; intro g' cap w5 hown1 hgrow hor hlt5; obtain ⟨s4, s4f, hb5⟩ := KN.after (HKX.out.kn.below ((Below.refl _ _).alloc (Nat.le_refl _) _)) hgrow; have K2 := qh (KG.step (HKX.out.below ((Below.refl _ _).alloc (Nat.le_refl _) _)) (HY.out.below ((Below.refl _ _).alloc (Nat.le_refl _) _)) hown1 hgrow (hor.imp id fun e => e.trans (World.size_alloc _ _).symm)); have H2 := qh (QG.hung HX.out H0.out _ hgrow (fun k e => Nat.le_trans hBw (HKX.out.kn.own.lt _ e).1) (u := .slice (some ⟨g', 0, none⟩) ([Value.pointer (some ⟨bt, 0, none⟩)].length + 1) cap) (Nat.le_trans hBw HKX.out.kn.low)); clear hown1 hgrow hor hlt5))
     all_goals
      go_wp2_with fail
      go_loopw [] (fun wr => Hid (LK B0 w.heap.size w0 w br A c L b ⟨8, (p1, p2), sNil, 0⟩ res (fun acc j => ∃ l, acc = typ :: l ∧ i < j ∧ res = (match manyR L el (L.length + 1) l j with | .error k => .error k | .ok (l, j) => match need L j sRuc with | .error k => .error k | .ok j2 => .ok (mk 8 (p1, p2) sNil 0 (typ :: l), j2))) wr)) (fun wr => loopM L.length wr br)
      case atStart => exact qh (LK.good (by omega) (by simp only [List.nil_append, List.length_append, List.length_singleton, List.length_cons, List.length_nil]; omega) H2.out K2.out ⟨_, rfl, by omega, HS.out⟩)
      case round =>
       clear H H2 HK K2 HS
       rcases hrel.out with ⟨acc, sv, xs, j, hj, hac, hG, hK, l, hl, hij, hS⟩ | ⟨sv, xs, k, hk8, hvs, hG, hK, hS⟩
       case' inr =>
        have H := qh hG
        have HS := qh hS
        have HK := qh hK
        clear hrel hG hS hK
        have EB := qh (reat_bad HT.out (by omega) sCom _ H.out.1)
        go_wp2_with fail
        ((with_reducible refine (EB.out).mono ?_); rintro e v1 ⟨rfl, hb⟩)
        have H := qh (H.out.trans hb)
        have HK := qh (HK.out.grown hb.2 hbrB)
        clear hb
        have NB := qh (rneed_bad HT.out (by omega) sRuc _ H.out.1)
        go_wp2_with fail
        ((with_reducible refine (NB.out).mono ?_); rintro e v1 ⟨rfl, hb⟩)
        have H := qh (H.out.trans hb)
        have HK := qh (HK.out.grown hb.2 hbrB)
        clear hb
        go_wp2
        go_ret
        rw [HS.out]
        exact ⟨_, rfl, H.out.1, H.out.2⟩
       subst hl
       obtain ⟨wo, rfl⟩ : ∃ wo : World, wo = wr := ⟨_, rfl⟩
       have H := qh hG
       have HO := qh hG
       have HK := qh hK
       have HS1 := qh (show res = _ from hS.trans (by rw [manyR_succ]))
       clear hrel hG hS hK
       cases hC : isT L j sCom with
       | false =>
         have EN := qh (reatT_no HT.out (by omega) sCom _ HOK.out (by decide) H.out.1 hC)
         have HS2 := qh (show res = (match need L j sRuc with | .error k => .error k | .ok j2 => .ok (mk 8 (p1, p2) sNil 0 (typ :: l), j2)) by rw [HS1.out, if_neg (by rw [hC]; simp)])
         clear HS1
         go_wp2_with fail
         ((with_reducible refine (EN.out).mono ?_); rintro e v1 ⟨rfl, hb⟩)
         have H := qh (H.out.trans hb)
         have HK := qh (HK.out.grown hb.2 hbB0 hB)
         clear hb
         cases hK : isT L j sRuc with
         | false =>
           have ND := qh (rneedT_no HT.out (by omega) sRuc _ HOK.out (by decide) H.out.1 hK)
           have HS := qh (show res = .error j by rw [HS2.out]; unfold need; rw [if_neg (by rw [hK]; simp)])
           clear HS2
           go_wp2_with fail
           ((with_reducible refine (ND.out).mono ?_); rintro e v1 ⟨rfl, hb⟩)
           have H := qh (H.out.trans hb)
           have HK := qh (HK.out.grown hb.2 hbB0 hB)
           clear hb
           go_wp2
           go_ret
           rw [HS.out]
           exact ⟨_, rfl, H.out.1, H.out.2⟩
         | true =>
           have ND := qh (rneedT_yes HT.out (by omega) sRuc _ HOK.out (by decide) H.out.1 hK)
           have HS := qh (show res = .ok (mk 8 (p1, p2) sNil 0 (typ :: l), j + 1) by rw [HS2.out]; unfold need; rw [if_pos hK])
           clear HS2
           go_wp2_with fail
           ((with_reducible refine (ND.out).mono ?_); rintro e v1 ⟨rfl, hb⟩)
           have H := qh (H.out.trans hb)
           have HK := qh (HK.out.grown hb.2 hbB0 hB)
           clear hb
           go_wp2
           go_ret
           rw [HS.out]
           exact ⟨b, rfl, H.out.1, H.out.2, HK.out.done hB⟩
       | true =>
         have hjlt := isT_lt hC
         have EY := qh (reatT_yes HT.out (by omega) sCom _ HOK.out (by decide) H.out.1 hC)
         have HS2 := qh (HS1.out.trans (by rw [if_pos hC]))
         clear HS1
         go_wp2_with fail
         ((with_reducible refine (EY.out).mono ?_); rintro e v1 ⟨rfl, hb⟩)
         have H := qh (H.out.trans hb)
         have HK := qh (HK.out.grown hb.2 hbB0 hB)
         clear hb
         have hxl : xs.length ≤ 1000000 := by have := HK.out.len; omega
         have d3 := HE.out (j + 1) (by omega) (by omega) v1.drew (H.out.below ((Below.refl _ _).drew)).1
         cases hy : el (j + 1) with
         | error k =>
           rw [hy] at d3
           have HS := qh (show res = .error k by rw [HS2.out, hy])
           have D1 := qh d3
           have hk8 := HME.out _ _ (by omega) hy
           clear d3 hy HS2
           have HD := qh (H.out.below ((Below.refl _ _).drew))
           have HKD := qh (HK.out.below ((Below.refl _ _).drew))
           obtain ⟨m4, m4f, hbl4⟩ := HK.out.kn.facts
           go_wp2
           go_region_law (first
            | (go_simp; go_at_call 92; (with_reducible refine D1.out.mono ?_); rintro e x ⟨p9, rfl, hp, hg⟩; have HKX := qh (HKD.out.kn.grown hg hbrB); have HX := qh (HD.out.trans ⟨hp, hg⟩); clear hp hg; obtain ⟨t4, t4f, hbx⟩ := HKX.out.facts; have Q := kid_facts (p := p9) x.heap.size rfl (Nat.le_trans HKX.out.low (Nat.le_of_lt hbx)) HKX.out.own hxl)
            | (refine step_append_lies _ (by rfl) _ _ _ (by rfl) w.heap.size 26 i0 _ 1 8 Try.underlying40 hi0 hz0 hz1 hz2 rfl (by omega) sv xs.length xs (by rfl) Q.out.2.2.2.2 ⟨x.heap.size, 0, none⟩ 1 1 [.pointer p9] (by rfl) (by rfl) Q.out.1 Q.out.2.1 (by omega) Q.out.2.2.1 (by omega) Q.out.2.2.2.1 (x.heap.size + 1) (by simp) ?_; intro g' cap w5 hown1 hgrow hor hlt5; obtain ⟨s4, s4f, hb5⟩ := KN.after (HKX.out.below ((Below.refl _ _).alloc (Nat.le_refl _) _)) hgrow; have K2 := qh (KN.step (HKX.out.below ((Below.refl _ _).alloc (Nat.le_refl _) _)) hown1 hgrow); have H2 := qh (QG.hung HX.out H0.out _ hgrow (fun k e => Nat.le_trans hBw (HKX.out.own.lt _ e).1) (u := .slice (some ⟨g', 0, none⟩) (xs.length + 1) cap) (Nat.le_trans hBw HKX.out.low)); clear hown1 hgrow hor hlt5))
           all_goals
            have HM0 := qh (loopM_bad (w := w) H2.out HO.out hj)
            go_wp2
            go_roundw
            case rel => exact qh (LK.hung H2.out K2.out (by rw [List.length_append]; simp only [List.length_singleton]; have := HK.out.len; omega) HS.out (by omega))
            case measure => exact HM0.out
         | ok r =>
           obtain ⟨y, j4⟩ := r
           rw [hy] at d3
           have hj4 := HM.out _ _ _ hy
           have HS7 := qh (show res = (match manyR L el (L.length + 1) (l ++ [y]) j4 with | .error k => .error k | .ok (l, j) => match need L j sRuc with | .error k => .error k | .ok j2 => .ok (mk 8 (p1, p2) sNil 0 (typ :: l), j2)) by rw [HS2.out, hy]; dsimp only; rw [HMS.out L.length (L.length + 1) _ _ (by omega) (by omega)])
           have D1 := qh d3
           clear d3 hy HS2
           have HD := qh (H.out.below ((Below.refl _ _).drew))
           have HKD := qh (HK.out.below ((Below.refl _ _).drew))
           obtain ⟨m4, m4f, hbl4⟩ := HK.out.kn.facts
           go_wp2
           go_region_law (first
            | (go_simp; go_at_call 92; (with_reducible refine D1.out.mono ?_); rintro e x ⟨by_, rfl, hp, hg, hr⟩; have HKX := qh (HKD.out.grown hg hbB0 hB); have HY := qh (HKD.out.new hr hB); have HX := qh (HD.out.trans ⟨hp, hg⟩); clear hp hg hr; obtain ⟨t4, t4f, hbx⟩ := HKX.out.kn.facts; have Q := kid_facts (p := some ⟨by_, 0, none⟩) x.heap.size rfl (Nat.le_trans HKX.out.kn.low (Nat.le_of_lt hbx)) HKX.out.kn.own hxl)
            | (refine step_append_lies _ (by rfl) _ _ _ (by rfl) w.heap.size 26 i0 _ 1 8 Try.underlying40 hi0 hz0 hz1 hz2 rfl (by omega) sv xs.length xs (by rfl) Q.out.2.2.2.2 ⟨x.heap.size, 0, none⟩ 1 1 [.pointer (some ⟨by_, 0, none⟩)] (by rfl) (by rfl) Q.out.1 Q.out.2.1 (by omega) Q.out.2.2.1 (by omega) Q.out.2.2.2.1 (x.heap.size + 1) (by simp) ?_; intro g' cap w5 hown1 hgrow hor hlt5; obtain ⟨s4, s4f, hb5⟩ := KN.after (HKX.out.kn.below ((Below.refl _ _).alloc (Nat.le_refl _) _)) hgrow; have K2 := qh (KG.step (HKX.out.below ((Below.refl _ _).alloc (Nat.le_refl _) _)) (HY.out.below ((Below.refl _ _).alloc (Nat.le_refl _) _)) hown1 hgrow (hor.imp id fun e => e.trans (World.size_alloc _ _).symm)); have H2 := qh (QG.hung HX.out H0.out _ hgrow (fun k e => Nat.le_trans hBw (HKX.out.kn.own.lt _ e).1) (u := .slice (some ⟨g', 0, none⟩) (xs.length + 1) cap) (Nat.le_trans hBw HKX.out.kn.low)); clear hown1 hgrow hor hlt5))
           all_goals
            have HM0 := qh (loopM_good (w := w) H2.out HO.out hj (by omega))
            go_wp2
            go_roundw
            case rel => exact qh (LK.good (by omega) (by rw [List.length_append]; simp only [List.length_singleton]; omega) H2.out K2.out ⟨l ++ [y], rfl, by omega, HS7.out⟩)
            case measure => exact HM0.out
end Go.Proofs.Ytecmjhohniipoaa.Ex
end
