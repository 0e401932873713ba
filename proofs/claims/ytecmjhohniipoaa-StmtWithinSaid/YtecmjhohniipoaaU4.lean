/- The walks of returns, plain. -/
import Derived.Test.YtecmjhohniipoaaU3
import Derived.Deep.AppendLies
import Derived.Deep.LoopGhost
set_option linter.unusedSimpArgs false
set_option linter.unusedVariables false
namespace Go.Proofs.Ytecmjhohniipoaa.St
open Go.RowKit
open Tr (Nd Fo RepS RepN Rep cellsN)
open Lx (Tk noTk Blk run_store_complexL TokAt)
open Fl
open Ex
attribute [local go_sem] run_store_complexL run_field1 run_field3

theorem run_field0 (v0 v1 v2 v3 v4 : Value) (w : World) : (Instr.field 68 (.agg #[v0, v1, v2, v3, v4]) 0).run Try.prog w = .ok v0 w := by kernel_rfl
attribute [local go_sem] run_field0
theorem retOut_yes {t : PT} {s : ByteArray} (hs : s ∈ [sSem, sBar, sEnd, sElse, sElsif, sUntil]) (h : tT s t = true) : retOut t = true := by
  simp only [List.mem_cons, List.not_mem_nil, or_false] at hs
  unfold retOut
  rcases hs with rfl | rfl | rfl | rfl | rfl | rfl <;> rw [h] <;> simp
theorem retOut_no {t : PT} (h0 : decide (t.1.kind = 0) = false) (h : ∀ s ∈ [sSem, sBar, sEnd, sElse, sElsif, sUntil], tT s t = false) : retOut t = false := by
  unfold retOut
  rw [h0, h sSem (by simp), h sBar (by simp), h sEnd (by simp), h sElse (by simp), h sElsif (by simp), h sUntil (by simp)]
  rfl
set_option maxRecDepth 100000 in
set_option maxHeartbeats 6400000 in
theorem returns_any {g : Nat} {w0 : World} {br c : Nat} {A : Option Addr} {L : List PT} (ht : TkS w0 br A L) (hg : L.length < g) {bd : Par T1} {lo : Nat} (i : Nat) (hlo : lo ≤ i) (hi : i ≤ L.length) (p1 p2 : Nat) (w : World) (h : PInv w0 w br A c L i) :
    Calls Try.prog 36 #[.pointer (some ⟨br, 0, none⟩), .complex .f64 (fl p1) (fl p2)] w (TreeR w.heap.size w0 w br A c L (returnS g (p1, p2) L i)) := by
  have hbr0 := h.row.lt
  have hlen := ht.toks.len
  have H0 := Lib.hid h
  have H := Lib.hid (PG.start h)
  have HT := Lib.hid ht
  have ME := Lib.hid (fun j => g2_max (g2_expr (g := g)) L j)
  have MD := Lib.hid (fun j => g2_max (g2_design (g := g)) L j)
  have ML := Lib.hid (fun j => g2_max (g2_labels (g := g)) L j)
  have HE := Lib.hid (fun j hj w h => expr_s (c := c) ht hg j hj w h)
  have HD := Lib.hid (fun j hj w h => of_D (c := c) ht hg j hj w h)
  have HL := Lib.hid (fun j hj w h => of_L (c := c) ht hg j hj w h)
  obtain ⟨res, hs0⟩ : ∃ r, r = returnS g (p1, p2) L i := ⟨_, rfl⟩
  rw [← hs0]
  have HS := Lib.hid hs0
  clear h ht hs0
  go_enter Try.func36, Try.ntmps36
  have NW := Lib.hid (new_0 (B0 := w.heap.size) (w := w) (Nat.le_refl _) 70 70 rfl p1 p2 sNil 0)
  have HS1 := Lib.hid (show res = (if retOut (tk L i) = true then retP (mk 70 (p1, p2) sNil 0 []) else bindP (exprF g) fun x => retP (mk 70 (p1, p2) sNil 0 [x])) L i from HS.out)
  obtain ⟨i0, hi0, hz0, hz1, hz2⟩ := info_parts infoN
  clear HS
  go_wp2_with fail
  ((with_reducible refine NW.out.mono ?_); rintro e wx ⟨b, sv0, xs0, rfl, hb, hk⟩)
  have H := Lib.hid (H.out.below hb)
  have HK := Lib.hid hk
  clear hb hk NW
  have n1 := now_any HT.out.toks (i := i) (by omega) _ H.out.1
  obtain ⟨k, q1, q2, q3, q4, t, n, e1, e2⟩ := val_form (tk L i)
  have HKI := Lib.hid (show (tk L i).1.kind = k by rw [e1])
  rw [e2] at n1
  have N1 := Lib.hid n1
  clear n1 e1 e2
  by_cases hk0 : k = 0
  · subst hk0
    have HS := Lib.hid (show res = .ok (mk 70 (p1, p2) sNil 0 [], i) from HS1.out.trans (by rw [if_pos (show retOut (tk L i) = true by unfold retOut; rw [HKI.out]; rfl)]; rfl))
    clear HS1
    go_wp2_with fail
    ((with_reducible refine (N1.out).mono ?_); rintro e wx ⟨rfl, hb⟩)
    have H := Lib.hid (H.out.below hb)
    have HK := Lib.hid (HK.out.below hb)
    clear hb
    clear N1
    go_wp2
    go_ret
    rw [HS.out]
    exact ⟨b, rfl, H.out.1, H.out.2, HK.out.done (Nat.le_refl _)⟩
  · have k0 : ((k : Int) == 0) = false := by simp only [beq_eq_false_iff_ne, ne_eq]; omega
    have HNK := Lib.hid (show decide ((tk L i).1.kind = 0) = false by rw [HKI.out]; simpa using hk0)
    go_wp2_with fail
    ((with_reducible refine (N1.out).mono ?_); rintro e wx ⟨rfl, hb⟩)
    have H := Lib.hid (H.out.below hb)
    have HK := Lib.hid (HK.out.below hb)
    clear hb
    clear N1
    have hbw : b < wx.heap.size := HK.out.kn.blk.lt
    have O0 := Lib.hid (Lx.Blk.new wx 9 ([sSem, sBar, sEnd, sElse, sElsif, sUntil].map Value.string).toArray)
    have HKA := Lib.hid (HK.out.below ((Below.refl _ _).alloc (Nat.le_refl _) (.cells ([sSem, sBar, sEnd, sElse, sElsif, sUntil].map Value.string).toArray 9)))
    have HA := Lib.hid (H.out.alloc (.cells ([sSem, sBar, sEnd, sElse, sElsif, sUntil].map Value.string).toArray 9))
    clear H HK
    go_wp2
    go_loopw [17] (fun iv wr => ∃ m : Nat, m ≤ 6 ∧ iv = .int .i64 m ∧ Hid (Lx.Blk wr wx.heap.size 9 ([sSem, sBar, sEnd, sElse, sElsif, sUntil].map Value.string).toArray) ∧ Hid (PG w0 w wr br A c L i) ∧ Hid (KG w.heap.size w.heap.size wr b ⟨70, (p1, p2), sNil, 0⟩ sv0 [] xs0) ∧ Hid (∀ s ∈ [sSem, sBar, sEnd, sElse, sElsif, sUntil].take m, isT L i s = false)) (fun iv _ => 6 - (intOf iv).toNat)
    case atStart => exact ⟨0, by omega, rfl, O0, HA, HKA, Lib.hid (fun s hs => by simp at hs)⟩
    case round =>
      clear O0 HA HKA
      obtain ⟨m, hm, rfl, O0, H, HK, HA⟩ := hrel
      have hxl : xs0.length ≤ 1000000 := by have := HK.out.len; simp at this; simp [this]
      obtain ⟨ol, hol⟩ : ∃ ol : List ByteArray, ol = [sSem, sBar, sEnd, sElse, sElsif, sUntil] := ⟨_, rfl⟩
      have O0 := Lib.hid (show Lx.Blk wr wx.heap.size 9 (ol.map Value.string).toArray from hol ▸ O0.out)
      have HA := Lib.hid (show ∀ s ∈ ol.take m, isT L i s = false from hol ▸ HA.out)
      have hl6 : ol.length = 6 := by rw [hol]; rfl
      have HOL := Lib.hid hol
      clear hol
      by_cases hlt : m < 6
      · have y0 : (0 : Int) ≤ (m : Int) := by omega
        have y1 : (m : Int) < 6 := by omega
        have hlt' : m < ol.length := by omega
        have co : wr.cell? ⟨wx.heap.size, m, none⟩ = some (.string ol[m]) := by rw [O0.out.cell m]; simp [hlt']
        have hbl : wx.heap.size < wr.heap.size := O0.out.lt
        have is1 := is_any HT.out.toks (i := i) (by omega) ol[m] wr H.out.1
        cases hT : isT L i ol[m] with
        | true =>
          rw [hT] at is1
          have IS := Lib.hid is1
          have HS := Lib.hid (show res = .ok (mk 70 (p1, p2) sNil 0 [], i) from HS1.out.trans (by rw [if_pos (retOut_yes (HOL.out ▸ List.getElem_mem hlt') hT)]; rfl))
          clear is1 HS1
          go_wp2_with fail
          ((with_reducible refine (IS.out).mono ?_); rintro e wy ⟨rfl, hb⟩)
          have H := Lib.hid (H.out.below hb)
          have HK := Lib.hid (HK.out.below hb)
          clear hb
          clear IS
          go_wp2
          go_ret
          rw [HS.out]
          exact ⟨b, rfl, H.out.1, H.out.2, HK.out.done (Nat.le_refl _)⟩
        | false =>
          rw [hT] at is1
          have IS := Lib.hid is1
          have HT2 := Lib.hid hT
          clear is1 hT
          go_wp2_with fail
          ((with_reducible refine IS.out.mono ?_); rintro e wy ⟨rfl, hb⟩)
          have H := Lib.hid (H.out.below hb)
          have HK := Lib.hid (HK.out.below hb)
          have O0 := Lib.hid (O0.out.below hb hbl)
          clear hb IS
          go_wp2
          go_roundw
          case rel =>
            refine ⟨m + 1, by omega, by go_num, Lib.hid (HOL.out ▸ O0.out), H, HK, Lib.hid ?_⟩
            rw [← HOL.out]
            intro s hs
            rw [List.take_succ_eq_append_getElem hlt'] at hs
            rcases List.mem_append.1 hs with hs | hs
            · exact HA.out s hs
            · simp only [List.mem_singleton] at hs; subst hs; exact HT2.out
          case measure => simp [intOf]; omega
      · have hm6 : m = 6 := by omega
        subst hm6
        have HAA : ∀ s ∈ [sSem, sBar, sEnd, sElse, sElsif, sUntil], isT L i s = false := by
          have := HA.out
          rw [← hl6, List.take_length, HOL.out] at this
          exact this
        have HS := Lib.hid (show res = bindP (exprF g) (fun x => retP (mk 70 (p1, p2) sNil 0 [x])) L i from HS1.out.trans (by rw [if_neg (by rw [retOut_no HNK.out HAA]; simp)]))
        clear HS1 HAA HA O0 HOL hl6
        have d1 := HE.out i (by omega) wr.drew (H.out.below ((Below.refl _ _).drew)).1
        cases hx : exprF g L i with
        | error k9 =>
          rw [hx] at d1
          have D1 := Lib.hid d1
          have HS := Lib.hid (HS.out.trans (bind_err hx))
          clear d1 hx
          have HD_ := Lib.hid (H.out.below ((Below.refl _ _).drew))
          obtain ⟨m4, m4f, hbl4⟩ := HK.out.kn.facts
          have D1 := Lib.hid (D1.out.mono (R' := fun e w' => (∃ p, e = .returned (.pointer p) ∧ Hid False) ∨ (e = bad k9 ∧ wr.drew.grownBy w' (some br))) fun e w' h => .inr h)
          go_wp2
          go_region_law (first
            | (go_simp; go_at_call 52; (with_reducible refine D1.out.mono ?_); rintro e x (⟨p_, rfl, hF⟩ | ⟨rfl, hb⟩); (case' inr => (refine ⟨rfl, ?_⟩; rw [HS.out]; exact ⟨rfl, grown_trans HD_.out.2 hb⟩)); have t4 : x.cell? ⟨b, 4, none⟩ = some sv0 := hF.out.elim; have t4f : x.frozen? ⟨b, 4, none⟩ = false := hF.out.elim; have hbx : b < x.heap.size := hF.out.elim)
            | (refine step_append_lies _ (by rfl) _ _ _ (by rfl) w.heap.size 26 i0 _ 1 8 Try.underlying40 hi0 hz0 hz1 hz2 rfl (by omega) sv0 xs0.length xs0 hF.out.elim hF.out.elim ⟨0, 0, none⟩ 1 1 [] hF.out.elim hF.out.elim hF.out.elim hF.out.elim (by omega) hF.out.elim hF.out.elim hF.out.elim 0 hF.out.elim ?_; intro g' cap w5 hown1 hgrow hor hlt5; have s4 : w5.cell? ⟨b, 4, none⟩ = some sv0 := hF.out.elim; have s4f : w5.frozen? ⟨b, 4, none⟩ = false := hF.out.elim; have hb5 : b < w5.heap.size := hF.out.elim; clear hown1 hgrow hor hlt5))
          all_goals exact hF.out.elim
        | ok r =>
          obtain ⟨x1, j1⟩ := r
          rw [hx] at d1
          have D1 := Lib.hid d1
          have HS := Lib.hid ((HS.out.trans (bind_ok hx)).trans ret_)
          clear d1 hx
          have HD_ := Lib.hid (H.out.below ((Below.refl _ _).drew))
          have HKD := Lib.hid (HK.out.below ((Below.refl _ _).drew))
          obtain ⟨m4, m4f, hbl4⟩ := HK.out.kn.facts
          go_wp2
          go_region_law (first
            | (go_simp; go_at_call 52; (with_reducible refine D1.out.mono ?_); rintro e x ⟨by_, rfl, hp, hgr, hr⟩; have HKX := Lib.hid (HKD.out.grown hgr hbr0 (Nat.le_refl _)); have HY := Lib.hid (HKD.out.new hr (Nat.le_refl _)); have HX_ := Lib.hid (HD_.out.trans ⟨hp, hgr⟩); clear hp hgr hr; obtain ⟨t4, t4f, hbx⟩ := HKX.out.kn.facts; have Q := kid_facts (cs := #[.pointer (some ⟨by_, 0, none⟩)]) x.heap.size rfl (Nat.le_trans HKX.out.kn.low (Nat.le_of_lt hbx)) HKX.out.kn.own hxl (one_ptr (some ⟨by_, 0, none⟩)) (by simp))
            | (refine step_append_lies _ (by rfl) _ _ _ (by rfl) w.heap.size 26 i0 _ 1 8 Try.underlying40 hi0 hz0 hz1 hz2 rfl (by omega) sv0 xs0.length xs0 (by rfl) Q.out.2.2.2.2 ⟨x.heap.size, 0, none⟩ 1 1 #[.pointer (some ⟨by_, 0, none⟩)].toList (by rfl) (by rfl) Q.out.1 Q.out.2.1 (by omega) Q.out.2.2.1 (by omega) Q.out.2.2.2.1 (x.heap.size + 1) (by simp) ?_; intro g' cap w5 hown1 hgrow hor hlt5; obtain ⟨s4, s4f, hb5⟩ := KN.after (HKX.out.kn.below ((Below.refl _ _).alloc (Nat.le_refl _) _)) hgrow; have K2 := Lib.hid (KG.steps (l := [x1]) (HKX.out.below ((Below.refl _ _).alloc (Nat.le_refl _) _)) (HY.out.below ((Below.refl _ _).alloc (Nat.le_refl _) _)) rfl rfl hown1 hgrow (hor.imp id fun e => e.trans (World.size_alloc _ _).symm)); have H2 := Lib.hid (PG.hung HX_.out H0.out _ hgrow (fun k e => (HKX.out.kn.own.lt _ e).1) (u := .slice (some ⟨g', 0, none⟩) (xs0.length + 1) cap) HKX.out.kn.low); clear hown1 hgrow hor hlt5))
          all_goals
            go_wp2
            go_ret
            rw [HS.out]
            exact ⟨b, rfl, H2.out.1, H2.out.2, K2.out.done (Nat.le_refl _)⟩
theorem between_no {e : Par T1} {q : List T1 → Par T1} {g : Nat} {L : List PT} {i : Nat} (h : isT L i sRap = false) : bindP (betweenF e g sRap) q L i = bindP e (fun x => bindP (manyRF e g [x]) fun l => needF sRap (q l)) L i := by
  unfold betweenF bindP
  rw [tok_n h]
  unfold manyF bindP
  cases e L i with
  | error k => rfl
  | ok r =>
    obtain ⟨x, j⟩ := r
    dsimp only
    cases manyRF e g [x] L j with
    | error k => rfl
    | ok r =>
      obtain ⟨l, j2⟩ := r
      dsimp only
      by_cases hT : isT L j2 sRap = true
      · rw [need_y hT, need_y hT]; rfl
      · rw [need_n (by simpa using hT), need_n (by simpa using hT)]
theorem between_yes {e : Par T1} {q : List T1 → Par T1} {g : Nat} {L : List PT} {i : Nat} (h : isT L i sRap = true) : bindP (betweenF e g sRap) q L i = q [] L (i + 1) := by
  unfold betweenF bindP
  rw [tok_y h]
  rfl
theorem many_y {e : Par T1} {q : List T1 → Par T1} {f : Nat} {acc : List T1} {L : List PT} {i : Nat} (h : isT L i sCom = true) : bindP (manyRF e (f + 1) acc) q L i = bindP e (fun y => bindP (manyRF e f (acc ++ [y])) q) L (i + 1) := by
  unfold bindP
  rw [manyRF, tok_y h]
  unfold bindP
  cases e L (i + 1) with
  | error k => rfl
  | ok r => rfl
theorem many_n {e : Par T1} {q : List T1 → Par T1} {f : Nat} {acc : List T1} {L : List PT} {i : Nat} (h : isT L i sCom = false) : bindP (manyRF e (f + 1) acc) q L i = q acc L i := by
  unfold bindP
  rw [manyRF, tok_n h]
  rfl
theorem PInv.atw {w0 w : World} {br c i : Nat} {A : Option Addr} {L : List PT} (h : PInv w0 w br A c L i) : atW w br = i := by
  unfold atW
  rw [show w.cell? ⟨br, 1, none⟩ = some (.int .i64 i) from h.row.cell 1]
  rfl
/-- Where a loop stands that hangs kids onto a node. -/
def LK (w0 w : World) (br : Nat) (A : Option Addr) (c : Nat) (L : List PT) (b : Nat) (d : Nd) (P : List T1 → Nat → Prop) (wr : World) : Prop :=
  ∃ (acc : List T1) (sv : Value) (xs : List Value) (j : Nat), j ≤ L.length ∧ acc.length ≤ 2 * j + 4 ∧ PG w0 w wr br A c L j ∧ KG w.heap.size w.heap.size wr b d sv acc xs ∧ P acc j
set_option maxRecDepth 100000 in
set_option maxHeartbeats 6400000 in
theorem plain_any {g : Nat} {w0 : World} {br c : Nat} {A : Option Addr} {L : List PT} (ht : TkS w0 br A L) (hg : L.length < g) (i : Nat) (hi : i ≤ L.length) (w : World) (h : PInv w0 w br A c L i) :
    Calls Try.prog 37 #[.pointer (some ⟨br, 0, none⟩)] w (TreeR w.heap.size w0 w br A c L (plainS g L i)) := by
  have hbr0 := h.row.lt
  have hlen := ht.toks.len
  have H0 := Lib.hid h
  have H := Lib.hid (PG.start h)
  have HT := Lib.hid ht
  have ME := Lib.hid (fun j => g2_max (g2_expr (g := g)) L j)
  have MD := Lib.hid (fun j => g2_max (g2_design (g := g)) L j)
  have HE := Lib.hid (fun j hj w h => expr_s (c := c) ht hg j hj w h)
  have HD := Lib.hid (fun j hj w h => of_D (c := c) ht hg j hj w h)
  obtain ⟨i0, hi0, hz0, hz1, hz2⟩ := info_parts infoN
  obtain ⟨res, hs0⟩ : ∃ r, r = plainS g L i := ⟨_, rfl⟩
  rw [← hs0]
  have HS0 := Lib.hid hs0
  clear h ht hs0
  go_enter Try.func37, Try.ntmps37
  have n1 := now_any HT.out.toks (i := i) (by omega) _ H.out.1
  obtain ⟨k_, p1, p2, q3_, q4_, t_, n_, e1, e2⟩ := val_form (tk L i)
  have HP := Lib.hid (show (tk L i).2.1 = (p1, p2) by rw [e1])
  rw [e2] at n1
  have N1 := Lib.hid n1
  clear n1 e1 e2
  go_wp2_with fail
  ((with_reducible refine (N1.out).mono ?_); rintro e wx ⟨rfl, hb⟩)
  have H := Lib.hid (H.out.below hb)
  clear hb
  clear N1
  have HS := Lib.hid (show res = bindP (designF (exprF g) g) (fun d => posP fun t1 => tokP (tT sAsg) (fun _ => bindP (exprF g) fun y => retP (mk 60 t1.2.1 sNil 0 [d, y])) (tokP (tT sPar) (fun _ => bindP (betweenF (exprF g) g sRap) fun l => retP (mk 61 (p1, p2) sNil 0 (d :: l))) (retP (mk 61 (p1, p2) sNil 0 [d])))) L i from by rw [HS0.out, ← HP.out]; rfl)
  clear HS0
  have d1 : Calls _ _ _ _ (TreeR _ _ _ _ _ _ _ (designF (exprF g) g L (i))) := HD.out (i) (by omega) _ H.out.1
  cases hx : designF (exprF g) g L (i) with
  | error k9 =>
    rw [hx] at d1
    have D1 := Lib.hid d1
    have HS := Lib.hid (HS.out.trans (bind_err hx))
    clear d1 hx
    go_wp2_with fail
    ((with_reducible refine D1.out.mono ?_); rintro e w1 ⟨rfl, hb⟩)
    have H3 := Lib.hid (grown_trans H.out.2 hb)
    clear hb
    go_wp2
    refine ⟨rfl, ?_⟩
    rw [HS.out]
    exact ⟨rfl, H3.out⟩
  | ok r =>
    obtain ⟨dd, j1⟩ := r
    rw [hx] at d1
    have D1 := Lib.hid d1
    have HS := Lib.hid (HS.out.trans (bind_ok hx))
    have hj1 := MD.out (i)
    rw [hx] at hj1
    simp only [posE] at hj1
    clear d1 hx
    go_wp2_with fail
    ((with_reducible refine D1.out.mono ?_); rintro e wx ⟨bx, rfl, hp, hgr, hr⟩)
    have HX := Lib.hid (hr.more (S' := fun y => w.heap.size ≤ y) fun y hy _ => Nat.le_trans H.out.2.size hy)
    have H := Lib.hid (H.out.trans ⟨hp, hgr⟩)
    clear hp hgr hr D1
    have n1 := now_any HT.out.toks (i := j1) (by omega) _ H.out.1
    obtain ⟨k_, r1, r2, q3_, q4_, t_, n_, e1, e2⟩ := val_form (tk L j1)
    have HP2 := Lib.hid (show (tk L j1).2.1 = (r1, r2) by rw [e1])
    rw [e2] at n1
    have N1 := Lib.hid n1
    clear n1 e1 e2
    go_wp2_with fail
    ((with_reducible refine (N1.out).mono ?_); rintro e wx ⟨rfl, hb⟩)
    have H := Lib.hid (H.out.below hb)
    have HX := Lib.hid (HX.out.below hb)
    clear hb
    clear N1
    have HS := Lib.hid (show res = tokP (tT sAsg) (fun _ => bindP (exprF g) fun y => retP (mk 60 (r1, r2) sNil 0 [dd, y])) (tokP (tT sPar) (fun _ => bindP (betweenF (exprF g) g sRap) fun l => retP (mk 61 (p1, p2) sNil 0 (dd :: l))) (retP (mk 61 (p1, p2) sNil 0 [dd]))) L j1 from by rw [HS.out, ← HP2.out]; rfl)
    cases hT : isT L (j1) sAsg with
    | false =>
      have D1 := Lib.hid (eat_no HT.out.toks (i := j1) (by omega) sAsg _ H.out.1 hT)
      have HS := Lib.hid (HS.out.trans (tok_n hT))
      go_wp2_with fail
      ((with_reducible refine (D1.out).mono ?_); rintro e wx ⟨rfl, hb⟩)
      have H := Lib.hid (H.out.trans hb)
      have HX := Lib.hid (repS_grown HX.out hb.2 hbr0)
      clear hb
      clear D1
      have NW := Lib.hid (new_1 (B0 := w.heap.size) (w := wx) H.out.2.size 61 61 rfl p1 p2 sNil 0 HX.out wx.heap.size rfl)
      go_wp2_with fail
      ((with_reducible refine NW.out.mono ?_); rintro e wz ⟨b, sv0, xs0, rfl, hb, hk⟩)
      have hxl : xs0.length ≤ 1000000 := by have := hk.len; simp at this; omega
      have HK := Lib.hid (hk.lower H.out.2.size)
      have H := Lib.hid (H.out.below hb)
      clear hb hk NW
      cases hT : isT L j1 sPar with
      | false =>
        have D1 := Lib.hid (eat_no HT.out.toks (i := j1) (by omega) sPar _ H.out.1 hT)
        have HS := Lib.hid ((HS.out.trans (tok_n hT)).trans ret_)
        clear hT
        go_wp2_with fail
        ((with_reducible refine (D1.out).mono ?_); rintro e wx ⟨rfl, hb⟩)
        have H := Lib.hid (H.out.trans hb)
        have HK := Lib.hid (HK.out.grown hb.2 hbr0 (Nat.le_refl _))
        clear hb
        clear D1
        go_wp2
        go_ret
        rw [HS.out]
        exact ⟨b, rfl, H.out.1, H.out.2, HK.out.done (Nat.le_refl _)⟩
      | true =>
        have hjn := isT_lt hT
        have D1 := Lib.hid (eat_yes HT.out.toks (i := j1) (by omega) sPar _ H.out.1 hT)
        have HS := Lib.hid (HS.out.trans (tok_y hT))
        clear hT
        go_wp2_with fail
        ((with_reducible refine (D1.out).mono ?_); rintro e wx ⟨rfl, hb⟩)
        have H := Lib.hid (H.out.trans hb)
        have HK := Lib.hid (HK.out.grown hb.2 hbr0 (Nat.le_refl _))
        clear hb
        clear D1
        cases hT : isT L (j1 + 1) sRap with
        | true =>
          have hjn2 := isT_lt hT
          have D1 := Lib.hid (eat_yes HT.out.toks (i := j1 + 1) (by omega) sRap _ H.out.1 hT)
          have HS := Lib.hid ((HS.out.trans (between_yes hT)).trans ret_)
          clear hT
          go_wp2_with fail
          ((with_reducible refine (D1.out).mono ?_); rintro e wx ⟨rfl, hb⟩)
          have H := Lib.hid (H.out.trans hb)
          have HK := Lib.hid (HK.out.grown hb.2 hbr0 (Nat.le_refl _))
          clear hb
          clear D1
          go_wp2
          go_ret
          rw [HS.out]
          exact ⟨b, rfl, H.out.1, H.out.2, HK.out.done (Nat.le_refl _)⟩
        | false =>
          have D1 := Lib.hid (eat_no HT.out.toks (i := j1 + 1) (by omega) sRap _ H.out.1 hT)
          have HS := Lib.hid (HS.out.trans (between_no hT))
          clear hT
          go_wp2_with fail
          ((with_reducible refine (D1.out).mono ?_); rintro e wx ⟨rfl, hb⟩)
          have H := Lib.hid (H.out.trans hb)
          have HK := Lib.hid (HK.out.grown hb.2 hbr0 (Nat.le_refl _))
          clear hb
          clear D1
          have d1_ := HE.out (j1 + 1) (by omega) wx.drew (H.out.below ((Below.refl _ _).drew)).1
          cases hx : exprF g L (j1 + 1) with
          | error k9 =>
            rw [hx] at d1_
            have D1 := Lib.hid d1_
            have HS := Lib.hid (HS.out.trans (bind_err hx))
            clear d1_ hx
            have HD_ := Lib.hid (H.out.below ((Below.refl _ _).drew))
            obtain ⟨m4, m4f, hbl4⟩ := HK.out.kn.facts
            have D1 := Lib.hid (D1.out.mono (R' := fun e w' => (∃ p, e = .returned (.pointer p) ∧ Hid False) ∨ (e = bad k9 ∧ wx.drew.grownBy w' (some br))) fun e w' h => .inr h)
            go_wp2
            go_region_law (first
              | (go_simp; go_at_call 52; (with_reducible refine D1.out.mono ?_); rintro e x (⟨p_, rfl, hF⟩ | ⟨rfl, hb⟩); (case' inr => (refine ⟨rfl, ?_⟩; rw [HS.out]; exact ⟨rfl, grown_trans HD_.out.2 hb⟩)); have t4 : x.cell? ⟨b, 4, none⟩ = some sv0 := hF.out.elim; have t4f : x.frozen? ⟨b, 4, none⟩ = false := hF.out.elim; have hbx : b < x.heap.size := hF.out.elim)
              | (refine step_append_lies _ (by rfl) _ _ _ (by rfl) w.heap.size 26 i0 _ 1 8 Try.underlying40 hi0 hz0 hz1 hz2 rfl (by omega) sv0 xs0.length xs0 hF.out.elim hF.out.elim ⟨0, 0, none⟩ 1 1 [] hF.out.elim hF.out.elim hF.out.elim hF.out.elim (by omega) hF.out.elim hF.out.elim hF.out.elim 0 hF.out.elim ?_; intro g' cap w5 hown1 hgrow hor hlt5; have s4 : w5.cell? ⟨b, 4, none⟩ = some sv0 := hF.out.elim; have s4f : w5.frozen? ⟨b, 4, none⟩ = false := hF.out.elim; have hb5 : b < w5.heap.size := hF.out.elim; clear hown1 hgrow hor hlt5))
            all_goals exact hF.out.elim
          | ok r =>
            obtain ⟨y0, j4⟩ := r
            rw [hx] at d1_
            have D1 := Lib.hid d1_
            have HS := Lib.hid (HS.out.trans (bind_ok hx))
            have hj4 := ME.out (j1 + 1)
            rw [hx] at hj4
            simp only [posE] at hj4
            clear d1_ hx
            have HD_ := Lib.hid (H.out.below ((Below.refl _ _).drew))
            have HKD := Lib.hid (HK.out.below ((Below.refl _ _).drew))
            obtain ⟨m4, m4f, hbl4⟩ := HK.out.kn.facts
            go_wp2
            go_region_law (first
              | (go_simp; go_at_call 52; (with_reducible refine D1.out.mono ?_); rintro e x ⟨by_, rfl, hp, hgr, hr⟩; have HKX := Lib.hid (HKD.out.grown hgr hbr0 (Nat.le_refl _)); have HY := Lib.hid (HKD.out.new hr (Nat.le_refl _)); have HX_ := Lib.hid (HD_.out.trans ⟨hp, hgr⟩); clear hp hgr hr; obtain ⟨t4, t4f, hbx⟩ := HKX.out.kn.facts; have Q := kid_facts (cs := #[.pointer (some ⟨by_, 0, none⟩)]) x.heap.size rfl (Nat.le_trans HKX.out.kn.low (Nat.le_of_lt hbx)) HKX.out.kn.own hxl (one_ptr (some ⟨by_, 0, none⟩)) (by simp))
              | (refine step_append_lies _ (by rfl) _ _ _ (by rfl) w.heap.size 26 i0 _ 1 8 Try.underlying40 hi0 hz0 hz1 hz2 rfl (by omega) sv0 xs0.length xs0 (by rfl) Q.out.2.2.2.2 ⟨x.heap.size, 0, none⟩ 1 1 #[.pointer (some ⟨by_, 0, none⟩)].toList (by rfl) (by rfl) Q.out.1 Q.out.2.1 (by omega) Q.out.2.2.1 (by omega) Q.out.2.2.2.1 (x.heap.size + 1) (by simp) ?_; intro g' cap w5 hown1 hgrow hor hlt5; obtain ⟨s4, s4f, hb5⟩ := KN.after (HKX.out.kn.below ((Below.refl _ _).alloc (Nat.le_refl _) _)) hgrow; have K2 := Lib.hid (KG.steps (l := [y0]) (HKX.out.below ((Below.refl _ _).alloc (Nat.le_refl _) _)) (HY.out.below ((Below.refl _ _).alloc (Nat.le_refl _) _)) rfl rfl hown1 hgrow (hor.imp id fun e => e.trans (World.size_alloc _ _).symm)); have H2 := Lib.hid (PG.hung HX_.out H0.out _ hgrow (fun k e => (HKX.out.kn.own.lt _ e).1) (u := .slice (some ⟨g', 0, none⟩) (xs0.length + 1) cap) HKX.out.kn.low); clear hown1 hgrow hor hlt5))
            all_goals
              go_wp2_with fail
              go_loopw [] (fun wr => Hid (LK w0 w br A c L b ⟨61, (p1, p2), sNil, 0⟩ (fun acc j => ∃ f l, acc = dd :: l ∧ L.length < j + f ∧ res = bindP (manyRF (exprF g) f l) (fun l => needF sRap (retP (mk 61 (p1, p2) sNil 0 (dd :: l)))) L j) wr)) (fun wr => L.length + 1 - atW wr br)
              case atStart => exact Lib.hid ⟨_, _, _, _, by omega, by simp only [List.length_append, List.length_cons, List.length_nil]; omega, H2.out, K2.out, g, _, rfl, by omega, HS.out⟩
              case round =>
                clear H H2 HK K2 HS HX
                obtain ⟨acc, sv, xs, j, hj, hac, hG_, hK_, f, l, rfl, hf, hS_⟩ := hrel.out
                obtain ⟨f, rfl⟩ : ∃ f', f = f' + 1 := ⟨f - 1, by omega⟩
                have H := Lib.hid hG_
                have HO := Lib.hid hG_
                have HK := Lib.hid hK_
                have HS := Lib.hid hS_
                have hxl : xs.length ≤ 1000000 := by have := hK_.len; omega
                obtain ⟨wo, rfl⟩ : ∃ wo : World, wo = wr := ⟨_, rfl⟩
                clear hrel hG_ hK_ hS_
                cases hT : isT L j sCom with
                | false =>
                  have D1 := Lib.hid (eat_no HT.out.toks (i := j) (by omega) sCom _ H.out.1 hT)
                  have HS := Lib.hid (HS.out.trans (many_n hT))
                  clear hT
                  go_wp2_with fail
                  ((with_reducible refine (D1.out).mono ?_); rintro e wx ⟨rfl, hb⟩)
                  have H := Lib.hid (H.out.trans hb)
                  have HK := Lib.hid (HK.out.grown hb.2 hbr0 (Nat.le_refl _))
                  clear hb
                  clear D1
                  cases hT : isT L (j) sRap with
                  | false =>
                    have D1 := Lib.hid (need_no HT.out.toks (i := j) (by omega) sRap _ H.out.1 hT)
                    have HS := Lib.hid (HS.out.trans (need_n hT))
                    go_wp2_with fail
                    ((with_reducible refine D1.out.mono ?_); rintro e w1 ⟨rfl, hb⟩)
                    have H3 := Lib.hid (grown_trans H.out.2 hb)
                    clear hb
                    go_wp2
                    refine ⟨rfl, ?_⟩
                    rw [HS.out]
                    exact ⟨rfl, H3.out⟩
                  | true =>
                    have hjn := isT_lt hT
                    have D1 := Lib.hid (need_ok HT.out.toks (i := j) (by omega) sRap _ H.out.1 hT)
                    have HS := Lib.hid (HS.out.trans (need_y hT))
                    clear hT
                    go_wp2_with fail
                    ((with_reducible refine (D1.out).mono ?_); rintro e wx ⟨rfl, hb⟩)
                    have H := Lib.hid (H.out.trans hb)
                    have HK := Lib.hid (HK.out.grown hb.2 hbr0 (Nat.le_refl _))
                    clear hb
                    clear D1
                    have HS := Lib.hid (HS.out.trans ret_)
                    go_wp2
                    go_ret
                    rw [HS.out]
                    exact ⟨b, rfl, H.out.1, H.out.2, HK.out.done (Nat.le_refl _)⟩
                | true =>
                  have hjn := isT_lt hT
                  have D1 := Lib.hid (eat_yes HT.out.toks (i := j) (by omega) sCom _ H.out.1 hT)
                  have HS := Lib.hid (HS.out.trans (many_y hT))
                  clear hT
                  go_wp2_with fail
                  ((with_reducible refine (D1.out).mono ?_); rintro e wx ⟨rfl, hb⟩)
                  have H := Lib.hid (H.out.trans hb)
                  have HK := Lib.hid (HK.out.grown hb.2 hbr0 (Nat.le_refl _))
                  clear hb
                  clear D1
                  have d1_ := HE.out (j + 1) (by omega) wx.drew (H.out.below ((Below.refl _ _).drew)).1
                  cases hx : exprF g L (j + 1) with
                  | error k9 =>
                    rw [hx] at d1_
                    have D1 := Lib.hid d1_
                    have HS := Lib.hid (HS.out.trans (bind_err hx))
                    clear d1_ hx
                    have HD_ := Lib.hid (H.out.below ((Below.refl _ _).drew))
                    obtain ⟨m4, m4f, hbl4⟩ := HK.out.kn.facts
                    have D1 := Lib.hid (D1.out.mono (R' := fun e w' => (∃ p, e = .returned (.pointer p) ∧ Hid False) ∨ (e = bad k9 ∧ wx.drew.grownBy w' (some br))) fun e w' h => .inr h)
                    go_wp2
                    go_region_law (first
                      | (go_simp; go_at_call 52; (with_reducible refine D1.out.mono ?_); rintro e x (⟨p_, rfl, hF⟩ | ⟨rfl, hb⟩); (case' inr => (refine ⟨rfl, ?_⟩; rw [HS.out]; exact ⟨rfl, grown_trans HD_.out.2 hb⟩)); have t4 : x.cell? ⟨b, 4, none⟩ = some sv := hF.out.elim; have t4f : x.frozen? ⟨b, 4, none⟩ = false := hF.out.elim; have hbx : b < x.heap.size := hF.out.elim)
                      | (refine step_append_lies _ (by rfl) _ _ _ (by rfl) w.heap.size 26 i0 _ 1 8 Try.underlying40 hi0 hz0 hz1 hz2 rfl (by omega) sv xs.length xs hF.out.elim hF.out.elim ⟨0, 0, none⟩ 1 1 [] hF.out.elim hF.out.elim hF.out.elim hF.out.elim (by omega) hF.out.elim hF.out.elim hF.out.elim 0 hF.out.elim ?_; intro g' cap w5 hown1 hgrow hor hlt5; have s4 : w5.cell? ⟨b, 4, none⟩ = some sv := hF.out.elim; have s4f : w5.frozen? ⟨b, 4, none⟩ = false := hF.out.elim; have hb5 : b < w5.heap.size := hF.out.elim; clear hown1 hgrow hor hlt5))
                    all_goals exact hF.out.elim
                  | ok r =>
                    obtain ⟨y, j4⟩ := r
                    rw [hx] at d1_
                    have D1 := Lib.hid d1_
                    have HS := Lib.hid (HS.out.trans (bind_ok hx))
                    have hj4 := ME.out (j + 1)
                    rw [hx] at hj4
                    simp only [posE] at hj4
                    clear d1_ hx
                    have HD_ := Lib.hid (H.out.below ((Below.refl _ _).drew))
                    have HKD := Lib.hid (HK.out.below ((Below.refl _ _).drew))
                    obtain ⟨m4, m4f, hbl4⟩ := HK.out.kn.facts
                    go_wp2
                    go_region_law (first
                      | (go_simp; go_at_call 52; (with_reducible refine D1.out.mono ?_); rintro e x ⟨by_, rfl, hp, hgr, hr⟩; have HKX := Lib.hid (HKD.out.grown hgr hbr0 (Nat.le_refl _)); have HY := Lib.hid (HKD.out.new hr (Nat.le_refl _)); have HX_ := Lib.hid (HD_.out.trans ⟨hp, hgr⟩); clear hp hgr hr; obtain ⟨t4, t4f, hbx⟩ := HKX.out.kn.facts; have Q := kid_facts (cs := #[.pointer (some ⟨by_, 0, none⟩)]) x.heap.size rfl (Nat.le_trans HKX.out.kn.low (Nat.le_of_lt hbx)) HKX.out.kn.own hxl (one_ptr (some ⟨by_, 0, none⟩)) (by simp))
                      | (refine step_append_lies _ (by rfl) _ _ _ (by rfl) w.heap.size 26 i0 _ 1 8 Try.underlying40 hi0 hz0 hz1 hz2 rfl (by omega) sv xs.length xs (by rfl) Q.out.2.2.2.2 ⟨x.heap.size, 0, none⟩ 1 1 #[.pointer (some ⟨by_, 0, none⟩)].toList (by rfl) (by rfl) Q.out.1 Q.out.2.1 (by omega) Q.out.2.2.1 (by omega) Q.out.2.2.2.1 (x.heap.size + 1) (by simp) ?_; intro g' cap w5 hown1 hgrow hor hlt5; obtain ⟨s4, s4f, hb5⟩ := KN.after (HKX.out.kn.below ((Below.refl _ _).alloc (Nat.le_refl _) _)) hgrow; have K2 := Lib.hid (KG.steps (l := [y]) (HKX.out.below ((Below.refl _ _).alloc (Nat.le_refl _) _)) (HY.out.below ((Below.refl _ _).alloc (Nat.le_refl _) _)) rfl rfl hown1 hgrow (hor.imp id fun e => e.trans (World.size_alloc _ _).symm)); have H2 := Lib.hid (PG.hung HX_.out H0.out _ hgrow (fun k e => (HKX.out.kn.own.lt _ e).1) (u := .slice (some ⟨g', 0, none⟩) (xs.length + 1) cap) HKX.out.kn.low); clear hown1 hgrow hor hlt5))
                    all_goals
                      have hm2 := H2.out.1.atw
                      have hm1 := HO.out.1.atw
                      go_wp2
                      go_roundw
                      case rel => exact Lib.hid ⟨_, _, _, _, by omega, by rw [List.length_append]; simp only [List.length_cons, List.length_nil] at hac ⊢; omega, H2.out, K2.out, f, _, rfl, by omega, HS.out⟩
                      case measure => rw [hm2, hm1]; omega
    | true =>
      have hjn := isT_lt hT
      have D1 := Lib.hid (eat_yes HT.out.toks (i := j1) (by omega) sAsg _ H.out.1 hT)
      have HS := Lib.hid (HS.out.trans (tok_y hT))
      clear hT
      go_wp2_with fail
      ((with_reducible refine (D1.out).mono ?_); rintro e wx ⟨rfl, hb⟩)
      have H := Lib.hid (H.out.trans hb)
      have HX := Lib.hid (repS_grown HX.out hb.2 hbr0)
      clear hb
      clear D1
      have d1 : Calls _ _ _ _ (TreeR _ _ _ _ _ _ _ (exprF g L (j1 + 1))) := HE.out (j1 + 1) (by omega) _ H.out.1
      cases hx : exprF g L (j1 + 1) with
      | error k9 =>
        rw [hx] at d1
        have D1 := Lib.hid d1
        have HS := Lib.hid (HS.out.trans (bind_err hx))
        clear d1 hx
        go_wp2_with fail
        ((with_reducible refine D1.out.mono ?_); rintro e w1 ⟨rfl, hb⟩)
        have H3 := Lib.hid (grown_trans H.out.2 hb)
        clear hb
        go_wp2
        refine ⟨rfl, ?_⟩
        rw [HS.out]
        exact ⟨rfl, H3.out⟩
      | ok r =>
        obtain ⟨y, j2⟩ := r
        rw [hx] at d1
        have D1 := Lib.hid d1
        have HS := Lib.hid (HS.out.trans (bind_ok hx))
        have hj2 := ME.out (j1 + 1)
        rw [hx] at hj2
        simp only [posE] at hj2
        clear d1 hx
        go_wp2_with fail
        ((with_reducible refine D1.out.mono ?_); rintro e wx ⟨by_, rfl, hp, hgr, hr⟩)
        have HY := Lib.hid (hr.more (S' := fun y => w.heap.size ≤ y) fun y hy _ => Nat.le_trans H.out.2.size hy)
        have H := Lib.hid (H.out.trans ⟨hp, hgr⟩)
        have HX := Lib.hid (repS_grown HX.out hgr hbr0)
        clear hp hgr hr D1
        have HS := Lib.hid (HS.out.trans ret_)
        have NW := Lib.hid (new_lit (B := w.heap.size) (w := wx) H.out.2.size 60 60 rfl r1 r2 sNil [.pointer (some ⟨bx, 0, none⟩), .pointer (some ⟨by_, 0, none⟩)] [dd, y] wx.heap.size rfl 2 rfl (by decide) (repN_of (repS_cons HX.out HY.out)))
        go_wp2_with fail
        ((with_reducible refine NW.out.mono ?_); rintro e w8 ⟨b8, rfl, hb, hr⟩)
        have H := Lib.hid (H.out.below hb)
        have HR8 := Lib.hid hr
        clear hb hr NW
        go_wp2
        go_ret
        rw [HS.out]
        exact ⟨b8, rfl, H.out.1, H.out.2, HR8.out⟩
end Go.Proofs.Ytecmjhohniipoaa.St
