import Derived.Test.YtkemhmfdooghkaaGreatDoorX25
set_option linter.unusedSimpArgs false
set_option linter.unusedVariables false
set_option maxRecDepth 100000
set_option maxHeartbeats 6400000
namespace Go.Proofs.YtkemhmfdooghkaaGreatDoor
namespace Un
open Go.RowKit
open Tr (Nd Fo RepS RepN Rep cellsN)
open Lx (Tk noTk Blk run_store_complexL TokAt)
open Fl
open Ex hiding LG new_lg tkOf tkV
open St (TkS g2_max Good2 isNm KG KN new_kg new_0 kid_facts one_ptr sSem sCol sEnd isWd6 ret_ bind_err need_n)
open De (LG new_leaf new_lg namesF sImport sModule run_field0)
attribute [local go_sem] run_store_complexL run_field0 run_field1 run_field3
theorem KG.done0 {B b : Nat} {w : World} {d : Nd} {sv : Value} {acc : List T1} {xs : List Value} (h : KG B B w b d sv acc xs) : RepS (fun y => B ≤ y) w (forest [(d, forest acc)]) [.pointer (some ⟨b, 0, none⟩)] := h.done nl
theorem KG.f02 {B0 B b : Nat} {w : World} {d : Nd} {sv : Value} {acc : List T1} {xs : List Value} (h : KG B0 B w b d sv acc xs) : w.cell? ⟨b, 0, none⟩ = some (.int .u8 d.kind) ∧ w.frozen? ⟨b, 0, none⟩ = false ∧ w.cell? ⟨b, 2, none⟩ = some (.string d.name) ∧ w.frozen? ⟨b, 2, none⟩ = false := ⟨h.kn.blk.cell 0, h.kn.blk.frozen 0, h.kn.blk.cell 2, h.kn.blk.frozen 2⟩
theorem isThe_nm {t : PT} {b : Bool} (h : isThe sNil t = b) : isNm t = b := by rw [← h]; simp [isThe]
theorem fail_ {α : Type} {L : List PT} {i : Nat} : (failP : Par α) L i = .error i := rfl
def ImpR (w0 wB : World) (br : Nat) (A : Option Addr) (c : Nat) (L : List PT) (b : Nat) (d : Nd) (r : Except Nat (List T1 × Nat)) (e : Ending) (w' : World) : Prop := match r with
 | .ok (l, j) => e = .returned (.tuple #[]) ∧ PG w0 wB w' br A c L j ∧ ∃ sv xs, KG wB.heap.size wB.heap.size w' b d sv l xs
 | .error k => e = bad k ∧ wB.grownBy w' (some br)
theorem imports_any {g : Nat} {w0 wB : World} {br c iB : Nat} {A : Option Addr} {L : List PT} (ht : TkS w0 br A L) (hg : L.length < g) (hwB : PInv w0 wB br A c L iB) (i : Nat) (hi : i ≤ L.length) (w : World) (hG : PG w0 wB w br A c L i)
 {b : Nat} {d : Nd} {sv : Value} {acc : List T1} {xs : List Value} (hK : KG wB.heap.size wB.heap.size w b d sv acc xs) (hac : acc.length ≤ i) :
 Calls Tryz.prog 36 #[.pointer (some ⟨br, 0, none⟩), .pointer (some ⟨b, 0, none⟩)] w (ImpR w0 wB br A c L b d (importsR g g acc L i)) := by
 have hbr0 := hwB.row.lt
 have hlen := ht.toks.len
 have HB0 := qh hwB
 have HT := qh ht
 have HNM := qh (fun (j : Nat) (hj : j ≤ L.length) (w : World) (h : PInv w0 w br A c L j) => names_any (c := c) ht hg j hj w h)
 obtain ⟨i0, hi0, hz0, hz1, hz2⟩ := info_parts infoN
 obtain ⟨res, hs0⟩ : ∃ r, r = importsR g g acc L i := ⟨_, rfl⟩
 rw [← hs0]
 have HS := qh hs0
 have HG0 := qh hG
 have HK0 := qh hK
 clear ht hs0 hwB hG hK
 go_enter Tryz.func36, Tryz.ntmps36
 go_wp2_with fail
 go_loopg [] (L.length + 1) (fun gh wr => ∃ (acc : List T1) (sv : Value) (xs : List Value) (j f : Nat), j ≤ L.length ∧ L.length + 1 - j ≤ gh ∧ L.length < j + f ∧ acc.length ≤ j ∧ Hid (res = importsR g f acc L j) ∧ Hid (PG w0 wB wr br A c L j) ∧ Hid (KG wB.heap.size wB.heap.size wr b d sv acc xs))
 case atStart => exact ⟨acc, sv, xs, i, g, hi, by omega, by omega, hac, HS, HG0, HK0⟩
 case round =>
  clear HS HG0 HK0
  obtain ⟨acc, sv, xs, j, f, hj, hgh, hf, hac, HS, HB, HK⟩ := hrel
  obtain ⟨f, rfl⟩ : ∃ f', f = f' + 1 := ⟨f - 1, by omega⟩
  have HO := qh HB.out.1
  have H := qh (PG.start HB.out.1)
  have hbo : br < wr.heap.size := HB.out.1.row.lt
  have n1 := now_any HT.out.toks (i := j) (by omega) _ H.out.1
  obtain ⟨k_p, p1, p2, q3_p, q4_p, t_p, n_p, e1, e2⟩ := val_form (tk L j)
  have HPp := qh (show (tk L j).2.1 = (p1, p2) by rw [e1])
  rw [e2] at n1
  have N1 := qh n1
  clear n1 e1 e2
  go_wp2_with fail
  ((with_reducible refine (N1.out).mono ?_); rintro e wx ⟨rfl, hb⟩)
  have H := qh (H.out.below hb)
  clear hb N1
  have NW := qh (new_0 (B0 := wr.heap.size) (w := wx) H.out.2.size 53 53 rfl p1 p2 sNil 0)
  go_wp2_with fail
  ((with_reducible refine NW.out.mono ?_); rintro e wy ⟨bi, sv0, xs0, rfl, hb, hk⟩)
  have HI := qh (hk.lower H.out.2.size)
  have H := qh (H.out.below hb)
  clear hb hk NW
  have HS := qh (show res = tokP (tT sFrom) (fun _ => tokP isNm (fun n => needF sImport (bindP (namesF g []) fun l => needF sSem (importsR g f (acc ++ [mk 54 (p1, p2) n.1.text 0 l])))) failP) (tokP (tT sImport) (fun _ => bindP (namesF g []) fun l => needF sSem (importsR g f (acc ++ [mk 53 (p1, p2) sNil 0 l]))) (retP acc)) L j from by rw [HS.out, importsR, ← HPp.out]; rfl)
  clear HPp
  cases hT : isT L j sFrom with
  | false =>
    have D1 := qh (eat_no HT.out.toks (i := j) (by omega) sFrom _ H.out.1 hT)
    have HS := qh (HS.out.trans (tok_n (t := tT sFrom) hT))
    clear hT
    go_wp2_with fail
    ((with_reducible refine (D1.out).mono ?_); rintro e wx ⟨rfl, hb⟩)
    have H := qh (H.out.trans hb)
    have HI := qh (HI.out.grown hb.2 hbo nl)
    clear hb D1
    cases hT : isT L j sImport with
    | false =>
      have D1 := qh (eat_no HT.out.toks (i := j) (by omega) sImport _ H.out.1 hT)
      have HS := qh ((HS.out.trans (tok_n (t := tT sImport) hT)).trans ret_)
      clear hT
      go_wp2_with fail
      ((with_reducible refine (D1.out).mono ?_); rintro e wx ⟨rfl, hb⟩)
      have H := qh (H.out.trans hb)
      have HI := qh (HI.out.grown hb.2 hbo nl)
      clear hb D1
      go_wp2
      go_end0
      rw [HS.out]
      exact ⟨rfl, ⟨H.out.1, grown_trans HB.out.2 H.out.2⟩, _, _, HK.out.grown H.out.2 hbr0 nl⟩
    | true =>
      have hjn := isT_lt hT
      have D1 := qh (eat_yes HT.out.toks (i := j) (by omega) sImport _ H.out.1 hT)
      have HS := qh (HS.out.trans (tok_y (t := tT sImport) hT))
      clear hT
      go_wp2_with fail
      ((with_reducible refine (D1.out).mono ?_); rintro e wx ⟨rfl, hb⟩)
      have H := qh (H.out.trans hb)
      have HI := qh (HI.out.grown hb.2 hbo nl)
      clear hb D1
      have d1 : Calls _ _ _ _ (ListR _ _ _ _ _ _ _ (namesF g [] L (j + 1))) := HNM.out (j + 1) (by omega) _ H.out.1
      have hni := HI.out.kn.blk.lt
      cases hx : namesF g [] L (j + 1) with
      | error k9 =>
        rw [hx] at d1
        have D1 := qh d1
        have HS := qh (HS.out.trans (bind_err hx))
        clear d1 hx
        go_wp2_with fail
        ((with_reducible refine D1.out.mono ?_); rintro e w1 ⟨rfl, hb⟩)
        have H3 := qh (grown_trans HB.out.2 (grown_trans H.out.2 hb))
        clear hb
        go_wp2
        refine ⟨rfl, ?_⟩
        rw [HS.out]
        exact ⟨rfl, H3.out⟩
      | ok r =>
        obtain ⟨l, j5⟩ := r
        rw [hx] at d1
        have D1 := qh d1
        have HS := qh (HS.out.trans (bind_ok hx))
        have hj5 := g2_max (De.g2_names g []) L (j + 1)
        rw [hx] at hj5
        simp only [posE] at hj5
        clear d1 hx
        go_wp2_with fail
        ((with_reducible refine D1.out.mono ?_); rintro e w5 ⟨svl, xsl, rfl, hp, hgr, hl⟩)
        obtain ⟨A', c', rfl, _⟩ := hl.form
        have HI2 := qh (HI.out.grown hgr hbo nl)
        obtain ⟨m4, m4f, hbl4⟩ := HI2.out.kn.facts
        have HL := qh (KG.kids HI2.out hl hni (H.out.2.size) (H.out.2.size))
        have H := qh ((H.out.trans ⟨hp, hgr⟩).far HO.out (HI2.out.kn.low) 4 (.slice A' l.length c'))
        have HI := HL
        clear hp hgr hl D1 HI2
        cases hT : isT L (j5) sSem with
        | false =>
          have D1 := qh (need_no HT.out.toks (i := j5) (by omega) sSem _ H.out.1 hT)
          have HS := qh (HS.out.trans (need_n hT))
          go_wp2_with fail
          ((with_reducible refine D1.out.mono ?_); rintro e w1 ⟨rfl, hb⟩)
          have H3 := qh (grown_trans HB.out.2 (grown_trans H.out.2 hb))
          clear hb
          go_wp2
          refine ⟨rfl, ?_⟩
          rw [HS.out]
          exact ⟨rfl, H3.out⟩
        | true =>
          have hjn := isT_lt hT
          have D1 := qh (need_ok HT.out.toks (i := j5) (by omega) sSem _ H.out.1 hT)
          have HS := qh (HS.out.trans (need_y hT))
          clear hT
          go_wp2_with fail
          ((with_reducible refine (D1.out).mono ?_); rintro e wx ⟨rfl, hb⟩)
          have H := qh (H.out.trans hb)
          have HI := qh (HI.out.grown hb.2 hbo nl)
          clear hb D1
          have HW := qh (show PG w0 wB wx br A c L (j5 + 1) from ⟨H.out.1, grown_trans HB.out.2 H.out.2⟩)
          have HKX := qh (HK.out.grown H.out.2 hbr0 nl)
          have HY := qh (HK.out.new (KG.done0 HI.out) nl)
          have hxl : xs.length ≤ 1000000 := by have := HK.out.len; omega
          obtain ⟨t4, t4f, hbx⟩ := HKX.out.kn.facts
          have Q := kid_facts (cs := #[.pointer (some ⟨bi, 0, none⟩)]) wx.heap.size rfl (Nat.le_trans HKX.out.kn.low (Nat.le_of_lt hbx)) HKX.out.kn.own hxl (one_ptr (some ⟨bi, 0, none⟩)) (by simp)
          clear H HI HK HB
          go_wp2_with (at_builtin; refine wpList_append_lies _ rfl _ _ _ rfl wB.heap.size 31 i0 _ 1 8 Tryz.underlying36 hi0 hz0 hz1 hz2 rfl (by omega) sv xs.length xs rfl Q.out.2.2.2.2 ⟨wx.heap.size, 0, none⟩ 1 1 #[.pointer (some ⟨bi, 0, none⟩)].toList rfl rfl Q.out.1 Q.out.2.1 (by omega) Q.out.2.2.1 (by omega) Q.out.2.2.2.1 (wx.heap.size + 1) (by simp) ?_; intro g' cap w6 hown1 hgrow hor hlt5; obtain ⟨s4, s4f, hb5⟩ := KN.after (HKX.out.kn.below ((Below.refl _ _).alloc nl _)) hgrow)
          have K2 := qh (KG.steps (l := [mk 53 (p1, p2) sNil 0 l]) (HKX.out.below ((Below.refl _ _).alloc nl _)) (HY.out.below ((Below.refl _ _).alloc nl _)) rfl rfl hown1 hgrow (hor.imp id fun e => e.trans (World.size_alloc _ _).symm))
          have H2 := qh (PG.hung HW.out HB0.out _ hgrow (fun k e => (HKX.out.kn.own.lt _ e).1) (u := .slice (some ⟨g', 0, none⟩) (xs.length + 1) cap) HKX.out.kn.low)
          clear hown1 hgrow hor hlt5
          go_roundg (L.length + 1 - (j5 + 1))
          case rel => exact ⟨_, _, _, j5 + 1, f, by omega, by omega, by omega, by simp only [List.length_append, List.length_cons, List.length_nil]; omega, HS, H2, K2⟩
          case measure => omega
  | true =>
    have hjn := isT_lt hT
    have D1 := qh (eat_yes HT.out.toks (i := j) (by omega) sFrom _ H.out.1 hT)
    have HS := qh (HS.out.trans (tok_y (t := tT sFrom) hT))
    clear hT
    go_wp2_with fail
    ((with_reducible refine (D1.out).mono ?_); rintro e wx ⟨rfl, hb⟩)
    have H := qh (H.out.trans hb)
    have HI := qh (HI.out.grown hb.2 hbo nl)
    clear hb D1
    cases hk : isThe sNil (tk L (j + 1)) with
    | false =>
      have D1 := qh (name_no HT.out.toks (i := j + 1) (by omega) sNil _ H.out.1 hk)
      have HS := qh ((HS.out.trans (tok_n (t := isNm) (isThe_nm hk))).trans fail_)
      clear hk
      go_wp2_with fail
      ((with_reducible refine D1.out.mono ?_); rintro e w1 ⟨rfl, hb⟩)
      have H3 := qh (grown_trans HB.out.2 (grown_trans H.out.2 hb))
      clear hb
      go_wp2
      refine ⟨rfl, ?_⟩
      rw [HS.out]
      exact ⟨rfl, H3.out⟩
    | true =>
      have hjn2 : j + 1 < L.length := by
       rcases Nat.lt_or_ge (j + 1) L.length with h | h
       ·exact h
       ·rw [tk_end h] at hk; cases hk
      have D1 := name_ok HT.out.toks (i := j + 1) (by omega) sNil _ H.out.1 hk
      obtain ⟨k_, o1, o2, q1, q2, t_, n_, e1, e2⟩ := val_form (tk L (j + 1))
      rw [e2] at D1
      have HS := qh (HS.out.trans (tok_y (t := isNm) (isThe_nm hk)))
      rw [e1] at HS
      have D1 := qh D1
      clear e1 e2 hk
      go_wp2_with fail
      ((with_reducible refine (D1.out).mono ?_); rintro e wx ⟨rfl, hb⟩)
      have H := qh (H.out.trans hb)
      have HI := qh (HI.out.grown hb.2 hbo nl)
      clear hb D1
      obtain ⟨z0, z0f, z2, z2f⟩ := KG.f02 HI.out
      have HI2 := qh (KG.cell_set HI.out 0 (.int .u8 54) ⟨54, (p1, p2), sNil, 0⟩ rfl)
      have HI2 := qh (KG.cell_set HI2.out 2 (.string t_) ⟨54, (p1, p2), t_, 0⟩ rfl)
      have H := qh ((H.out.far HO.out HI.out.kn.low 0 (.int .u8 54)).far HO.out HI.out.kn.low 2 (.string t_))
      have HI := HI2
      clear HI2
      cases hT : isT L (j + 1 + 1) sImport with
      | false =>
        have D1 := qh (need_no HT.out.toks (i := j + 1 + 1) (by omega) sImport _ H.out.1 hT)
        have HS := qh (HS.out.trans (need_n hT))
        go_wp2_with fail
        ((with_reducible refine D1.out.mono ?_); rintro e w1 ⟨rfl, hb⟩)
        have H3 := qh (grown_trans HB.out.2 (grown_trans H.out.2 hb))
        clear hb
        go_wp2
        refine ⟨rfl, ?_⟩
        rw [HS.out]
        exact ⟨rfl, H3.out⟩
      | true =>
        have hjn := isT_lt hT
        have D1 := qh (need_ok HT.out.toks (i := j + 1 + 1) (by omega) sImport _ H.out.1 hT)
        have HS := qh (HS.out.trans (need_y hT))
        clear hT
        go_wp2_with fail
        ((with_reducible refine (D1.out).mono ?_); rintro e wx ⟨rfl, hb⟩)
        have H := qh (H.out.trans hb)
        have HI := qh (HI.out.grown hb.2 hbo nl)
        clear hb D1
        have d1 : Calls _ _ _ _ (ListR _ _ _ _ _ _ _ (namesF g [] L (j + 1 + 1 + 1))) := HNM.out (j + 1 + 1 + 1) (by omega) _ H.out.1
        have hni := HI.out.kn.blk.lt
        cases hx : namesF g [] L (j + 1 + 1 + 1) with
        | error k9 =>
          rw [hx] at d1
          have D1 := qh d1
          have HS := qh (HS.out.trans (bind_err hx))
          clear d1 hx
          go_wp2_with fail
          ((with_reducible refine D1.out.mono ?_); rintro e w1 ⟨rfl, hb⟩)
          have H3 := qh (grown_trans HB.out.2 (grown_trans H.out.2 hb))
          clear hb
          go_wp2
          refine ⟨rfl, ?_⟩
          rw [HS.out]
          exact ⟨rfl, H3.out⟩
        | ok r =>
          obtain ⟨l, j5⟩ := r
          rw [hx] at d1
          have D1 := qh d1
          have HS := qh (HS.out.trans (bind_ok hx))
          have hj5 := g2_max (De.g2_names g []) L (j + 1 + 1 + 1)
          rw [hx] at hj5
          simp only [posE] at hj5
          clear d1 hx
          go_wp2_with fail
          ((with_reducible refine D1.out.mono ?_); rintro e w5 ⟨svl, xsl, rfl, hp, hgr, hl⟩)
          obtain ⟨A', c', rfl, _⟩ := hl.form
          have HI2 := qh (HI.out.grown hgr hbo nl)
          obtain ⟨m4, m4f, hbl4⟩ := HI2.out.kn.facts
          have HL := qh (KG.kids HI2.out hl hni (H.out.2.size) (H.out.2.size))
          have H := qh ((H.out.trans ⟨hp, hgr⟩).far HO.out (HI2.out.kn.low) 4 (.slice A' l.length c'))
          have HI := HL
          clear hp hgr hl D1 HI2
          cases hT : isT L (j5) sSem with
          | false =>
            have D1 := qh (need_no HT.out.toks (i := j5) (by omega) sSem _ H.out.1 hT)
            have HS := qh (HS.out.trans (need_n hT))
            go_wp2_with fail
            ((with_reducible refine D1.out.mono ?_); rintro e w1 ⟨rfl, hb⟩)
            have H3 := qh (grown_trans HB.out.2 (grown_trans H.out.2 hb))
            clear hb
            go_wp2
            refine ⟨rfl, ?_⟩
            rw [HS.out]
            exact ⟨rfl, H3.out⟩
          | true =>
            have hjn := isT_lt hT
            have D1 := qh (need_ok HT.out.toks (i := j5) (by omega) sSem _ H.out.1 hT)
            have HS := qh (HS.out.trans (need_y hT))
            clear hT
            go_wp2_with fail
            ((with_reducible refine (D1.out).mono ?_); rintro e wx ⟨rfl, hb⟩)
            have H := qh (H.out.trans hb)
            have HI := qh (HI.out.grown hb.2 hbo nl)
            clear hb D1
            have HW := qh (show PG w0 wB wx br A c L (j5 + 1) from ⟨H.out.1, grown_trans HB.out.2 H.out.2⟩)
            have HKX := qh (HK.out.grown H.out.2 hbr0 nl)
            have HY := qh (HK.out.new (KG.done0 HI.out) nl)
            have hxl : xs.length ≤ 1000000 := by have := HK.out.len; omega
            obtain ⟨t4, t4f, hbx⟩ := HKX.out.kn.facts
            have Q := kid_facts (cs := #[.pointer (some ⟨bi, 0, none⟩)]) wx.heap.size rfl (Nat.le_trans HKX.out.kn.low (Nat.le_of_lt hbx)) HKX.out.kn.own hxl (one_ptr (some ⟨bi, 0, none⟩)) (by simp)
            clear H HI HK HB
            go_wp2_with (at_builtin; refine wpList_append_lies _ rfl _ _ _ rfl wB.heap.size 31 i0 _ 1 8 Tryz.underlying36 hi0 hz0 hz1 hz2 rfl (by omega) sv xs.length xs rfl Q.out.2.2.2.2 ⟨wx.heap.size, 0, none⟩ 1 1 #[.pointer (some ⟨bi, 0, none⟩)].toList rfl rfl Q.out.1 Q.out.2.1 (by omega) Q.out.2.2.1 (by omega) Q.out.2.2.2.1 (wx.heap.size + 1) (by simp) ?_; intro g' cap w6 hown1 hgrow hor hlt5; obtain ⟨s4, s4f, hb5⟩ := KN.after (HKX.out.kn.below ((Below.refl _ _).alloc nl _)) hgrow)
            have K2 := qh (KG.steps (l := [mk 54 (p1, p2) t_ 0 l]) (HKX.out.below ((Below.refl _ _).alloc nl _)) (HY.out.below ((Below.refl _ _).alloc nl _)) rfl rfl hown1 hgrow (hor.imp id fun e => e.trans (World.size_alloc _ _).symm))
            have H2 := qh (PG.hung HW.out HB0.out _ hgrow (fun k e => (HKX.out.kn.own.lt _ e).1) (u := .slice (some ⟨g', 0, none⟩) (xs.length + 1) cap) HKX.out.kn.low)
            clear hown1 hgrow hor hlt5
            go_roundg (L.length + 1 - (j5 + 1))
            case rel => exact ⟨_, _, _, j5 + 1, f, by omega, by omega, by omega, by simp only [List.length_append, List.length_cons, List.length_nil]; omega, HS, H2, K2⟩
            case measure => omega
end Un
end Go.Proofs.YtkemhmfdooghkaaGreatDoor
