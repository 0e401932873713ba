/- A part of the proof: N3, N4, N5. -/
import Derived.Test.YtkemhmfdooghkaaGreatDoorZ1
import Derived.Test.YtkemhmfdooghkaaGreatDoorZ18
import Derived.Test.YtkemhmfdooghkaaGreatDoorZ23
set_option linter.unusedSimpArgs false
set_option linter.unusedVariables false

section
namespace Go.Proofs.YtkemhmfdooghkaaGreatDoor.Un
open Go.RowKit
open Tr (Nd Fo RepS RepN Rep cellsN)
open Lx (Tk noTk Blk run_store_complexL TokAt)
open Fl
open Ex
open St (TkS g2_max Good2 isNm KG KN new_kg new_0 kid_facts one_ptr sSem sCol sEnd isWd6 ret_ bind_err need_n)
open De (LG new_leaf new_lg namesF sImport sModule run_field0)
attribute [local go_sem] run_store_complexL run_field0 run_field1 run_field3
theorem row_at {w0 w : World} {br c i : Nat} {A : Option Addr} {L : List PT} (ht : TkS w0 br A L) (h : PInv w0 w br A c L i) : RowAt w A L := by
 refine ⟨⟨ht.toks.reads.1, fun h0 => ?_⟩, fun ad e => Nat.lt_of_lt_of_le (ht.low ad e) h.grown.size, ht.toks.len⟩
 obtain ⟨ad, e, hlt, hc⟩ := ht.toks.reads.2 h0
 refine ⟨ad, e, Nat.lt_of_lt_of_le hlt h.grown.size, fun j u hu => ?_⟩
 rw [← hc j u hu]
 have hne := ht.toks.far _ e
 exact World.cell?_of_block (by rw [St.add_block]; exact h.grown.block ad.block hlt (fun e => hne (by simpa using e)))
def ListR (B : Nat) (w0 w : World) (br : Nat) (A : Option Addr) (c : Nat) (L : List PT) (r : Except Nat (List T1 × Nat)) (e : Ending) (w' : World) : Prop := match r with
 | .ok (l, j) => ∃ sv xs, e = .returned sv ∧ PInv w0 w' br A c L j ∧ w.grownBy w' (some br) ∧ LG B w' sv l xs
 | .error k => e = bad k ∧ w.grownBy w' (some br)
section
variable {br b c i i' : Nat} {w0 w wr w1 : World} {A : Option Addr} {L : List PT} {u : Value}
theorem PG.hung {row : Option Nat} (h : PG w0 w wr br A c L i) (hw : PInv w0 w br A c L i') (o : Obj) (hg : (wr.alloc o).grownBy w1 row) (hr : ∀ k, row = some k → w.heap.size ≤ k) (hb : w.heap.size ≤ b) : PG w0 w (w1.setCell ⟨b, 4, none⟩ u) br A c L i :=
 ((h.alloc o).gfar hw hg hr).far hw hb 4 u
end
section
variable {B0 B B1 b : Nat} {w : World} {d : Nd} {sv svl : Value} {acc l : List T1} {xs xsl : List Value}
theorem KG.cell_set (h : KG B0 B w b d sv acc xs) (o : Nat) (u : Value) (d' : Nd) (hc : (cellsN d sv).setIfInBounds o u = cellsN d' sv) : KG B0 B (w.setCell ⟨b, o, none⟩ u) b d' sv acc xs := by
 obtain ⟨⟨h1, h2, h4⟩, h3, h5⟩ := h
 have hne : sv.ownBlock ≠ some b := Tr.own_blk_ne h2 h1 (by decide)
 refine ⟨⟨?_, h2.kept (Tr.setCell_grown _ _ _) (.inr hne), h4⟩, h3.keep (Nat.le_of_eq (World.size_setCell _ _ _).symm) (fun y hy _ => Below.heap_setCell w ⟨b, o, none⟩ u y hy.2.1) (fun y hy _ => hy), h5⟩
 have := h1.set_ o u
 rw [hc] at this
 exact this
theorem KG.kids (h : KG B0 B w b d sv acc xs) (hl : LG B1 w svl l xsl) (hb : b < B1) (hB : B0 ≤ B1) (hB2 : B ≤ B1) : KG B0 B (w.setCell ⟨b, 4, none⟩ svl) b d svl l xsl := by
 obtain ⟨⟨h1, h2, h4⟩, h3, h5⟩ := h
 refine ⟨⟨?_, Lx.own_mono (hl.own.kept (Tr.setCell_grown _ _ _) (.inr fun e => ?_)) hB2, h4⟩, hl.rep.keep (Nat.le_of_eq (World.size_setCell _ _ _).symm) (fun y hy _ => Below.heap_setCell w ⟨b, 4, none⟩ svl y (show y ≠ b by have := hy.1; omega)) (fun y hy _ => ⟨by have := hy.1; omega, by have := hy.1; omega, hy.2⟩), hl.len⟩
 ·have := h1.set_ 4 svl
  rwa [Tr.cellsN_set] at this
 ·have := (hl.own.lt _ e).1
  simp only at this
  omega
end
set_option maxRecDepth 100000 in set_option maxHeartbeats 6400000 in
theorem names_any {g : Nat} {w0 : World} {br c : Nat} {A : Option Addr} {L : List PT} (ht : TkS w0 br A L) (hg : L.length < g) (i : Nat) (hi : i ≤ L.length) (w : World) (h : PInv w0 w br A c L i) :
 Calls Tryz.prog 49 #[.pointer (some ⟨br, 0, none⟩)] w (ListR w.heap.size w0 w br A c L (namesF g [] L i)) := by
 have hbr0 := h.row.lt
 have hlen := ht.toks.len
 have H0 := qh h
 have H := qh (PG.start h)
 have HT := qh ht
 obtain ⟨i0, hi0, hz0, hz1, hz2⟩ := info_parts infoN
 obtain ⟨res, hs0⟩ : ∃ r, r = namesF g [] L i := ⟨_, rfl⟩
 rw [← hs0]
 have HS := qh hs0
 clear h ht hs0
 go_enter Tryz.func49, Tryz.ntmps49
 go_wp2_with fail
 go_loopg [2] (L.length + 1) (fun gh sv wr => ∃ (lv : Value) (acc : List T1) (xs : List Value) (j f : Nat), lv = sv ∧ j ≤ L.length ∧ L.length + 1 - j ≤ gh ∧ L.length < j + f ∧ acc.length ≤ j ∧ Hid (res = namesF f acc L j) ∧ Hid (PG w0 w wr br A c L j) ∧ Hid (LG w.heap.size wr lv acc xs))
 case atStart => exact ⟨_, [], [], i, g, rfl, hi, by omega, by omega, Nat.zero_le _, HS, H, qh (LG.nil _ _)⟩
 case round =>
  clear H HS
  obtain ⟨lv, acc, xs, j, f, rfl, hj, hgh, hf, hac, HS, H, HG⟩ := hrel
  obtain ⟨f, rfl⟩ : ∃ f', f = f' + 1 := ⟨f - 1, by omega⟩
  obtain ⟨wo, hwo⟩ : ∃ wo : World, wo = wr := ⟨_, rfl⟩
  by_cases hk : (tk L j).1.kind = 1
  ·have hjl : j < L.length := by
    rcases Nat.lt_or_ge j L.length with h | h
    ·exact h
    ·rw [tk_end h] at hk; cases hk
   have D1 := name_ok HT.out.toks (i := j) (by omega) sNil _ H.out.1 (by simp [isThe, isNm, hk])
   obtain ⟨k_, p1, p2, q1, q2, t_, n_, e1, e2⟩ := val_form (tk L j)
   rw [e2] at D1
   have HS := qh (show res = tokP (tT sCom) (fun _ => namesF f (acc ++ [mk 1 (p1, p2) t_ 0 []])) (retP (acc ++ [mk 1 (p1, p2) t_ 0 []])) L (j + 1) from by
    rw [HS.out, namesF, tok_y (t := isNm) (by simp [isNm, hk]), e1])
   have D1 := qh D1
   clear e1 e2 hk
   go_wp2_with fail
   ((with_reducible refine D1.out.mono ?_); rintro e wx ⟨rfl, hp, hgr⟩)
   have hxl : xs.length ≤ 1000000 := by have := HG.out.len; omega
   have HG := qh (HG.out.grown hgr hbr0)
   have H := qh (H.out.trans ⟨hp, hgr⟩)
   clear hp hgr D1
   have hB1 := Blk.new wx 40 #[.int .u8 k_, .complex .f64 (fl p1) (fl p2), .complex .f64 (fl q1) (fl q2), .string t_, .int .i64 n_]
   have z1 := hB1.cell 1
   have z3 := hB1.cell 3
   simp only [List.getElem?_toArray, List.getElem?_cons_zero, List.getElem?_cons_succ] at z1 z3
   have H := qh (H.out.alloc (.cells #[.int .u8 k_, .complex .f64 (fl p1) (fl p2), .complex .f64 (fl q1) (fl q2), .string t_, .int .i64 n_] 40))
   have HG := qh (HG.out.below ((Below.refl _ _).alloc (Nat.le_refl _) (.cells #[.int .u8 k_, .complex .f64 (fl p1) (fl p2), .complex .f64 (fl q1) (fl q2), .string t_, .int .i64 n_] 40)))
   clear hB1
   have NW := qh (new_leaf (w := wx.alloc (.cells #[.int .u8 k_, .complex .f64 (fl p1) (fl p2), .complex .f64 (fl q1) (fl q2), .string t_, .int .i64 n_] 40)) 1 1 rfl p1 p2 t_ 0)
   go_wp2_with fail
   ((with_reducible refine NW.out.mono ?_); rintro e wy ⟨b, rfl, hb, hr⟩)
   have HR := qh (HG.out.new hr H.out.2.size)
   have HG := qh (HG.out.below hb)
   have H := qh (H.out.below hb)
   have HGO := qh (fun k e => HG.out.own.lt k e)
   clear hb hr NW z1 z3
   have Q := kid_facts (cs := #[.pointer (some ⟨b, 0, none⟩)]) wy.heap.size rfl H.out.2.size HG.out.own hxl (one_ptr (some ⟨b, 0, none⟩)) (by simp)
   go_wp2_with (at_builtin; refine wpList_append_lies _ rfl _ _ _ rfl w.heap.size 31 i0 _ 1 8 Tryz.underlying36 hi0 hz0 hz1 hz2 rfl (by omega) lv xs.length xs rfl Q.out.2.2.2.2 ⟨wy.heap.size, 0, none⟩ 1 1 #[.pointer (some ⟨b, 0, none⟩)].toList rfl rfl Q.out.1 Q.out.2.1 (by omega) Q.out.2.2.1 (by omega) Q.out.2.2.2.1 (wy.heap.size + 1) (by simp) ?_; intro g' cap w5 hown1 hgrow hor hlt5)
   have HG := qh (LG.step (HG.out.below ((Below.refl _ _).alloc (Nat.le_refl _) (.cells #[.pointer (some ⟨b, 0, none⟩)] 31))) (HR.out.below ((Below.refl _ _).alloc (Nat.le_refl _) (.cells #[.pointer (some ⟨b, 0, none⟩)] 31))) hown1 hgrow (hor.imp id fun e => e.trans (World.size_alloc _ _).symm))
   have H := qh ((H.out.alloc (.cells #[.pointer (some ⟨b, 0, none⟩)] 31)).gfar H0.out hgrow (fun k e => (HGO.out _ e).1))
   clear hown1 hgrow hor hlt5 HR HGO Q
   cases hT : isT L (j + 1) sCom with
   | true =>
     have hjn := isT_lt hT
     have D1 := qh (eat_yes HT.out.toks (i := j + 1) (by omega) sCom _ H.out.1 hT)
     have HS := qh (HS.out.trans (tok_y (t := tT sCom) hT))
     clear hT
     go_wp2_with fail
     ((with_reducible refine (D1.out).mono ?_); rintro e wz ⟨rfl, hb⟩)
     have H := qh (H.out.trans hb)
     have HG := qh (HG.out.grown hb.2 hbr0)
     clear hb D1
     go_wp2
     go_roundg (L.length + 1 - (j + 1 + 1))
     case rel => exact ⟨_, _, _, j + 1 + 1, f, rfl, by omega, by omega, by omega, by simp only [List.length_append, List.length_cons, List.length_nil]; omega, HS, H, HG⟩
     case measure => omega
   | false =>
     have D1 := qh (eat_no HT.out.toks (i := j + 1) (by omega) sCom _ H.out.1 hT)
     have HS := qh ((HS.out.trans (tok_n (t := tT sCom) hT)).trans ret_)
     clear hT
     go_wp2_with fail
     ((with_reducible refine (D1.out).mono ?_); rintro e wz ⟨rfl, hb⟩)
     have H := qh (H.out.trans hb)
     have HG := qh (HG.out.grown hb.2 hbr0)
     clear hb D1
     go_wp2
     go_ret
     rw [HS.out]
     exact ⟨_, _, rfl, H.out.1, H.out.2, HG.out⟩
  ·have D1 := qh (name_no HT.out.toks (i := j) (by omega) sNil _ H.out.1 (by simp [isThe, isNm, hk]))
   have HS := qh (show res = .error j from by rw [HS.out, namesF, tok_n (t := isNm) (by simp [isNm, hk])]; rfl)
   go_wp2_with fail
   ((with_reducible refine D1.out.mono ?_); rintro e w1 ⟨rfl, hb⟩)
   have H3 := qh (grown_trans H.out.2 hb)
   clear hb
   go_wp2
   refine ⟨rfl, ?_⟩
   rw [HS.out]
   exact ⟨rfl, H3.out⟩
end Go.Proofs.YtkemhmfdooghkaaGreatDoor.Un
end

section
namespace Go.Proofs.YtkemhmfdooghkaaGreatDoor.Un
open Go.RowKit
open Tr (Nd Fo RepS RepN Rep cellsN)
open Lx (Tk noTk Blk run_store_complexL TokAt)
open Fl
open Ex
open St (TkS g2_max Good2 isNm KG KN new_kg new_0 kid_facts one_ptr sSem sCol sEnd isWd6 ret_ bind_err need_n)
open De (LG new_leaf new_lg namesF sImport sModule run_field0)
attribute [local go_sem] run_store_complexL run_field0 run_field1 run_field3
theorem KG.done0 {B b : Nat} {w : World} {d : Nd} {sv : Value} {acc : List T1} {xs : List Value} (h : KG B B w b d sv acc xs) : RepS (fun y => B ≤ y) w (forest [(d, forest acc)]) [.pointer (some ⟨b, 0, none⟩)] := h.done (Nat.le_refl _)
theorem KG.f02 {B0 B b : Nat} {w : World} {d : Nd} {sv : Value} {acc : List T1} {xs : List Value} (h : KG B0 B w b d sv acc xs) : w.cell? ⟨b, 0, none⟩ = some (.int .u8 d.kind) ∧ w.frozen? ⟨b, 0, none⟩ = false ∧ w.cell? ⟨b, 2, none⟩ = some (.string d.name) ∧ w.frozen? ⟨b, 2, none⟩ = false := ⟨h.kn.blk.cell 0, h.kn.blk.frozen 0, h.kn.blk.cell 2, h.kn.blk.frozen 2⟩
theorem isThe_nm {t : PT} {b : Bool} (h : isThe sNil t = b) : isNm t = b := by rw [← h]; simp [isThe]
theorem fail_ {α : Type} {L : List PT} {i : Nat} : (failP : Par α) L i = .error i := rfl
def ImpR (w0 wB : World) (br : Nat) (A : Option Addr) (c : Nat) (L : List PT) (b : Nat) (d : Nd) (r : Except Nat (List T1 × Nat)) (e : Ending) (w' : World) : Prop := match r with
 | .ok (l, j) => e = .returned (.tuple #[]) ∧ PG w0 wB w' br A c L j ∧ ∃ sv xs, KG wB.heap.size wB.heap.size w' b d sv l xs
 | .error k => e = bad k ∧ wB.grownBy w' (some br)
set_option maxRecDepth 100000 in set_option maxHeartbeats 6400000 in
theorem imports_any {g : Nat} {w0 wB : World} {br c iB : Nat} {A : Option Addr} {L : List PT} (ht : TkS w0 br A L) (hg : L.length < g) (hwB : PInv w0 wB br A c L iB) (i : Nat) (hi : i ≤ L.length) (w : World) (hG : PG w0 wB w br A c L i)
 {b : Nat} {d : Nd} {sv : Value} {acc : List T1} {xs : List Value} (hK : KG wB.heap.size wB.heap.size w b d sv acc xs) (hac : acc.length ≤ i) :
 Calls Tryz.prog 36 #[.pointer (some ⟨br, 0, none⟩), .pointer (some ⟨b, 0, none⟩)] w (ImpR w0 wB br A c L b d (importsR g g acc L i)) := by
 have hbr0 := hwB.row.lt
 have hlen := ht.toks.len
 have HB0 := qh hwB
 have HT := qh ht
 have HNM := qh (fun (j : Nat) (hj : j ≤ L.length) (w : World) (h : PInv w0 w br A c L j) => names_any (c := c) ht hg j hj w h)
 obtain ⟨i0, hi0, hz0, hz1, hz2⟩ := info_parts infoN
 obtain ⟨res, hs0⟩ : ∃ r, r = importsR g g acc L i := ⟨_, rfl⟩
 rw [← hs0]
 have HS := qh hs0
 have HG0 := qh hG
 have HK0 := qh hK
 clear ht hs0 hwB hG hK
 go_enter Tryz.func36, Tryz.ntmps36
 go_wp2_with fail
 go_loopg [] (L.length + 1) (fun gh wr => ∃ (acc : List T1) (sv : Value) (xs : List Value) (j f : Nat), j ≤ L.length ∧ L.length + 1 - j ≤ gh ∧ L.length < j + f ∧ acc.length ≤ j ∧ Hid (res = importsR g f acc L j) ∧ Hid (PG w0 wB wr br A c L j) ∧ Hid (KG wB.heap.size wB.heap.size wr b d sv acc xs))
 case atStart => exact ⟨acc, sv, xs, i, g, hi, by omega, by omega, hac, HS, HG0, HK0⟩
 case round =>
  clear HS HG0 HK0
  obtain ⟨acc, sv, xs, j, f, hj, hgh, hf, hac, HS, HB, HK⟩ := hrel
  obtain ⟨f, rfl⟩ : ∃ f', f = f' + 1 := ⟨f - 1, by omega⟩
  have HO := qh HB.out.1
  have H := qh (PG.start HB.out.1)
  have hbo : br < wr.heap.size := HB.out.1.row.lt
  have n1 := now_any HT.out.toks (i := j) (by omega) _ H.out.1
  obtain ⟨k_p, p1, p2, q3_p, q4_p, t_p, n_p, e1, e2⟩ := val_form (tk L j)
  have HPp := qh (show (tk L j).2.1 = (p1, p2) by rw [e1])
  rw [e2] at n1
  have N1 := qh n1
  clear n1 e1 e2
  go_wp2_with fail
  ((with_reducible refine (N1.out).mono ?_); rintro e wx ⟨rfl, hb⟩)
  have H := qh (H.out.below hb)
  clear hb N1
  have NW := qh (new_0 (B0 := wr.heap.size) (w := wx) H.out.2.size 53 53 rfl p1 p2 sNil 0)
  go_wp2_with fail
  ((with_reducible refine NW.out.mono ?_); rintro e wy ⟨bi, sv0, xs0, rfl, hb, hk⟩)
  have HI := qh (hk.lower H.out.2.size)
  have H := qh (H.out.below hb)
  clear hb hk NW
  have HS := qh (show res = tokP (tT sFrom) (fun _ => tokP isNm (fun n => needF sImport (bindP (namesF g []) fun l => needF sSem (importsR g f (acc ++ [mk 54 (p1, p2) n.1.text 0 l])))) failP) (tokP (tT sImport) (fun _ => bindP (namesF g []) fun l => needF sSem (importsR g f (acc ++ [mk 53 (p1, p2) sNil 0 l]))) (retP acc)) L j from by rw [HS.out, importsR, ← HPp.out]; rfl)
  clear HPp
  cases hT : isT L j sFrom with
  | false =>
    have D1 := qh (eat_no HT.out.toks (i := j) (by omega) sFrom _ H.out.1 hT)
    have HS := qh (HS.out.trans (tok_n (t := tT sFrom) hT))
    clear hT
    go_wp2_with fail
    ((with_reducible refine (D1.out).mono ?_); rintro e wx ⟨rfl, hb⟩)
    have H := qh (H.out.trans hb)
    have HI := qh (HI.out.grown hb.2 hbo (Nat.le_refl _))
    clear hb D1
    cases hT : isT L j sImport with
    | false =>
      have D1 := qh (eat_no HT.out.toks (i := j) (by omega) sImport _ H.out.1 hT)
      have HS := qh ((HS.out.trans (tok_n (t := tT sImport) hT)).trans ret_)
      clear hT
      go_wp2_with fail
      ((with_reducible refine (D1.out).mono ?_); rintro e wx ⟨rfl, hb⟩)
      have H := qh (H.out.trans hb)
      have HI := qh (HI.out.grown hb.2 hbo (Nat.le_refl _))
      clear hb D1
      go_wp2
      go_end0
      rw [HS.out]
      exact ⟨rfl, ⟨H.out.1, grown_trans HB.out.2 H.out.2⟩, _, _, HK.out.grown H.out.2 hbr0 (Nat.le_refl _)⟩
    | true =>
      have hjn := isT_lt hT
      have D1 := qh (eat_yes HT.out.toks (i := j) (by omega) sImport _ H.out.1 hT)
      have HS := qh (HS.out.trans (tok_y (t := tT sImport) hT))
      clear hT
      go_wp2_with fail
      ((with_reducible refine (D1.out).mono ?_); rintro e wx ⟨rfl, hb⟩)
      have H := qh (H.out.trans hb)
      have HI := qh (HI.out.grown hb.2 hbo (Nat.le_refl _))
      clear hb D1
      have d1 : Calls _ _ _ _ (ListR _ _ _ _ _ _ _ (namesF g [] L (j + 1))) := HNM.out (j + 1) (by omega) _ H.out.1
      have hni := HI.out.kn.blk.lt
      cases hx : namesF g [] L (j + 1) with
      | error k9 =>
        rw [hx] at d1
        have D1 := qh d1
        have HS := qh (HS.out.trans (bind_err hx))
        clear d1 hx
        go_wp2_with fail
        ((with_reducible refine D1.out.mono ?_); rintro e w1 ⟨rfl, hb⟩)
        have H3 := qh (grown_trans HB.out.2 (grown_trans H.out.2 hb))
        clear hb
        go_wp2
        refine ⟨rfl, ?_⟩
        rw [HS.out]
        exact ⟨rfl, H3.out⟩
      | ok r =>
        obtain ⟨l, j5⟩ := r
        rw [hx] at d1
        have D1 := qh d1
        have HS := qh (HS.out.trans (bind_ok hx))
        have hj5 := g2_max (De.g2_names g []) L (j + 1)
        rw [hx] at hj5
        simp only [posE] at hj5
        clear d1 hx
        go_wp2_with fail
        ((with_reducible refine D1.out.mono ?_); rintro e w5 ⟨svl, xsl, rfl, hp, hgr, hl⟩)
        obtain ⟨A', c', rfl, _⟩ := hl.form
        have HI2 := qh (HI.out.grown hgr hbo (Nat.le_refl _))
        obtain ⟨m4, m4f, hbl4⟩ := HI2.out.kn.facts
        have HL := qh (KG.kids HI2.out hl hni (H.out.2.size) (H.out.2.size))
        have H := qh ((H.out.trans ⟨hp, hgr⟩).far HO.out (HI2.out.kn.low) 4 (.slice A' l.length c'))
        have HI := HL
        clear hp hgr hl D1 HI2
        cases hT : isT L (j5) sSem with
        | false =>
          have D1 := qh (need_no HT.out.toks (i := j5) (by omega) sSem _ H.out.1 hT)
          have HS := qh (HS.out.trans (need_n hT))
          go_wp2_with fail
          ((with_reducible refine D1.out.mono ?_); rintro e w1 ⟨rfl, hb⟩)
          have H3 := qh (grown_trans HB.out.2 (grown_trans H.out.2 hb))
          clear hb
          go_wp2
          refine ⟨rfl, ?_⟩
          rw [HS.out]
          exact ⟨rfl, H3.out⟩
        | true =>
          have hjn := isT_lt hT
          have D1 := qh (need_ok HT.out.toks (i := j5) (by omega) sSem _ H.out.1 hT)
          have HS := qh (HS.out.trans (need_y hT))
          clear hT
          go_wp2_with fail
          ((with_reducible refine (D1.out).mono ?_); rintro e wx ⟨rfl, hb⟩)
          have H := qh (H.out.trans hb)
          have HI := qh (HI.out.grown hb.2 hbo (Nat.le_refl _))
          clear hb D1
          have HW := qh (show PG w0 wB wx br A c L (j5 + 1) from ⟨H.out.1, grown_trans HB.out.2 H.out.2⟩)
          have HKX := qh (HK.out.grown H.out.2 hbr0 (Nat.le_refl _))
          have HY := qh (HK.out.new (KG.done0 HI.out) (Nat.le_refl _))
          have hxl : xs.length ≤ 1000000 := by have := HK.out.len; omega
          obtain ⟨t4, t4f, hbx⟩ := HKX.out.kn.facts
          have Q := kid_facts (cs := #[.pointer (some ⟨bi, 0, none⟩)]) wx.heap.size rfl (Nat.le_trans HKX.out.kn.low (Nat.le_of_lt hbx)) HKX.out.kn.own hxl (one_ptr (some ⟨bi, 0, none⟩)) (by simp)
          clear H HI HK HB
          go_wp2_with (at_builtin; refine wpList_append_lies _ rfl _ _ _ rfl wB.heap.size 31 i0 _ 1 8 Tryz.underlying36 hi0 hz0 hz1 hz2 rfl (by omega) sv xs.length xs rfl Q.out.2.2.2.2 ⟨wx.heap.size, 0, none⟩ 1 1 #[.pointer (some ⟨bi, 0, none⟩)].toList rfl rfl Q.out.1 Q.out.2.1 (by omega) Q.out.2.2.1 (by omega) Q.out.2.2.2.1 (wx.heap.size + 1) (by simp) ?_; intro g' cap w6 hown1 hgrow hor hlt5; obtain ⟨s4, s4f, hb5⟩ := KN.after (HKX.out.kn.below ((Below.refl _ _).alloc (Nat.le_refl _) _)) hgrow)
          have K2 := qh (KG.steps (l := [mk 53 (p1, p2) sNil 0 l]) (HKX.out.below ((Below.refl _ _).alloc (Nat.le_refl _) _)) (HY.out.below ((Below.refl _ _).alloc (Nat.le_refl _) _)) rfl rfl hown1 hgrow (hor.imp id fun e => e.trans (World.size_alloc _ _).symm))
          have H2 := qh (PG.hung HW.out HB0.out _ hgrow (fun k e => (HKX.out.kn.own.lt _ e).1) (u := .slice (some ⟨g', 0, none⟩) (xs.length + 1) cap) HKX.out.kn.low)
          clear hown1 hgrow hor hlt5
          go_roundg (L.length + 1 - (j5 + 1))
          case rel => exact ⟨_, _, _, j5 + 1, f, by omega, by omega, by omega, by simp only [List.length_append, List.length_cons, List.length_nil]; omega, HS, H2, K2⟩
          case measure => omega
  | true =>
    have hjn := isT_lt hT
    have D1 := qh (eat_yes HT.out.toks (i := j) (by omega) sFrom _ H.out.1 hT)
    have HS := qh (HS.out.trans (tok_y (t := tT sFrom) hT))
    clear hT
    go_wp2_with fail
    ((with_reducible refine (D1.out).mono ?_); rintro e wx ⟨rfl, hb⟩)
    have H := qh (H.out.trans hb)
    have HI := qh (HI.out.grown hb.2 hbo (Nat.le_refl _))
    clear hb D1
    cases hk : isThe sNil (tk L (j + 1)) with
    | false =>
      have D1 := qh (name_no HT.out.toks (i := j + 1) (by omega) sNil _ H.out.1 hk)
      have HS := qh ((HS.out.trans (tok_n (t := isNm) (isThe_nm hk))).trans fail_)
      clear hk
      go_wp2_with fail
      ((with_reducible refine D1.out.mono ?_); rintro e w1 ⟨rfl, hb⟩)
      have H3 := qh (grown_trans HB.out.2 (grown_trans H.out.2 hb))
      clear hb
      go_wp2
      refine ⟨rfl, ?_⟩
      rw [HS.out]
      exact ⟨rfl, H3.out⟩
    | true =>
      have hjn2 : j + 1 < L.length := by
       rcases Nat.lt_or_ge (j + 1) L.length with h | h
       ·exact h
       ·rw [tk_end h] at hk; cases hk
      have D1 := name_ok HT.out.toks (i := j + 1) (by omega) sNil _ H.out.1 hk
      obtain ⟨k_, o1, o2, q1, q2, t_, n_, e1, e2⟩ := val_form (tk L (j + 1))
      rw [e2] at D1
      have HS := qh (HS.out.trans (tok_y (t := isNm) (isThe_nm hk)))
      rw [e1] at HS
      have D1 := qh D1
      clear e1 e2 hk
      go_wp2_with fail
      ((with_reducible refine (D1.out).mono ?_); rintro e wx ⟨rfl, hb⟩)
      have H := qh (H.out.trans hb)
      have HI := qh (HI.out.grown hb.2 hbo (Nat.le_refl _))
      clear hb D1
      obtain ⟨z0, z0f, z2, z2f⟩ := KG.f02 HI.out
      have HI2 := qh (KG.cell_set HI.out 0 (.int .u8 54) ⟨54, (p1, p2), sNil, 0⟩ rfl)
      have HI2 := qh (KG.cell_set HI2.out 2 (.string t_) ⟨54, (p1, p2), t_, 0⟩ rfl)
      have H := qh ((H.out.far HO.out HI.out.kn.low 0 (.int .u8 54)).far HO.out HI.out.kn.low 2 (.string t_))
      have HI := HI2
      clear HI2
      cases hT : isT L (j + 1 + 1) sImport with
      | false =>
        have D1 := qh (need_no HT.out.toks (i := j + 1 + 1) (by omega) sImport _ H.out.1 hT)
        have HS := qh (HS.out.trans (need_n hT))
        go_wp2_with fail
        ((with_reducible refine D1.out.mono ?_); rintro e w1 ⟨rfl, hb⟩)
        have H3 := qh (grown_trans HB.out.2 (grown_trans H.out.2 hb))
        clear hb
        go_wp2
        refine ⟨rfl, ?_⟩
        rw [HS.out]
        exact ⟨rfl, H3.out⟩
      | true =>
        have hjn := isT_lt hT
        have D1 := qh (need_ok HT.out.toks (i := j + 1 + 1) (by omega) sImport _ H.out.1 hT)
        have HS := qh (HS.out.trans (need_y hT))
        clear hT
        go_wp2_with fail
        ((with_reducible refine (D1.out).mono ?_); rintro e wx ⟨rfl, hb⟩)
        have H := qh (H.out.trans hb)
        have HI := qh (HI.out.grown hb.2 hbo (Nat.le_refl _))
        clear hb D1
        have d1 : Calls _ _ _ _ (ListR _ _ _ _ _ _ _ (namesF g [] L (j + 1 + 1 + 1))) := HNM.out (j + 1 + 1 + 1) (by omega) _ H.out.1
        have hni := HI.out.kn.blk.lt
        cases hx : namesF g [] L (j + 1 + 1 + 1) with
        | error k9 =>
          rw [hx] at d1
          have D1 := qh d1
          have HS := qh (HS.out.trans (bind_err hx))
          clear d1 hx
          go_wp2_with fail
          ((with_reducible refine D1.out.mono ?_); rintro e w1 ⟨rfl, hb⟩)
          have H3 := qh (grown_trans HB.out.2 (grown_trans H.out.2 hb))
          clear hb
          go_wp2
          refine ⟨rfl, ?_⟩
          rw [HS.out]
          exact ⟨rfl, H3.out⟩
        | ok r =>
          obtain ⟨l, j5⟩ := r
          rw [hx] at d1
          have D1 := qh d1
          have HS := qh (HS.out.trans (bind_ok hx))
          have hj5 := g2_max (De.g2_names g []) L (j + 1 + 1 + 1)
          rw [hx] at hj5
          simp only [posE] at hj5
          clear d1 hx
          go_wp2_with fail
          ((with_reducible refine D1.out.mono ?_); rintro e w5 ⟨svl, xsl, rfl, hp, hgr, hl⟩)
          obtain ⟨A', c', rfl, _⟩ := hl.form
          have HI2 := qh (HI.out.grown hgr hbo (Nat.le_refl _))
          obtain ⟨m4, m4f, hbl4⟩ := HI2.out.kn.facts
          have HL := qh (KG.kids HI2.out hl hni (H.out.2.size) (H.out.2.size))
          have H := qh ((H.out.trans ⟨hp, hgr⟩).far HO.out (HI2.out.kn.low) 4 (.slice A' l.length c'))
          have HI := HL
          clear hp hgr hl D1 HI2
          cases hT : isT L (j5) sSem with
          | false =>
            have D1 := qh (need_no HT.out.toks (i := j5) (by omega) sSem _ H.out.1 hT)
            have HS := qh (HS.out.trans (need_n hT))
            go_wp2_with fail
            ((with_reducible refine D1.out.mono ?_); rintro e w1 ⟨rfl, hb⟩)
            have H3 := qh (grown_trans HB.out.2 (grown_trans H.out.2 hb))
            clear hb
            go_wp2
            refine ⟨rfl, ?_⟩
            rw [HS.out]
            exact ⟨rfl, H3.out⟩
          | true =>
            have hjn := isT_lt hT
            have D1 := qh (need_ok HT.out.toks (i := j5) (by omega) sSem _ H.out.1 hT)
            have HS := qh (HS.out.trans (need_y hT))
            clear hT
            go_wp2_with fail
            ((with_reducible refine (D1.out).mono ?_); rintro e wx ⟨rfl, hb⟩)
            have H := qh (H.out.trans hb)
            have HI := qh (HI.out.grown hb.2 hbo (Nat.le_refl _))
            clear hb D1
            have HW := qh (show PG w0 wB wx br A c L (j5 + 1) from ⟨H.out.1, grown_trans HB.out.2 H.out.2⟩)
            have HKX := qh (HK.out.grown H.out.2 hbr0 (Nat.le_refl _))
            have HY := qh (HK.out.new (KG.done0 HI.out) (Nat.le_refl _))
            have hxl : xs.length ≤ 1000000 := by have := HK.out.len; omega
            obtain ⟨t4, t4f, hbx⟩ := HKX.out.kn.facts
            have Q := kid_facts (cs := #[.pointer (some ⟨bi, 0, none⟩)]) wx.heap.size rfl (Nat.le_trans HKX.out.kn.low (Nat.le_of_lt hbx)) HKX.out.kn.own hxl (one_ptr (some ⟨bi, 0, none⟩)) (by simp)
            clear H HI HK HB
            go_wp2_with (at_builtin; refine wpList_append_lies _ rfl _ _ _ rfl wB.heap.size 31 i0 _ 1 8 Tryz.underlying36 hi0 hz0 hz1 hz2 rfl (by omega) sv xs.length xs rfl Q.out.2.2.2.2 ⟨wx.heap.size, 0, none⟩ 1 1 #[.pointer (some ⟨bi, 0, none⟩)].toList rfl rfl Q.out.1 Q.out.2.1 (by omega) Q.out.2.2.1 (by omega) Q.out.2.2.2.1 (wx.heap.size + 1) (by simp) ?_; intro g' cap w6 hown1 hgrow hor hlt5; obtain ⟨s4, s4f, hb5⟩ := KN.after (HKX.out.kn.below ((Below.refl _ _).alloc (Nat.le_refl _) _)) hgrow)
            have K2 := qh (KG.steps (l := [mk 54 (p1, p2) t_ 0 l]) (HKX.out.below ((Below.refl _ _).alloc (Nat.le_refl _) _)) (HY.out.below ((Below.refl _ _).alloc (Nat.le_refl _) _)) rfl rfl hown1 hgrow (hor.imp id fun e => e.trans (World.size_alloc _ _).symm))
            have H2 := qh (PG.hung HW.out HB0.out _ hgrow (fun k e => (HKX.out.kn.own.lt _ e).1) (u := .slice (some ⟨g', 0, none⟩) (xs.length + 1) cap) HKX.out.kn.low)
            clear hown1 hgrow hor hlt5
            go_roundg (L.length + 1 - (j5 + 1))
            case rel => exact ⟨_, _, _, j5 + 1, f, by omega, by omega, by omega, by simp only [List.length_append, List.length_cons, List.length_nil]; omega, HS, H2, K2⟩
            case measure => omega
end Go.Proofs.YtkemhmfdooghkaaGreatDoor.Un
end

section
namespace Go.Proofs.YtkemhmfdooghkaaGreatDoor.Un
open Go.RowKit
open Tr (Nd Fo RepS RepN Rep cellsN)
open Lx (Tk noTk Blk run_store_complexL TokAt)
open Fl
open Ex
open St (TkS g2_max Good2 isNm KG KN new_kg new_0 kid_facts one_ptr sSem sCol sEnd isWd6 ret_ bind_err need_n)
open De (LG new_leaf new_lg namesF sImport sModule run_field0)
attribute [local go_sem] run_store_complexL run_field0 run_field1 run_field3
def restR (acc : List T1) : Except Nat (T1 × Nat) → Except Nat (List T1 × Nat)
 | .ok (x, j) => .ok (acc ++ [x], j)
 | .error k => .error k
set_option maxRecDepth 100000 in set_option maxHeartbeats 6400000 in
theorem rest_any {w0 wB : World} {br c iB : Nat} {A : Option Addr} {L : List PT} (ht : TkS w0 br A L) (hwB : PInv w0 wB br A c L iB) (i : Nat) (hi : i ≤ 60000) (w : World) (hG : PG w0 wB w br A c L i)
 {b : Nat} {p : Nat × Nat} {nm : ByteArray} {sv : Value} {acc : List T1} {xs : List Value} (hK : KG wB.heap.size wB.heap.size w b ⟨52, p, nm, 0⟩ sv acc xs) (hac : acc.length ≤ 1000000)
 {r : Except Nat (T1 × Nat)} (HBk : ∀ wx, RowAt wx A L → Calls Tryz.prog 50 #[.slice A L.length c, .int .i64 i] wx (ParR wx r)) :
 Calls Tryz.prog 37 #[.pointer (some ⟨br, 0, none⟩), .pointer (some ⟨b, 0, none⟩)] w (ImpR w0 wB br A c L b ⟨52, p, nm, 0⟩ (restR acc r)) := by
 have hbr0 := hwB.row.lt
 have HB0 := qh hwB
 obtain ⟨i0, hi0, hz0, hz1, hz2⟩ := info_parts infoN
 have hxl : xs.length ≤ 1000000 := by have := hK.len; omega
 have d1 := HBk w.drew (row_at ht (hG.1.below ((Below.refl _ _).drew)))
 have hbo : br < w.heap.size := hG.1.row.lt
 have hwBs : wB.heap.size ≤ w.heap.size := hG.2.size
 have m0 : w.cell? ⟨br, 0, none⟩ = some (.slice A L.length c) := hG.1.row.cell 0
 obtain ⟨m1, f1, hlt⟩ := hG.1.at_
 obtain ⟨z0, z0f, _, _⟩ := KG.f02 hK
 obtain ⟨m4, m4f, hbl4⟩ := hK.kn.facts
 have H := qh hG
 have HK := qh hK
 clear hG hK HBk ht hwB
 cases r with
 | error k9 =>
   have D1 := qh d1
   clear d1
   go_enter Tryz.func37, Tryz.ntmps37
   go_wp2
   go_region_law (first
    | (go_simp; go_at_call 50; (with_reducible refine D1.out.mono ?_); rintro e x ⟨rfl, hb⟩; have HX := qh (H.out.below ((Below.refl _ _).drew.trans (hb.mono (Nat.le_refl _)))); clear hb))
   all_goals
    go_wp2
    exact ⟨rfl, rfl, HX.out.2⟩
 | ok r =>
   obtain ⟨y, j⟩ := r
   have D1 := qh d1
   clear d1
   go_enter Tryz.func37, Tryz.ntmps37
   go_wp2
   go_region_law (first
    | (go_simp; go_at_call 50; (with_reducible refine D1.out.mono ?_); rintro e x ⟨by_, rfl, hr, hb⟩; have hbb := (Below.refl _ _).drew.trans (hb.mono (Nat.le_refl _)); have HX := qh (H.out.below hbb); have HKX := qh (HK.out.below hbb); have HR := qh (show RepS (fun y => w.heap.size ≤ y) x _ _ from hr); clear hb hr hbb; obtain ⟨z1, zf1, hzl⟩ := HX.out.1.at_; obtain ⟨t4, t4f, hbx⟩ := HKX.out.kn.facts))
   all_goals
    have hnb : ¬ b = br := by have := HK.out.kn.low; omega
    have hnb2 : ¬ br = b := fun e => hnb e.symm
    have HW := qh (HX.out.set_ j)
    have HY := qh (HK.out.new (HR.out.keep (by rw [World.size_setCell]; exact Nat.le_refl _) (fun y hy _ => Below.heap_setCell _ ⟨br, 1, none⟩ (.int .i64 j) y (show y ≠ br by omega)) (fun y h _ => h)) (Nat.le_refl _))
    have HKX := qh (HKX.out.grown (Lx.grown_set x br 1 (.int .i64 j)) hbr0 (Nat.le_refl _))
    clear HX HR
    have hbx' := HKX.out.kn.blk.lt
    have Q := kid_facts (cs := #[.pointer (some ⟨by_, 0, none⟩)]) (W := (x.setCell ⟨br, 1, none⟩ (.int .i64 j))) x.heap.size (by rw [World.size_setCell]) (by have := HKX.out.kn.low; omega) HKX.out.kn.own hxl (one_ptr (some ⟨by_, 0, none⟩)) (by simp)
    go_wp2_with (at_builtin; refine wpList_append_lies _ rfl _ _ _ rfl wB.heap.size 31 i0 _ 1 8 Tryz.underlying36 hi0 hz0 hz1 hz2 rfl (by omega) sv xs.length xs rfl Q.out.2.2.2.2 ⟨x.heap.size, 0, none⟩ 1 1 #[.pointer (some ⟨by_, 0, none⟩)].toList rfl rfl Q.out.1 Q.out.2.1 (by omega) Q.out.2.2.1 (by omega) Q.out.2.2.2.1 (x.heap.size + 1) (by simp) ?_; intro g' cap w6 hown1 hgrow hor hlt5; obtain ⟨s4, s4f, hb5⟩ := KN.after (HKX.out.kn.below ((Below.refl _ _).alloc (Nat.le_refl _) _)) hgrow)
    have K2 := qh (KG.steps (l := [y]) (HKX.out.below ((Below.refl _ _).alloc (Nat.le_refl _) _)) (HY.out.below ((Below.refl _ _).alloc (Nat.le_refl _) _)) rfl rfl hown1 hgrow (hor.imp id fun e => e.trans (by simp only [World.size_alloc, World.size_setCell])))
    have H2 := qh (PG.hung HW.out HB0.out _ hgrow (fun k e => (HKX.out.kn.own.lt _ e).1) (u := .slice (some ⟨g', 0, none⟩) (xs.length + 1) cap) HKX.out.kn.low)
    clear hown1 hgrow hor hlt5
    go_wp2
    go_end0
    exact ⟨rfl, H2.out, _, _, K2.out⟩
end Go.Proofs.YtkemhmfdooghkaaGreatDoor.Un
end
