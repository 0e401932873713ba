/- A part of the proof: N9, U4. -/
import Derived.Test.YtkemhmfdooghkaaGreatDoorZ1
import Derived.Test.YtkemhmfdooghkaaGreatDoorZ26
import Derived.Test.YtkemhmfdooghkaaGreatDoorZ32
import Derived.Test.YtkemhmfdooghkaaGreatDoorZ5
import Derived.RegionTactic
import Derived.Test.YtkemhmfdooghkaaGreatDoorZ21
import Derived.Deep.AppendLies
import Derived.Deep.LoopGhost
set_option linter.unusedSimpArgs false
set_option linter.unusedVariables false

section
namespace Go.Proofs.YtkemhmfdooghkaaGreatDoor.Un
open Go.RowKit
open Tr (Nd Fo RepS RepN Rep cellsN)
open Lx (Tk noTk Blk run_store_complexL TokAt scanL scanF flat scanEnd at_ lex EnvS)
open Fl
open Ex
open St (TkS)
attribute [local go_sem] run_store_complexL run_field1 run_field3
theorem scanF_last : ∀ (f i : Nat) (s : List UInt8) (l : List Lx.Tok), scanF f i s = .ok l → ∃ (l' : List Lx.Tok) (j : Nat), l = l' ++ [(noTk, j, j)] := by
 intro f
 induction f with
 | zero => intro i s l h; cases h
 | succ f ih =>
   intro i s l h
   unfold scanF at h
   split at h
   ·injection h with h; exact ⟨[], i, h.symm⟩
   ·split at h
    ·cases h
    ·exact ih _ _ _ h
    ·rename_i t n _
     cases e : scanF f (i + n) (s.drop n) with
     | error k => rw [e] at h; cases h
     | ok l2 =>
       rw [e] at h
       injection h with h
       obtain ⟨l', j, rfl⟩ := ih _ _ _ e
       exact ⟨(t, i, i + n) :: l', j, h.symm⟩
theorem scan_of_lex {s : List UInt8} {L : List Tk} (h : lex s = some L) (hs : s.length ≤ 16384) : ∃ l, scanL s = .ok l ∧ l.map (·.1) = L ++ [noTk] := by
 rw [Lx.scan_lex hs] at h
 cases e : scanL s with
 | error k => rw [e] at h; cases h
 | ok l =>
   rw [e] at h
   injection h with h
   have e2 := e
   unfold scanL at e2
   rw [if_neg (by omega)] at e2
   obtain ⟨l', j, rfl⟩ := scanF_last _ _ _ _ e2
   refine ⟨_, rfl, ?_⟩
   rw [List.dropLast_concat] at h
   rw [List.map_append, h]
   rfl
def rowT (s : List UInt8) (l : List Lx.Tok) : List PT := l.map fun x => (x.1, at_ s x.2.1, at_ s x.2.2)
theorem flat_rowT (s : List UInt8) (l : List Lx.Tok) : flatP (rowT s l) = flat s l := by
 unfold flatP rowT flat
 rw [List.flatMap_map]
 rfl
theorem rowT_len (s : List UInt8) (l : List Lx.Tok) : (rowT s l).length = l.length := List.length_map _
theorem rowT_map (s : List UInt8) (l : List Lx.Tok) : (rowT s l).map (·.1) = l.map (·.1) := by unfold rowT; rw [List.map_map]; rfl
def ReadR (w : World) (L : List PT) (r : Except Nat (T1 × Nat)) (e : Ending) (w' : World) : Prop := match r with
 | .ok (x, _) => ∃ b, e = .returned (.tuple #[.pointer (some ⟨b, 0, none⟩), .complex .f64 0 0, .int .i64 0]) ∧ RepS (fun y => w.heap.size ≤ y) w' (.node x.1 x.2 .no) [.pointer (some ⟨b, 0, none⟩)] ∧ Below w.heap.size w w'
 | .error k => e = .returned (.tuple #[.pointer none, .complex .f64 (fl (tk L k).2.1.1) (fl (tk L k).2.1.2), .int .i64 60]) ∧ Below w.heap.size w w'
theorem row_pos {w : World} {A : Option Addr} {L : List PT} (h : RowAt w A L) {k : Nat} (hk : k < L.length) : ∃ g off, A = some ⟨g, off, none⟩ ∧ w.cell? ⟨g, off + k * 5 + 1, none⟩ = some (.complex .f64 (fl (tk L k).2.1.1) (fl (tk L k).2.1.2)) := by
 obtain ⟨⟨g, off, sp⟩, e, hlt, hc⟩ := h.reads.2 (by omega)
 have hl := flatP_len L
 have hget : ∀ m, m < L.length * 5 → ∃ u, (flatP L)[m]? = some u := fun m hm => ⟨(flatP L)[m]'(by omega), List.getElem?_eq_getElem (by omega)⟩
 have hs : sp = none := by
  obtain ⟨u, hu⟩ := hget 0 (by omega)
  have := World.cell?_spot (hc 0 u hu)
  simpa [Addr.add] using this
 subst hs
 refine ⟨g, off, e, ?_⟩
 have ht : tk L k = L[k] := by unfold tk; rw [List.getElem?_eq_getElem hk]; rfl
 have h1 := flatP_at L k 1 hk (by omega)
 rw [show (PT.vals L[k])[1]? = some (.complex .f64 (fl (tk L k).2.1.1) (fl (tk L k).2.1.2)) from by rw [ht]; rfl] at h1
 have := hc _ _ h1
 rw [show (⟨g, off, none⟩ : Addr).add (k * 5 + 1) = ⟨g, off + k * 5 + 1, none⟩ by unfold Addr.add; split <;> simp_all [Nat.add_assoc]] at this
 exact this
set_option maxRecDepth 100000 in set_option maxHeartbeats 6400000 in
theorem Read_ok (s : ByteArray) {w : World} (E : EnvS w) {l : List Lx.Tok} (hl : scanL s.data.toList = .ok l) {r : Except Nat (T1 × Nat)} (hr : ∀ k, r = .error k → k < l.length)
 (HP : ∀ w A c, RowAt w A (rowT s.data.toList l) → Calls Tryz.prog 10 #[.slice A (rowT s.data.toList l).length c] w (ParU w r)) :
 Calls Tryz.prog 13 #[.string s] w (ReadR w (rowT s.data.toList l) r) := by
 have hll := Ex.scanL_len hl
 have hsz : s.data.toList.length = s.size := by simp
 have d1 := Lx.Scan_any s (by omega) E
 rw [hl] at d1
 have D1 := qh d1
 have hP := qh HP
 have HR := qh hr
 have hrl := rowT_len s.data.toList l
 have HFL := qh (flat_rowT s.data.toList l)
 clear d1 HP hr hl E
 go_enter Tryz.func13, Tryz.ntmps13
 go_wp2_with fail
 ((with_reducible refine D1.out.mono ?_); rintro e w1 ⟨g, cap, rfl, hown, hb⟩)
 have hlt := (hown.lt g rfl).2
 have HROW := qh (show RowAt w1 (some ⟨g, 0, none⟩) (rowT s.data.toList l) from ⟨by rw [HFL.out, hrl]; exact Reads.of_own hown, (fun ad e => by injection e with e; subst e; exact hlt), by omega⟩)
 have HB := qh hb
 clear hb hown D1 HFL
 cases r with
 | ok r =>
   obtain ⟨x, j⟩ := r
   have D2 := qh (hrl ▸ hP.out w1 _ cap HROW.out)
   clear hP
   go_wp2_with fail
   ((with_reducible refine D2.out.mono ?_); rintro e w2 ⟨b, rfl, hr, hb⟩)
   have HB2 := qh (HB.out.trans (hb.mono HB.out.size))
   have HX := qh (hr.more (S' := fun y => w.heap.size ≤ y) fun y hy _ => Nat.le_trans HB.out.size hy)
   clear hb hr D2
   go_wp2
   go_ret3
   exact ⟨b, rfl, HX.out, HB2.out⟩
 | error k =>
   have D2 := qh (hrl ▸ hP.out w1 _ cap HROW.out)
   have hk := HR.out k rfl
   clear hP HR
   go_wp2_with fail
   ((with_reducible refine D2.out.mono ?_); rintro e w2 ⟨rfl, hb⟩)
   have HB2 := qh (HB.out.trans (hb.mono HB.out.size))
   obtain ⟨g', off, e0, c1⟩ := row_pos (HROW.out.below hb) (k := k) (by omega)
   injection e0 with e0; injection e0 with e1 e2 e3
   subst e1 e2
   clear hb D2 e3
   simp only [Nat.zero_add] at c1
   have hIW : IntKind.i64.wrap ((l.length : Int) - 1) = (l.length : Int) - 1 := IntWalk.i64_in _ (by omega)
   have hk1 : (k : Int) ≤ (l.length : Int) - 1 := by omega
   have hk2 : ¬ ((l.length : Int) - 1 < (k : Int)) := by omega
   have hk3 : (k : Int) < (l.length : Int) := by omega
   have hk4 : ¬ ((k : Int) < 0) := by omega
   have hmin : (min (k : Int) ((l.length : Int) - 1)).toNat = k := by omega
   have hk5 : ¬ (min (k : Int) ((l.length : Int) - 1) < 0) := by omega
   have hk6 : min (k : Int) ((l.length : Int) - 1) < (l.length : Int) := by omega
   go_wp2
   go_region
   all_goals
    go_wp2
    go_ret3
    exact ⟨rfl, HB2.out.drew⟩
end Go.Proofs.YtkemhmfdooghkaaGreatDoor.Un
end

section
namespace Go.Proofs.YtkemhmfdooghkaaGreatDoor.St
open Go.RowKit
open Tr (Nd Fo RepS RepN Rep cellsN)
open Lx (Tk noTk Blk run_store_complexL TokAt)
open Fl
open Ex
attribute [local go_sem] run_store_complexL run_field1 run_field3
theorem run_field0 (v0 v1 v2 v3 v4 : Value) (w : World) : (Instr.field 40 (.agg #[v0, v1, v2, v3, v4]) 0).run Tryz.prog w = .ok v0 w := by kernel_rfl
attribute [local go_sem] run_field0
theorem retOut_yes {t : PT} {s : ByteArray} (hs : s ∈ [sSem, sBar, sEnd, sElse, sElsif, sUntil]) (h : tT s t = true) : retOut t = true := by
 simp only [List.mem_cons, List.not_mem_nil, or_false] at hs
 unfold retOut
 rcases hs with rfl | rfl | rfl | rfl | rfl | rfl <;> rw [h] <;> simp
theorem retOut_no {t : PT} (h0 : decide (t.1.kind = 0) = false) (h : ∀ s ∈ [sSem, sBar, sEnd, sElse, sElsif, sUntil], tT s t = false) : retOut t = false := by
 unfold retOut
 rw [h0, h sSem (by simp), h sBar (by simp), h sEnd (by simp), h sElse (by simp), h sElsif (by simp), h sUntil (by simp)]
 rfl
set_option maxRecDepth 100000 in set_option maxHeartbeats 6400000 in
theorem returns_any {g : Nat} {w0 : World} {br c : Nat} {A : Option Addr} {L : List PT} (ht : TkS w0 br A L) (hg : L.length < g) {bd : Par T1} {lo : Nat} (i : Nat) (hlo : lo ≤ i) (hi : i ≤ L.length) (p1 p2 : Nat) (w : World) (h : PInv w0 w br A c L i) :
 Calls Tryz.prog 116 #[.pointer (some ⟨br, 0, none⟩), .complex .f64 (fl p1) (fl p2)] w (TreeR w.heap.size w0 w br A c L (returnS g (p1, p2) L i)) := by
 have hbr0 := h.row.lt
 have hlen := ht.toks.len
 have H0 := qh h
 have H := qh (PG.start h)
 have HT := qh ht
 have ME := qh (fun j => g2_max (g2_expr (g := g)) L j)
 have MD := qh (fun j => g2_max (g2_design (g := g)) L j)
 have ML := qh (fun j => g2_max (g2_labels (g := g)) L j)
 have HE := qh (fun j hj w h => expr_s (c := c) ht hg j hj w h)
 have HD := qh (fun j hj w h => of_D (c := c) ht hg j hj w h)
 have HL := qh (fun j hj w h => of_L (c := c) ht hg j hj w h)
 obtain ⟨res, hs0⟩ : ∃ r, r = returnS g (p1, p2) L i := ⟨_, rfl⟩
 rw [← hs0]
 have HS := qh hs0
 clear h ht hs0
 go_enter Tryz.func116, Tryz.ntmps116
 have NW := qh (new_0 (B0 := w.heap.size) (w := w) (Nat.le_refl _) 70 70 rfl p1 p2 sNil 0)
 have HS1 := qh (show res = (if retOut (tk L i) = true then retP (mk 70 (p1, p2) sNil 0 []) else bindP (exprF g) fun x => retP (mk 70 (p1, p2) sNil 0 [x])) L i from HS.out)
 obtain ⟨i0, hi0, hz0, hz1, hz2⟩ := info_parts infoN
 clear HS
 go_wp2_with fail
 ((with_reducible refine NW.out.mono ?_); rintro e wx ⟨b, sv0, xs0, rfl, hb, hk⟩)
 have H := qh (H.out.below hb)
 have HK := qh hk
 clear hb hk NW
 have n1 := now_any HT.out.toks (i := i) (by omega) _ H.out.1
 obtain ⟨k, q1, q2, q3, q4, t, n, e1, e2⟩ := val_form (tk L i)
 have HKI := qh (show (tk L i).1.kind = k by rw [e1])
 rw [e2] at n1
 have N1 := qh n1
 clear n1 e1 e2
 by_cases hk0 : k = 0
 ·subst hk0
  have HS := qh (show res = .ok (mk 70 (p1, p2) sNil 0 [], i) from HS1.out.trans (by rw [if_pos (show retOut (tk L i) = true by unfold retOut; rw [HKI.out]; rfl)]; rfl))
  clear HS1
  go_wp2_with fail
  ((with_reducible refine (N1.out).mono ?_); rintro e wx ⟨rfl, hb⟩)
  have H := qh (H.out.below hb)
  have HK := qh (HK.out.below hb)
  clear hb
  clear N1
  go_wp2
  go_ret
  rw [HS.out]
  exact ⟨b, rfl, H.out.1, H.out.2, HK.out.done (Nat.le_refl _)⟩
 ·have k0 : ((k : Int) == 0) = false := by simp only [beq_eq_false_iff_ne, ne_eq]; omega
  have HNK := qh (show decide ((tk L i).1.kind = 0) = false by rw [HKI.out]; simpa using hk0)
  go_wp2_with fail
  ((with_reducible refine (N1.out).mono ?_); rintro e wx ⟨rfl, hb⟩)
  have H := qh (H.out.below hb)
  have HK := qh (HK.out.below hb)
  clear hb
  clear N1
  have hbw : b < wx.heap.size := HK.out.kn.blk.lt
  have O0 := qh (Lx.Blk.new wx 9 ([sSem, sBar, sEnd, sElse, sElsif, sUntil].map Value.string).toArray)
  have HKA := qh (HK.out.below ((Below.refl _ _).alloc (Nat.le_refl _) (.cells ([sSem, sBar, sEnd, sElse, sElsif, sUntil].map Value.string).toArray 9)))
  have HA := qh (H.out.alloc (.cells ([sSem, sBar, sEnd, sElse, sElsif, sUntil].map Value.string).toArray 9))
  clear H HK
  go_wp2
  go_loopw [17] (fun iv wr => ∃ m : Nat, m ≤ 6 ∧ iv = .int .i64 m ∧ Hid (Lx.Blk wr wx.heap.size 9 ([sSem, sBar, sEnd, sElse, sElsif, sUntil].map Value.string).toArray) ∧ Hid (PG w0 w wr br A c L i) ∧ Hid (KG w.heap.size w.heap.size wr b ⟨70, (p1, p2), sNil, 0⟩ sv0 [] xs0) ∧ Hid (∀ s ∈ [sSem, sBar, sEnd, sElse, sElsif, sUntil].take m, isT L i s = false)) (fun iv _ => 6 - (intOf iv).toNat)
  case atStart => exact ⟨0, by omega, rfl, O0, HA, HKA, qh (fun s hs => by simp at hs)⟩
  case round =>
   clear O0 HA HKA
   obtain ⟨m, hm, rfl, O0, H, HK, HA⟩ := hrel
   have hxl : xs0.length ≤ 1000000 := by have := HK.out.len; simp at this; simp [this]
   obtain ⟨ol, hol⟩ : ∃ ol : List ByteArray, ol = [sSem, sBar, sEnd, sElse, sElsif, sUntil] := ⟨_, rfl⟩
   have O0 := qh (show Lx.Blk wr wx.heap.size 9 (ol.map Value.string).toArray from hol ▸ O0.out)
   have HA := qh (show ∀ s ∈ ol.take m, isT L i s = false from hol ▸ HA.out)
   have hl6 : ol.length = 6 := by rw [hol]; rfl
   have HOL := qh hol
   clear hol
   by_cases hlt : m < 6
   ·have y0 : (0 : Int) ≤ (m : Int) := by omega
    have y1 : (m : Int) < 6 := by omega
    have hlt' : m < ol.length := by omega
    have co : wr.cell? ⟨wx.heap.size, m, none⟩ = some (.string ol[m]) := by rw [O0.out.cell m]; simp [hlt']
    have hbl : wx.heap.size < wr.heap.size := O0.out.lt
    have is1 := is_any HT.out.toks (i := i) (by omega) ol[m] wr H.out.1
    cases hT : isT L i ol[m] with
    | true =>
      rw [hT] at is1
      have IS := qh is1
      have HS := qh (show res = .ok (mk 70 (p1, p2) sNil 0 [], i) from HS1.out.trans (by rw [if_pos (retOut_yes (HOL.out ▸ List.getElem_mem hlt') hT)]; rfl))
      clear is1 HS1
      go_wp2_with fail
      ((with_reducible refine (IS.out).mono ?_); rintro e wy ⟨rfl, hb⟩)
      have H := qh (H.out.below hb)
      have HK := qh (HK.out.below hb)
      clear hb
      clear IS
      go_wp2
      go_ret
      rw [HS.out]
      exact ⟨b, rfl, H.out.1, H.out.2, HK.out.done (Nat.le_refl _)⟩
    | false =>
      rw [hT] at is1
      have IS := qh is1
      have HT2 := qh hT
      clear is1 hT
      go_wp2_with fail
      ((with_reducible refine IS.out.mono ?_); rintro e wy ⟨rfl, hb⟩)
      have H := qh (H.out.below hb)
      have HK := qh (HK.out.below hb)
      have O0 := qh (O0.out.below hb hbl)
      clear hb IS
      go_wp2
      go_roundw
      case rel =>
       refine ⟨m + 1, by omega, by go_num, qh (HOL.out ▸ O0.out), H, HK, qh ?_⟩
       rw [← HOL.out]
       intro s hs
       rw [List.take_succ_eq_append_getElem hlt'] at hs
       rcases List.mem_append.1 hs with hs | hs
       ·exact HA.out s hs
       ·simp only [List.mem_singleton] at hs; subst hs; exact HT2.out
      case measure => simp [intOf]; omega
   ·have hm6 : m = 6 := by omega
    subst hm6
    have HAA : ∀ s ∈ [sSem, sBar, sEnd, sElse, sElsif, sUntil], isT L i s = false := by
     have := HA.out
     rw [← hl6, List.take_length, HOL.out] at this
     exact this
    have HS := qh (show res = bindP (exprF g) (fun x => retP (mk 70 (p1, p2) sNil 0 [x])) L i from HS1.out.trans (by rw [if_neg (by rw [retOut_no HNK.out HAA]; simp)]))
    clear HS1 HAA HA O0 HOL hl6
    have d1 := HE.out i (by omega) wr.drew (H.out.below ((Below.refl _ _).drew)).1
    cases hx : exprF g L i with
    | error k9 =>
      rw [hx] at d1
      have D1 := qh d1
      have HS := qh (HS.out.trans (bind_err hx))
      clear d1 hx
      have HD_ := qh (H.out.below ((Below.refl _ _).drew))
      obtain ⟨m4, m4f, hbl4⟩ := HK.out.kn.facts
      have D1 := qh (D1.out.mono (R' := fun e w' => (∃ p, e = .returned (.pointer p) ∧ Hid False) ∨ (e = bad k9 ∧ wr.drew.grownBy w' (some br))) fun e w' h => .inr h)
      go_wp2
      go_region_law (first
       | (go_simp; go_at_call 133; (with_reducible refine D1.out.mono ?_); rintro e x (⟨p_, rfl, hF⟩ | ⟨rfl, hb⟩); (case' inr => (refine ⟨rfl, ?_⟩; rw [HS.out]; exact ⟨rfl, grown_trans HD_.out.2 hb⟩)); have t4 : x.cell? ⟨b, 4, none⟩ = some sv0 := hF.out.elim; have t4f : x.frozen? ⟨b, 4, none⟩ = false := hF.out.elim; have hbx : b < x.heap.size := hF.out.elim)
       | (refine step_append_lies _ (by rfl) _ _ _ (by rfl) w.heap.size 31 i0 _ 1 8 Tryz.underlying36 hi0 hz0 hz1 hz2 rfl (by omega) sv0 xs0.length xs0 hF.out.elim hF.out.elim ⟨0, 0, none⟩ 1 1 [] hF.out.elim hF.out.elim hF.out.elim hF.out.elim (by omega) hF.out.elim hF.out.elim hF.out.elim 0 hF.out.elim ?_; intro g' cap w5 hown1 hgrow hor hlt5; have s4 : w5.cell? ⟨b, 4, none⟩ = some sv0 := hF.out.elim; have s4f : w5.frozen? ⟨b, 4, none⟩ = false := hF.out.elim; have hb5 : b < w5.heap.size := hF.out.elim; clear hown1 hgrow hor hlt5))
      all_goals exact hF.out.elim
    | ok r =>
      obtain ⟨x1, j1⟩ := r
      rw [hx] at d1
      have D1 := qh d1
      have HS := qh ((HS.out.trans (bind_ok hx)).trans ret_)
      clear d1 hx
      have HD_ := qh (H.out.below ((Below.refl _ _).drew))
      have HKD := qh (HK.out.below ((Below.refl _ _).drew))
      obtain ⟨m4, m4f, hbl4⟩ := HK.out.kn.facts
      go_wp2
      go_region_law (first
       | (go_simp; go_at_call 133; (with_reducible refine D1.out.mono ?_); rintro e x ⟨by_, rfl, hp, hgr, hr⟩; have HKX := qh (HKD.out.grown hgr hbr0 (Nat.le_refl _)); have HY := qh (HKD.out.new hr (Nat.le_refl _)); have HX_ := qh (HD_.out.trans ⟨hp, hgr⟩); clear hp hgr hr; obtain ⟨t4, t4f, hbx⟩ := HKX.out.kn.facts; have Q := kid_facts (cs := #[.pointer (some ⟨by_, 0, none⟩)]) x.heap.size rfl (Nat.le_trans HKX.out.kn.low (Nat.le_of_lt hbx)) HKX.out.kn.own hxl (one_ptr (some ⟨by_, 0, none⟩)) (by simp))
       | (refine step_append_lies _ (by rfl) _ _ _ (by rfl) w.heap.size 31 i0 _ 1 8 Tryz.underlying36 hi0 hz0 hz1 hz2 rfl (by omega) sv0 xs0.length xs0 (by rfl) Q.out.2.2.2.2 ⟨x.heap.size, 0, none⟩ 1 1 #[.pointer (some ⟨by_, 0, none⟩)].toList (by rfl) (by rfl) Q.out.1 Q.out.2.1 (by omega) Q.out.2.2.1 (by omega) Q.out.2.2.2.1 (x.heap.size + 1) (by simp) ?_; intro g' cap w5 hown1 hgrow hor hlt5; obtain ⟨s4, s4f, hb5⟩ := KN.after (HKX.out.kn.below ((Below.refl _ _).alloc (Nat.le_refl _) _)) hgrow; have K2 := qh (KG.steps (l := [x1]) (HKX.out.below ((Below.refl _ _).alloc (Nat.le_refl _) _)) (HY.out.below ((Below.refl _ _).alloc (Nat.le_refl _) _)) rfl rfl hown1 hgrow (hor.imp id fun e => e.trans (World.size_alloc _ _).symm)); have H2 := qh (PG.hung HX_.out H0.out _ hgrow (fun k e => (HKX.out.kn.own.lt _ e).1) (u := .slice (some ⟨g', 0, none⟩) (xs0.length + 1) cap) HKX.out.kn.low); clear hown1 hgrow hor hlt5))
      all_goals
       go_wp2
       go_ret
       rw [HS.out]
       exact ⟨b, rfl, H2.out.1, H2.out.2, K2.out.done (Nat.le_refl _)⟩
theorem between_no {e : Par T1} {q : List T1 → Par T1} {g : Nat} {L : List PT} {i : Nat} (h : isT L i sRap = false) : bindP (betweenF e g sRap) q L i = bindP e (fun x => bindP (manyRF e g [x]) fun l => needF sRap (q l)) L i := by
 unfold betweenF bindP
 rw [tok_n h]
 unfold manyF bindP
 cases e L i with
 | error k => rfl
 | ok r =>
   obtain ⟨x, j⟩ := r
   dsimp only
   cases manyRF e g [x] L j with
   | error k => rfl
   | ok r =>
     obtain ⟨l, j2⟩ := r
     dsimp only
     by_cases hT : isT L j2 sRap = true
     ·rw [need_y hT, need_y hT]; rfl
     ·rw [need_n (by simpa using hT), need_n (by simpa using hT)]
theorem between_yes {e : Par T1} {q : List T1 → Par T1} {g : Nat} {L : List PT} {i : Nat} (h : isT L i sRap = true) : bindP (betweenF e g sRap) q L i = q [] L (i + 1) := by
 unfold betweenF bindP
 rw [tok_y h]
 rfl
theorem many_y {e : Par T1} {q : List T1 → Par T1} {f : Nat} {acc : List T1} {L : List PT} {i : Nat} (h : isT L i sCom = true) : bindP (manyRF e (f + 1) acc) q L i = bindP e (fun y => bindP (manyRF e f (acc ++ [y])) q) L (i + 1) := by
 unfold bindP
 rw [manyRF, tok_y h]
 unfold bindP
 cases e L (i + 1) with
 | error k => rfl
 | ok r => rfl
theorem many_n {e : Par T1} {q : List T1 → Par T1} {f : Nat} {acc : List T1} {L : List PT} {i : Nat} (h : isT L i sCom = false) : bindP (manyRF e (f + 1) acc) q L i = q acc L i := by
 unfold bindP
 rw [manyRF, tok_n h]
 rfl
theorem PInv.atw {w0 w : World} {br c i : Nat} {A : Option Addr} {L : List PT} (h : PInv w0 w br A c L i) : atW w br = i := by
 unfold atW
 rw [show w.cell? ⟨br, 1, none⟩ = some (.int .i64 i) from h.row.cell 1]
 rfl
def LK (w0 w : World) (br : Nat) (A : Option Addr) (c : Nat) (L : List PT) (b : Nat) (d : Nd) (P : List T1 → Nat → Prop) (wr : World) : Prop :=
 ∃ (acc : List T1) (sv : Value) (xs : List Value) (j : Nat), j ≤ L.length ∧ acc.length ≤ 2 * j + 4 ∧ PG w0 w wr br A c L j ∧ KG w.heap.size w.heap.size wr b d sv acc xs ∧ P acc j
set_option maxRecDepth 100000 in set_option maxHeartbeats 6400000 in
theorem plain_any {g : Nat} {w0 : World} {br c : Nat} {A : Option Addr} {L : List PT} (ht : TkS w0 br A L) (hg : L.length < g) (i : Nat) (hi : i ≤ L.length) (w : World) (h : PInv w0 w br A c L i) :
 Calls Tryz.prog 117 #[.pointer (some ⟨br, 0, none⟩)] w (TreeR w.heap.size w0 w br A c L (plainS g L i)) := by
 have hbr0 := h.row.lt
 have hlen := ht.toks.len
 have H0 := qh h
 have H := qh (PG.start h)
 have HT := qh ht
 have ME := qh (fun j => g2_max (g2_expr (g := g)) L j)
 have MD := qh (fun j => g2_max (g2_design (g := g)) L j)
 have HE := qh (fun j hj w h => expr_s (c := c) ht hg j hj w h)
 have HD := qh (fun j hj w h => of_D (c := c) ht hg j hj w h)
 obtain ⟨i0, hi0, hz0, hz1, hz2⟩ := info_parts infoN
 obtain ⟨res, hs0⟩ : ∃ r, r = plainS g L i := ⟨_, rfl⟩
 rw [← hs0]
 have HS0 := qh hs0
 clear h ht hs0
 go_enter Tryz.func117, Tryz.ntmps117
 have n1 := now_any HT.out.toks (i := i) (by omega) _ H.out.1
 obtain ⟨k_, p1, p2, q3_, q4_, t_, n_, e1, e2⟩ := val_form (tk L i)
 have HP := qh (show (tk L i).2.1 = (p1, p2) by rw [e1])
 rw [e2] at n1
 have N1 := qh n1
 clear n1 e1 e2
 go_wp2_with fail
 ((with_reducible refine (N1.out).mono ?_); rintro e wx ⟨rfl, hb⟩)
 have H := qh (H.out.below hb)
 clear hb
 clear N1
 have HS := qh (show res = bindP (designF (exprF g) g) (fun d => posP fun t1 => tokP (tT sAsg) (fun _ => bindP (exprF g) fun y => retP (mk 60 t1.2.1 sNil 0 [d, y])) (tokP (tT sPar) (fun _ => bindP (betweenF (exprF g) g sRap) fun l => retP (mk 61 (p1, p2) sNil 0 (d :: l))) (retP (mk 61 (p1, p2) sNil 0 [d])))) L i from by rw [HS0.out, ← HP.out]; rfl)
 clear HS0
 have d1 : Calls _ _ _ _ (TreeR _ _ _ _ _ _ _ (designF (exprF g) g L (i))) := HD.out (i) (by omega) _ H.out.1
 cases hx : designF (exprF g) g L (i) with
 | error k9 =>
   rw [hx] at d1
   have D1 := qh d1
   have HS := qh (HS.out.trans (bind_err hx))
   clear d1 hx
   go_wp2_with fail
   ((with_reducible refine D1.out.mono ?_); rintro e w1 ⟨rfl, hb⟩)
   have H3 := qh (grown_trans H.out.2 hb)
   clear hb
   go_wp2
   refine ⟨rfl, ?_⟩
   rw [HS.out]
   exact ⟨rfl, H3.out⟩
 | ok r =>
   obtain ⟨dd, j1⟩ := r
   rw [hx] at d1
   have D1 := qh d1
   have HS := qh (HS.out.trans (bind_ok hx))
   have hj1 := MD.out (i)
   rw [hx] at hj1
   simp only [posE] at hj1
   clear d1 hx
   go_wp2_with fail
   ((with_reducible refine D1.out.mono ?_); rintro e wx ⟨bx, rfl, hp, hgr, hr⟩)
   have HX := qh (hr.more (S' := fun y => w.heap.size ≤ y) fun y hy _ => Nat.le_trans H.out.2.size hy)
   have H := qh (H.out.trans ⟨hp, hgr⟩)
   clear hp hgr hr D1
   have n1 := now_any HT.out.toks (i := j1) (by omega) _ H.out.1
   obtain ⟨k_, r1, r2, q3_, q4_, t_, n_, e1, e2⟩ := val_form (tk L j1)
   have HP2 := qh (show (tk L j1).2.1 = (r1, r2) by rw [e1])
   rw [e2] at n1
   have N1 := qh n1
   clear n1 e1 e2
   go_wp2_with fail
   ((with_reducible refine (N1.out).mono ?_); rintro e wx ⟨rfl, hb⟩)
   have H := qh (H.out.below hb)
   have HX := qh (HX.out.below hb)
   clear hb
   clear N1
   have HS := qh (show res = tokP (tT sAsg) (fun _ => bindP (exprF g) fun y => retP (mk 60 (r1, r2) sNil 0 [dd, y])) (tokP (tT sPar) (fun _ => bindP (betweenF (exprF g) g sRap) fun l => retP (mk 61 (p1, p2) sNil 0 (dd :: l))) (retP (mk 61 (p1, p2) sNil 0 [dd]))) L j1 from by rw [HS.out, ← HP2.out]; rfl)
   cases hT : isT L (j1) sAsg with
   | false =>
     have D1 := qh (eat_no HT.out.toks (i := j1) (by omega) sAsg _ H.out.1 hT)
     have HS := qh (HS.out.trans (tok_n hT))
     go_wp2_with fail
     ((with_reducible refine (D1.out).mono ?_); rintro e wx ⟨rfl, hb⟩)
     have H := qh (H.out.trans hb)
     have HX := qh (repS_grown HX.out hb.2 hbr0)
     clear hb
     clear D1
     have NW := qh (new_1 (B0 := w.heap.size) (w := wx) H.out.2.size 61 61 rfl p1 p2 sNil 0 HX.out wx.heap.size rfl)
     go_wp2_with fail
     ((with_reducible refine NW.out.mono ?_); rintro e wz ⟨b, sv0, xs0, rfl, hb, hk⟩)
     have hxl : xs0.length ≤ 1000000 := by have := hk.len; simp at this; omega
     have HK := qh (hk.lower H.out.2.size)
     have H := qh (H.out.below hb)
     clear hb hk NW
     cases hT : isT L j1 sPar with
     | false =>
       have D1 := qh (eat_no HT.out.toks (i := j1) (by omega) sPar _ H.out.1 hT)
       have HS := qh ((HS.out.trans (tok_n hT)).trans ret_)
       clear hT
       go_wp2_with fail
       ((with_reducible refine (D1.out).mono ?_); rintro e wx ⟨rfl, hb⟩)
       have H := qh (H.out.trans hb)
       have HK := qh (HK.out.grown hb.2 hbr0 (Nat.le_refl _))
       clear hb
       clear D1
       go_wp2
       go_ret
       rw [HS.out]
       exact ⟨b, rfl, H.out.1, H.out.2, HK.out.done (Nat.le_refl _)⟩
     | true =>
       have hjn := isT_lt hT
       have D1 := qh (eat_yes HT.out.toks (i := j1) (by omega) sPar _ H.out.1 hT)
       have HS := qh (HS.out.trans (tok_y hT))
       clear hT
       go_wp2_with fail
       ((with_reducible refine (D1.out).mono ?_); rintro e wx ⟨rfl, hb⟩)
       have H := qh (H.out.trans hb)
       have HK := qh (HK.out.grown hb.2 hbr0 (Nat.le_refl _))
       clear hb
       clear D1
       cases hT : isT L (j1 + 1) sRap with
       | true =>
         have hjn2 := isT_lt hT
         have D1 := qh (eat_yes HT.out.toks (i := j1 + 1) (by omega) sRap _ H.out.1 hT)
         have HS := qh ((HS.out.trans (between_yes hT)).trans ret_)
         clear hT
         go_wp2_with fail
         ((with_reducible refine (D1.out).mono ?_); rintro e wx ⟨rfl, hb⟩)
         have H := qh (H.out.trans hb)
         have HK := qh (HK.out.grown hb.2 hbr0 (Nat.le_refl _))
         clear hb
         clear D1
         go_wp2
         go_ret
         rw [HS.out]
         exact ⟨b, rfl, H.out.1, H.out.2, HK.out.done (Nat.le_refl _)⟩
       | false =>
         have D1 := qh (eat_no HT.out.toks (i := j1 + 1) (by omega) sRap _ H.out.1 hT)
         have HS := qh (HS.out.trans (between_no hT))
         clear hT
         go_wp2_with fail
         ((with_reducible refine (D1.out).mono ?_); rintro e wx ⟨rfl, hb⟩)
         have H := qh (H.out.trans hb)
         have HK := qh (HK.out.grown hb.2 hbr0 (Nat.le_refl _))
         clear hb
         clear D1
         have d1_ := HE.out (j1 + 1) (by omega) wx.drew (H.out.below ((Below.refl _ _).drew)).1
         cases hx : exprF g L (j1 + 1) with
         | error k9 =>
           rw [hx] at d1_
           have D1 := qh d1_
           have HS := qh (HS.out.trans (bind_err hx))
           clear d1_ hx
           have HD_ := qh (H.out.below ((Below.refl _ _).drew))
           obtain ⟨m4, m4f, hbl4⟩ := HK.out.kn.facts
           have D1 := qh (D1.out.mono (R' := fun e w' => (∃ p, e = .returned (.pointer p) ∧ Hid False) ∨ (e = bad k9 ∧ wx.drew.grownBy w' (some br))) fun e w' h => .inr h)
           go_wp2
           go_region_law (first
            | (go_simp; go_at_call 133; (with_reducible refine D1.out.mono ?_); rintro e x (⟨p_, rfl, hF⟩ | ⟨rfl, hb⟩); (case' inr => (refine ⟨rfl, ?_⟩; rw [HS.out]; exact ⟨rfl, grown_trans HD_.out.2 hb⟩)); have t4 : x.cell? ⟨b, 4, none⟩ = some sv0 := hF.out.elim; have t4f : x.frozen? ⟨b, 4, none⟩ = false := hF.out.elim; have hbx : b < x.heap.size := hF.out.elim)
            | (refine step_append_lies _ (by rfl) _ _ _ (by rfl) w.heap.size 31 i0 _ 1 8 Tryz.underlying36 hi0 hz0 hz1 hz2 rfl (by omega) sv0 xs0.length xs0 hF.out.elim hF.out.elim ⟨0, 0, none⟩ 1 1 [] hF.out.elim hF.out.elim hF.out.elim hF.out.elim (by omega) hF.out.elim hF.out.elim hF.out.elim 0 hF.out.elim ?_; intro g' cap w5 hown1 hgrow hor hlt5; have s4 : w5.cell? ⟨b, 4, none⟩ = some sv0 := hF.out.elim; have s4f : w5.frozen? ⟨b, 4, none⟩ = false := hF.out.elim; have hb5 : b < w5.heap.size := hF.out.elim; clear hown1 hgrow hor hlt5))
           all_goals exact hF.out.elim
         | ok r =>
           obtain ⟨y0, j4⟩ := r
           rw [hx] at d1_
           have D1 := qh d1_
           have HS := qh (HS.out.trans (bind_ok hx))
           have hj4 := ME.out (j1 + 1)
           rw [hx] at hj4
           simp only [posE] at hj4
           clear d1_ hx
           have HD_ := qh (H.out.below ((Below.refl _ _).drew))
           have HKD := qh (HK.out.below ((Below.refl _ _).drew))
           obtain ⟨m4, m4f, hbl4⟩ := HK.out.kn.facts
           go_wp2
           go_region_law (first
            | (go_simp; go_at_call 133; (with_reducible refine D1.out.mono ?_); rintro e x ⟨by_, rfl, hp, hgr, hr⟩; have HKX := qh (HKD.out.grown hgr hbr0 (Nat.le_refl _)); have HY := qh (HKD.out.new hr (Nat.le_refl _)); have HX_ := qh (HD_.out.trans ⟨hp, hgr⟩); clear hp hgr hr; obtain ⟨t4, t4f, hbx⟩ := HKX.out.kn.facts; have Q := kid_facts (cs := #[.pointer (some ⟨by_, 0, none⟩)]) x.heap.size rfl (Nat.le_trans HKX.out.kn.low (Nat.le_of_lt hbx)) HKX.out.kn.own hxl (one_ptr (some ⟨by_, 0, none⟩)) (by simp))
            | (refine step_append_lies _ (by rfl) _ _ _ (by rfl) w.heap.size 31 i0 _ 1 8 Tryz.underlying36 hi0 hz0 hz1 hz2 rfl (by omega) sv0 xs0.length xs0 (by rfl) Q.out.2.2.2.2 ⟨x.heap.size, 0, none⟩ 1 1 #[.pointer (some ⟨by_, 0, none⟩)].toList (by rfl) (by rfl) Q.out.1 Q.out.2.1 (by omega) Q.out.2.2.1 (by omega) Q.out.2.2.2.1 (x.heap.size + 1) (by simp) ?_; intro g' cap w5 hown1 hgrow hor hlt5; obtain ⟨s4, s4f, hb5⟩ := KN.after (HKX.out.kn.below ((Below.refl _ _).alloc (Nat.le_refl _) _)) hgrow; have K2 := qh (KG.steps (l := [y0]) (HKX.out.below ((Below.refl _ _).alloc (Nat.le_refl _) _)) (HY.out.below ((Below.refl _ _).alloc (Nat.le_refl _) _)) rfl rfl hown1 hgrow (hor.imp id fun e => e.trans (World.size_alloc _ _).symm)); have H2 := qh (PG.hung HX_.out H0.out _ hgrow (fun k e => (HKX.out.kn.own.lt _ e).1) (u := .slice (some ⟨g', 0, none⟩) (xs0.length + 1) cap) HKX.out.kn.low); clear hown1 hgrow hor hlt5))
           all_goals
            go_wp2_with fail
            go_loopw [] (fun wr => Hid (LK w0 w br A c L b ⟨61, (p1, p2), sNil, 0⟩ (fun acc j => ∃ f l, acc = dd :: l ∧ L.length < j + f ∧ res = bindP (manyRF (exprF g) f l) (fun l => needF sRap (retP (mk 61 (p1, p2) sNil 0 (dd :: l)))) L j) wr)) (fun wr => L.length + 1 - atW wr br)
            case atStart => exact qh ⟨_, _, _, _, by omega, by simp only [List.length_append, List.length_cons, List.length_nil]; omega, H2.out, K2.out, g, _, rfl, by omega, HS.out⟩
            case round =>
             clear H H2 HK K2 HS HX
             obtain ⟨acc, sv, xs, j, hj, hac, hG_, hK_, f, l, rfl, hf, hS_⟩ := hrel.out
             obtain ⟨f, rfl⟩ : ∃ f', f = f' + 1 := ⟨f - 1, by omega⟩
             have H := qh hG_
             have HO := qh hG_
             have HK := qh hK_
             have HS := qh hS_
             have hxl : xs.length ≤ 1000000 := by have := hK_.len; omega
             obtain ⟨wo, rfl⟩ : ∃ wo : World, wo = wr := ⟨_, rfl⟩
             clear hrel hG_ hK_ hS_
             cases hT : isT L j sCom with
             | false =>
               have D1 := qh (eat_no HT.out.toks (i := j) (by omega) sCom _ H.out.1 hT)
               have HS := qh (HS.out.trans (many_n hT))
               clear hT
               go_wp2_with fail
               ((with_reducible refine (D1.out).mono ?_); rintro e wx ⟨rfl, hb⟩)
               have H := qh (H.out.trans hb)
               have HK := qh (HK.out.grown hb.2 hbr0 (Nat.le_refl _))
               clear hb
               clear D1
               cases hT : isT L (j) sRap with
               | false =>
                 have D1 := qh (need_no HT.out.toks (i := j) (by omega) sRap _ H.out.1 hT)
                 have HS := qh (HS.out.trans (need_n hT))
                 go_wp2_with fail
                 ((with_reducible refine D1.out.mono ?_); rintro e w1 ⟨rfl, hb⟩)
                 have H3 := qh (grown_trans H.out.2 hb)
                 clear hb
                 go_wp2
                 refine ⟨rfl, ?_⟩
                 rw [HS.out]
                 exact ⟨rfl, H3.out⟩
               | true =>
                 have hjn := isT_lt hT
                 have D1 := qh (need_ok HT.out.toks (i := j) (by omega) sRap _ H.out.1 hT)
                 have HS := qh (HS.out.trans (need_y hT))
                 clear hT
                 go_wp2_with fail
                 ((with_reducible refine (D1.out).mono ?_); rintro e wx ⟨rfl, hb⟩)
                 have H := qh (H.out.trans hb)
                 have HK := qh (HK.out.grown hb.2 hbr0 (Nat.le_refl _))
                 clear hb
                 clear D1
                 have HS := qh (HS.out.trans ret_)
                 go_wp2
                 go_ret
                 rw [HS.out]
                 exact ⟨b, rfl, H.out.1, H.out.2, HK.out.done (Nat.le_refl _)⟩
             | true =>
               have hjn := isT_lt hT
               have D1 := qh (eat_yes HT.out.toks (i := j) (by omega) sCom _ H.out.1 hT)
               have HS := qh (HS.out.trans (many_y hT))
               clear hT
               go_wp2_with fail
               ((with_reducible refine (D1.out).mono ?_); rintro e wx ⟨rfl, hb⟩)
               have H := qh (H.out.trans hb)
               have HK := qh (HK.out.grown hb.2 hbr0 (Nat.le_refl _))
               clear hb
               clear D1
               have d1_ := HE.out (j + 1) (by omega) wx.drew (H.out.below ((Below.refl _ _).drew)).1
               cases hx : exprF g L (j + 1) with
               | error k9 =>
                 rw [hx] at d1_
                 have D1 := qh d1_
                 have HS := qh (HS.out.trans (bind_err hx))
                 clear d1_ hx
                 have HD_ := qh (H.out.below ((Below.refl _ _).drew))
                 obtain ⟨m4, m4f, hbl4⟩ := HK.out.kn.facts
                 have D1 := qh (D1.out.mono (R' := fun e w' => (∃ p, e = .returned (.pointer p) ∧ Hid False) ∨ (e = bad k9 ∧ wx.drew.grownBy w' (some br))) fun e w' h => .inr h)
                 go_wp2
                 go_region_law (first
                  | (go_simp; go_at_call 133; (with_reducible refine D1.out.mono ?_); rintro e x (⟨p_, rfl, hF⟩ | ⟨rfl, hb⟩); (case' inr => (refine ⟨rfl, ?_⟩; rw [HS.out]; exact ⟨rfl, grown_trans HD_.out.2 hb⟩)); have t4 : x.cell? ⟨b, 4, none⟩ = some sv := hF.out.elim; have t4f : x.frozen? ⟨b, 4, none⟩ = false := hF.out.elim; have hbx : b < x.heap.size := hF.out.elim)
                  | (refine step_append_lies _ (by rfl) _ _ _ (by rfl) w.heap.size 31 i0 _ 1 8 Tryz.underlying36 hi0 hz0 hz1 hz2 rfl (by omega) sv xs.length xs hF.out.elim hF.out.elim ⟨0, 0, none⟩ 1 1 [] hF.out.elim hF.out.elim hF.out.elim hF.out.elim (by omega) hF.out.elim hF.out.elim hF.out.elim 0 hF.out.elim ?_; intro g' cap w5 hown1 hgrow hor hlt5; have s4 : w5.cell? ⟨b, 4, none⟩ = some sv := hF.out.elim; have s4f : w5.frozen? ⟨b, 4, none⟩ = false := hF.out.elim; have hb5 : b < w5.heap.size := hF.out.elim; clear hown1 hgrow hor hlt5))
                 all_goals exact hF.out.elim
               | ok r =>
                 obtain ⟨y, j4⟩ := r
                 rw [hx] at d1_
                 have D1 := qh d1_
                 have HS := qh (HS.out.trans (bind_ok hx))
                 have hj4 := ME.out (j + 1)
                 rw [hx] at hj4
                 simp only [posE] at hj4
                 clear d1_ hx
                 have HD_ := qh (H.out.below ((Below.refl _ _).drew))
                 have HKD := qh (HK.out.below ((Below.refl _ _).drew))
                 obtain ⟨m4, m4f, hbl4⟩ := HK.out.kn.facts
                 go_wp2
                 go_region_law (first
                  | (go_simp; go_at_call 133; (with_reducible refine D1.out.mono ?_); rintro e x ⟨by_, rfl, hp, hgr, hr⟩; have HKX := qh (HKD.out.grown hgr hbr0 (Nat.le_refl _)); have HY := qh (HKD.out.new hr (Nat.le_refl _)); have HX_ := qh (HD_.out.trans ⟨hp, hgr⟩); clear hp hgr hr; obtain ⟨t4, t4f, hbx⟩ := HKX.out.kn.facts; have Q := kid_facts (cs := #[.pointer (some ⟨by_, 0, none⟩)]) x.heap.size rfl (Nat.le_trans HKX.out.kn.low (Nat.le_of_lt hbx)) HKX.out.kn.own hxl (one_ptr (some ⟨by_, 0, none⟩)) (by simp))
                  | (refine step_append_lies _ (by rfl) _ _ _ (by rfl) w.heap.size 31 i0 _ 1 8 Tryz.underlying36 hi0 hz0 hz1 hz2 rfl (by omega) sv xs.length xs (by rfl) Q.out.2.2.2.2 ⟨x.heap.size, 0, none⟩ 1 1 #[.pointer (some ⟨by_, 0, none⟩)].toList (by rfl) (by rfl) Q.out.1 Q.out.2.1 (by omega) Q.out.2.2.1 (by omega) Q.out.2.2.2.1 (x.heap.size + 1) (by simp) ?_; intro g' cap w5 hown1 hgrow hor hlt5; obtain ⟨s4, s4f, hb5⟩ := KN.after (HKX.out.kn.below ((Below.refl _ _).alloc (Nat.le_refl _) _)) hgrow; have K2 := qh (KG.steps (l := [y]) (HKX.out.below ((Below.refl _ _).alloc (Nat.le_refl _) _)) (HY.out.below ((Below.refl _ _).alloc (Nat.le_refl _) _)) rfl rfl hown1 hgrow (hor.imp id fun e => e.trans (World.size_alloc _ _).symm)); have H2 := qh (PG.hung HX_.out H0.out _ hgrow (fun k e => (HKX.out.kn.own.lt _ e).1) (u := .slice (some ⟨g', 0, none⟩) (xs.length + 1) cap) HKX.out.kn.low); clear hown1 hgrow hor hlt5))
                 all_goals
                  have hm2 := H2.out.1.atw
                  have hm1 := HO.out.1.atw
                  go_wp2
                  go_roundw
                  case rel => exact qh ⟨_, _, _, _, by omega, by rw [List.length_append]; simp only [List.length_cons, List.length_nil] at hac ⊢; omega, H2.out, K2.out, f, _, rfl, by omega, HS.out⟩
                  case measure => rw [hm2, hm1]; omega
   | true =>
     have hjn := isT_lt hT
     have D1 := qh (eat_yes HT.out.toks (i := j1) (by omega) sAsg _ H.out.1 hT)
     have HS := qh (HS.out.trans (tok_y hT))
     clear hT
     go_wp2_with fail
     ((with_reducible refine (D1.out).mono ?_); rintro e wx ⟨rfl, hb⟩)
     have H := qh (H.out.trans hb)
     have HX := qh (repS_grown HX.out hb.2 hbr0)
     clear hb
     clear D1
     have d1 : Calls _ _ _ _ (TreeR _ _ _ _ _ _ _ (exprF g L (j1 + 1))) := HE.out (j1 + 1) (by omega) _ H.out.1
     cases hx : exprF g L (j1 + 1) with
     | error k9 =>
       rw [hx] at d1
       have D1 := qh d1
       have HS := qh (HS.out.trans (bind_err hx))
       clear d1 hx
       go_wp2_with fail
       ((with_reducible refine D1.out.mono ?_); rintro e w1 ⟨rfl, hb⟩)
       have H3 := qh (grown_trans H.out.2 hb)
       clear hb
       go_wp2
       refine ⟨rfl, ?_⟩
       rw [HS.out]
       exact ⟨rfl, H3.out⟩
     | ok r =>
       obtain ⟨y, j2⟩ := r
       rw [hx] at d1
       have D1 := qh d1
       have HS := qh (HS.out.trans (bind_ok hx))
       have hj2 := ME.out (j1 + 1)
       rw [hx] at hj2
       simp only [posE] at hj2
       clear d1 hx
       go_wp2_with fail
       ((with_reducible refine D1.out.mono ?_); rintro e wx ⟨by_, rfl, hp, hgr, hr⟩)
       have HY := qh (hr.more (S' := fun y => w.heap.size ≤ y) fun y hy _ => Nat.le_trans H.out.2.size hy)
       have H := qh (H.out.trans ⟨hp, hgr⟩)
       have HX := qh (repS_grown HX.out hgr hbr0)
       clear hp hgr hr D1
       have HS := qh (HS.out.trans ret_)
       have NW := qh (new_lit (B := w.heap.size) (w := wx) H.out.2.size 60 60 rfl r1 r2 sNil [.pointer (some ⟨bx, 0, none⟩), .pointer (some ⟨by_, 0, none⟩)] [dd, y] wx.heap.size rfl 2 rfl (by decide) (repN_of (repS_cons HX.out HY.out)))
       go_wp2_with fail
       ((with_reducible refine NW.out.mono ?_); rintro e w8 ⟨b8, rfl, hb, hr⟩)
       have H := qh (H.out.below hb)
       have HR8 := qh hr
       clear hb hr NW
       go_wp2
       go_ret
       rw [HS.out]
       exact ⟨b8, rfl, H.out.1, H.out.2, HR8.out⟩
end Go.Proofs.YtkemhmfdooghkaaGreatDoor.St
end
