/- A part of the proof: G5. -/
import Derived.Test.YtecmjhohniipoaaZ1
import Derived.Test.YtecmjhohniipoaaZ14
set_option linter.unusedSimpArgs false
set_option linter.unusedVariables false

section
namespace Go.Proofs.Ytecmjhohniipoaa.Ex
open Go.RowKit
open Tr (Nd Fo RepS RepN Rep cellsN)
open Lx (Tk noTk Blk run_store_complexL TokAt)
open Fl
attribute [local go_sem] run_store_complexL run_field1 run_field3
theorem des_dots {L : List PT} {ex : Nat → Except Nat (T1 × Nat)} {e : Par T1} (he : Good e) (hs : Strict e) {lo : Nat} (hx : ∀ j, lo ≤ j → ex j = e L j) : ∀ (f : Nat) (x : T1) (j : Nat), lo ≤ j → L.length < j + f → desP L ex f x j = (match dotsP L f x j with
 | .error k => .error k
 | .ok (y, j2) => desP L ex (L.length + 1) y j2) := by
 have fu : ∀ (f f' : Nat) (x : T1) (j : Nat), lo ≤ j → L.length < j + f → L.length < j + f' → desP L ex f x j = desP L ex f' x j := fun f f' x j hj h h' =>
  (des_fuel he hs hx (g := L.length + 1) (Nat.lt_succ_self _) f f x j hj h h).trans (des_fuel he hs hx (g := L.length + 1) (Nat.lt_succ_self _) f' f x j hj h' h).symm
 intro f
 induction f with
 | zero => intro x j hj h; exact fu 0 (L.length + 1) x j hj h (by omega)
 | succ f ih =>
   intro x j hj h
   rw [dotsP_succ]
   by_cases ht : isT L j sDot = true
   ·rw [if_pos ht, desP_succ, if_pos ht]
    cases e1 : dotP L x j with
    | error k => rfl
    | ok r =>
      obtain ⟨y, j2⟩ := r
      have := dotP_le e1
      exact ih y j2 (by omega) (by omega)
   ·rw [if_neg ht]
    exact fu _ _ x j hj h (by omega)
theorem design_alt {L : List PT} {ex : Nat → Except Nat (T1 × Nat)} {e : Par T1} (he : Good e) (hs : Strict e) {i : Nat} (hx : ∀ j, i + 1 ≤ j → ex j = e L j) : designP L ex i = (match nameP L i with
 | .error k => .error k
 | .ok (t, j) => desP L ex (L.length + 1) (mk 1 t.2.1 t.1.text 0 []) j) := by
 unfold designP qualP
 cases e1 : nameP L i with
 | error k => rfl
 | ok r =>
   obtain ⟨t, j⟩ := r
   have := nameP_le e1
   dsimp only
   rw [des_dots he hs hx _ _ j (by omega) (by omega)]
   all_goals (cases dotsP L (L.length + 1) (mk 1 t.2.1 t.1.text 0 []) j <;> rfl)
theorem des_same {L : List PT} {ex : Nat → Except Nat (T1 × Nat)} {e : Par T1} (he : Good e) (hs : Strict e) (hx : ∀ j, ex j = e L j) (f : Nat) (x : T1) (j : Nat) (h : L.length < j + f) : desP L ex f x j = desP L ex (L.length + 1) x j :=
 (des_fuel he hs (lo := 0) (fun j _ => hx j) (g := L.length + 1) (Nat.lt_succ_self _) f (L.length + 1) x j (Nat.zero_le _) h (by omega)).trans (des_fuel he hs (lo := 0) (fun j _ => hx j) (g := L.length + 1) (Nat.lt_succ_self _) (L.length + 1) (L.length + 1) x j (Nat.zero_le _) (by omega) (by omega)).symm
theorem com_same {L : List PT} {ex : Nat → Except Nat (T1 × Nat)} {e : Par T1} (hs : Strict e) (hx : ∀ j, ex j = e L j) (f : Nat) (x : T1) (j : Nat) (h : L.length < j + f) : commasP L ex f x j = commasP L ex (L.length + 1) x j :=
 (commas_fuel hs (lo := 0) (fun j _ => hx j) f (L.length + 1) x j (Nat.zero_le _) h (by omega)).trans (commas_fuel hs (lo := 0) (fun j _ => hx j) (L.length + 1) (L.length + 1) x j (Nat.zero_le _) (by omega) (by omega)).symm
def badW (w : World) (br : Nat) : Bool := match w.cell? ⟨br, 2, none⟩ with
 | some (.bool b) => b
 | _ => false
theorem QInv.badw {w0 w : World} {br c i : Nat} {A : Option Addr} {L : List PT} {bad : Bool} (h : QInv w0 w br A c L i bad) : badW w br = bad := by
 unfold Ex.badW
 rw [show w.cell? ⟨br, 2, none⟩ = some (.bool bad) from h.row.cell 2]
def loopM (n : Nat) (w : World) (br : Nat) : Nat := if badW w br = true then 0 else n + 2 - atW w br
def LS (w0 w : World) (br : Nat) (A : Option Addr) (c : Nat) (L : List PT) (res : Except Nat (T1 × Nat)) (G : T1 → Nat → Prop) (p : Option Addr) (wr : World) : Prop :=
 (∃ (x : T1) (b j : Nat), p = some ⟨b, 0, none⟩ ∧ j ≤ L.length ∧ QG w0 w wr br A c L j false ∧ RepS (fun y => w.heap.size ≤ y) wr (.node x.1 x.2 .no) [.pointer (some ⟨b, 0, none⟩)] ∧ G x j) ∨
 (∃ k, k ≤ 80000 ∧ QG w0 w wr br A c L k true ∧ res = .error k)
theorem LS.good {w0 w wr : World} {br c : Nat} {A : Option Addr} {L : List PT} {res : Except Nat (T1 × Nat)} {G : T1 → Nat → Prop} {x : T1} {b j : Nat} (hj : j ≤ L.length) (h : QG w0 w wr br A c L j false) (hr : RepS (fun y => w.heap.size ≤ y) wr (.node x.1 x.2 .no) [.pointer (some ⟨b, 0, none⟩)]) (hG : G x j) :
 LS w0 w br A c L res G (some ⟨b, 0, none⟩) wr := .inl ⟨x, b, j, rfl, hj, h, hr, hG⟩
theorem LS.hung {w0 w wr : World} {br c : Nat} {A : Option Addr} {L : List PT} {res : Except Nat (T1 × Nat)} {G : T1 → Nat → Prop} {p : Option Addr} {k : Nat} (h : QG w0 w wr br A c L k true) (hr : res = .error k) (hk : k ≤ 80000) : LS w0 w br A c L res G p wr := .inr ⟨k, hk, h, hr⟩
theorem err_bd {L : List PT} {ex : Nat → Except Nat (T1 × Nat)} {e : Par T1} (he : Good e) (hx : ∀ j, ex j = e L j) (hl : L.length ≤ 20000) : ∀ j k, j ≤ 60000 → ex j = .error k → k ≤ 80000 := by
 intro j k hj h
 rw [hx] at h
 rcases Nat.lt_or_ge j L.length with h1 | h1
 ·have h2 := he.lock L L.length j (Nat.le_of_lt h1) (Nat.le_refl _)
  rw [List.take_length, h] at h2
  rcases h2 with ⟨_, h2⟩ | ⟨h2, _⟩
  ·have h3 : k < L.length := h2
   omega
  ·have h3 : k = L.length := h2
   omega
 ·have h2 := he.end_ L j h1
  rw [h] at h2
  have h3 : k = j := h2
  omega
theorem loopM_bad {w0 w wr wr' : World} {br c k j : Nat} {A : Option Addr} {L : List PT} (h : QG w0 w wr' br A c L k true) (h2 : QG w0 w wr br A c L j false) (hj : j ≤ L.length) : loopM L.length wr' br < loopM L.length wr br := by
 unfold loopM
 rw [h.1.badw, h2.1.badw, h2.1.atw, if_pos rfl, if_neg (by simp)]
 omega
theorem loopM_good {w0 w wr wr' : World} {br c k j : Nat} {A : Option Addr} {L : List PT} (h : QG w0 w wr' br A c L k false) (h2 : QG w0 w wr br A c L j false) (hj : j ≤ L.length) (hk : j < k) : loopM L.length wr' br < loopM L.length wr br := by
 unfold loopM
 rw [h.1.badw, h2.1.badw, h2.1.atw, h.1.atw, if_neg (by simp), if_neg (by simp)]
 omega
set_option maxRecDepth 100000 in set_option maxHeartbeats 6400000 in
theorem rdesign_any {ex : Nat → Except Nat (T1 × Nat)} {e : Par T1} (he : Good e) (hs : Strict e) {lo : Nat} {w0 : World} {br c : Nat} {A : Option Addr} {L : List PT} (ht : Toks w0 br A L) (ok : OKRow L) (hx : ∀ j, ex j = e L j) (hE : RnOK 63 ex (lo + 1) w0 br A c L) (hm : SpOK L ex) :
 RnOK 66 (designP L ex) lo w0 br A c L := by
 intro i hlo hi w h
 have hbr0 := h.row.lt
 have hlen := ht.len
 have H := qh (QG.start h)
 have HE := qh hE
 have HM := qh hm
 have HT := qh ht
 have HOK := qh ok
 have HME := qh (err_bd he hx hlen)
 have HDS := qh (des_same he hs hx)
 have HCS := qh (com_same hs hx)
 have HS0 := qh (design_alt he hs (i := i) (ex := ex) fun j _ => hx j)
 generalize designP L ex i = res at *
 by_cases hk : (tk L i).1.kind = 1
 case neg =>
  have HS := qh (show res = .error i by rw [HS0.out]; unfold nameP; rw [if_neg hk])
  have NM := qh (rname_no ht (by omega) w h hk)
  clear hE h ht hm ok hx he hs hk HS0
  go_enter Try.func66, Try.ntmps66
  go_wp2_with fail
  ((with_reducible refine NM.out.mono ?_); rintro e w1 ⟨rfl, hp, hg⟩)
  have H := qh (H.out.trans ⟨hp, hg⟩)
  obtain ⟨m1, f1, m2, f2, hlt⟩ := H.out.1.at_
  clear hp hg NM
  go_wp2
  go_loopw [3] (fun xv wr => xv = .pointer none ∧ Hid (QG w0 w wr br A c L i true)) (fun _ _ => 0)
  case atStart => exact ⟨rfl, H⟩
  case round =>
   clear H m1 f1 m2 f2 hlt
   obtain ⟨rfl, H⟩ := hrel
   obtain ⟨m1, f1, m2, f2, hlt⟩ := H.out.1.at_
   go_wp2
   go_ret
   rw [HS.out]
   exact ⟨_, rfl, H.out.1, H.out.2⟩
 case pos =>
  have NM := qh (rname_ok ht (by omega) w h (Nat.le_refl _) hk)
  have HS := qh (show res = desP L ex (L.length + 1) (mk 1 (pos L i) (tk L i).1.text 0 []) (i + 1) by rw [HS0.out]; unfold nameP; rw [if_pos hk]; rfl)
  have hil := name_lt hk
  clear hE h ht hm ok hx he hs hk HS0
  go_enter Try.func66, Try.ntmps66
  go_wp2_with fail
  ((with_reducible refine NM.out.mono ?_); rintro e w2 ⟨bx, rfl, hp, hg, hr⟩)
  have H := qh (H.out.trans ⟨hp, hg⟩)
  have HX := qh hr
  obtain ⟨m1, f1, m2, f2, hlt⟩ := H.out.1.at_
  clear hp hg hr NM
  go_wp2
  go_loopw [3] (fun xv wr => ∃ p, xv = .pointer p ∧ Hid (LS w0 w br A c L res (fun x j => lo ≤ j ∧ res = desP L ex (L.length + 1) x j) p wr)) (fun _ wr => loopM L.length wr br)
  case atStart => exact ⟨_, rfl, qh (.good (by omega) H.out HX.out ⟨by omega, HS.out⟩)⟩
  case round =>
   clear H HX HS m1 f1 m2 f2 hlt
   obtain ⟨p, rfl, HL⟩ := hrel
   rcases HL.out with ⟨x, bx, j, rfl, hj, hG, hR, hjl, hS⟩ | ⟨k, hk8, hG, hS⟩
   case' inr =>
    have H := qh hG
    have HS := qh hS
    obtain ⟨m1, f1, m2, f2, hlt⟩ := H.out.1.at_
    clear HL hG hS
    go_wp2
    go_ret
    rw [HS.out]
    exact ⟨_, rfl, H.out.1, H.out.2⟩
   obtain ⟨wo, rfl⟩ : ∃ wo : World, wo = wr := ⟨_, rfl⟩
   have H := qh hG
   have HO := qh hG
   have HX := qh hR
   have HS1 := qh (show res = _ from hS.trans (desP_succ L ex L.length x j))
   obtain ⟨m1, f1, m2, f2, hlt⟩ := H.out.1.at_
   clear HL hG hS hR
   obtain ⟨k_, p1, p2, q1_, q2_, t_, n_, e1, e2⟩ := val_form (tk L j)
   have HP := qh (show pos L j = (p1, p2) by unfold pos; rw [e1])
   have n1 := rnow_any HT.out (i := j) (by omega) _ H.out.1
   rw [e2] at n1
   have N1 := qh n1
   clear n1 e1 e2
   go_wp2_with fail
   ((with_reducible refine (N1.out).mono ?_); rintro e wx ⟨rfl, hb⟩)
   have H := qh (H.out.below hb)
   have HX := qh (HX.out.below hb)
   clear hb
   cases hD : isT L j sDot with
   | true =>
     have EY := qh (reatT_yes HT.out (by omega) sDot _ HOK.out (by decide) H.out.1 hD)
     have HS2 := qh (show res = (match dotP L x j with | .error k => .error k | .ok (y, j) => desP L ex L.length y j) by rw [HS1.out, if_pos hD] <;> (cases dotP L x j <;> rfl))
     have HDD := qh (show dotP L x j = (match nameP L (j + 1) with | .error k => .error k | .ok (t, j') => .ok (mk 2 (pos L j) t.1.text 0 [x], j')) by unfold dotP need; rw [if_pos hD]; dsimp only; cases nameP L (j + 1) <;> rfl)
     have hjlt := isT_lt hD
     clear HS1
     go_wp2_with fail
     ((with_reducible refine (EY.out).mono ?_); rintro e wx ⟨rfl, hb⟩)
     have H := qh (H.out.trans hb)
     have HX := qh (repS_grown HX.out hb.2 hbr0)
     clear hb
     by_cases hk2 : (tk L (j + 1)).1.kind = 1
     case neg =>
      have hnm : nameP L (j + 1) = .error (j + 1) := by unfold nameP; rw [if_neg hk2]
      have NM := qh (rname_no HT.out (by omega) _ H.out.1 hk2)
      have HS := qh (show res = .error (j + 1) by rw [HS2.out, HDD.out, hnm])
      clear hk2 hnm HS2 HDD
      go_wp2_with fail
      ((with_reducible refine NM.out.mono ?_); rintro e w5 ⟨rfl, hp, hg⟩)
      have H := qh (H.out.trans ⟨hp, hg⟩)
      obtain ⟨m1, f1, m2, f2, hlt⟩ := H.out.1.at_
      clear hp hg NM
      go_wp2
      go_ret
      rw [HS.out]
      exact ⟨_, rfl, H.out.1, H.out.2⟩
     case pos =>
      have hnm : nameP L (j + 1) = .ok (tk L (j + 1), j + 1 + 1) := by unfold nameP; rw [if_pos hk2]
      have NM := qh (rname_ok HT.out (by omega) _ H.out.1 H.out.2.size hk2)
      have hj2 := name_lt hk2
      have HS := qh (show res = desP L ex (L.length + 1) (mk 2 (p1, p2) (tk L (j + 1)).1.text 0 [x]) (j + 1 + 1) by rw [HS2.out, HDD.out, hnm, HP.out]; exact HDS.out _ _ _ (by omega))
      clear hk2 hnm HS2 HDD
      go_wp2_with fail
      ((with_reducible refine NM.out.mono ?_); rintro e w5 ⟨b1, rfl, hp, hg, hr⟩)
      have H := qh (H.out.trans ⟨hp, hg⟩)
      have HX := qh (repS_grown HX.out hg hbr0)
      obtain ⟨_, rn, _, rl⟩ := rep_root hr
      rw [show (mk 1 (pos L (j + 1)) (tk L (j + 1)).1.text 0 []).1.name = (tk L (j + 1)).1.text from rfl] at rn
      obtain ⟨m1, f1, m2, f2, hlt⟩ := H.out.1.at_
      clear hp hg hr NM
      have NW := qh (node_1 (B := w.heap.size) (w := w5) H.out.2.size 2 2 rfl p1 p2 (tk L (j + 1)).1.text HX.out)
      go_wp2_with fail
      ((with_reducible refine NW.out.mono ?_); rintro e wx ⟨b2, rfl, hb, hr⟩)
      have H := qh (H.out.below hb)
      have HX := qh hr
      clear hb hr NW
      clear m1 f1 m2 f2 hlt rn
      have HM0 := qh (loopM_good (w := w) H.out HO.out hj (by omega))
      go_wp2
      go_roundw
      case rel => exact ⟨_, rfl, qh (.good (by omega) H.out HX.out ⟨by omega, HS.out⟩)⟩
      case measure => exact HM0.out
   | false =>
     have EN := qh (reatT_no HT.out (by omega) sDot _ HOK.out (by decide) H.out.1 hD)
     have HS2 := qh (HS1.out.trans (if_neg (by rw [hD]; simp)))
     clear HS1
     go_wp2_with fail
     ((with_reducible refine (EN.out).mono ?_); rintro e wx ⟨rfl, hb⟩)
     have H := qh (H.out.trans hb)
     have HX := qh (repS_grown HX.out hb.2 hbr0)
     clear hb
     cases hH : isT L j sHat with
     | true =>
       have EY := qh (reatT_yes HT.out (by omega) sHat _ HOK.out (by decide) H.out.1 hH)
       have hjlt := isT_lt hH
       have HS := qh (show res = desP L ex (L.length + 1) (mk 4 (p1, p2) sNil 0 [x]) (j + 1) by rw [HS2.out, if_pos hH, HP.out]; exact HDS.out _ _ _ (by omega))
       clear HS2
       go_wp2_with fail
       ((with_reducible refine (EY.out).mono ?_); rintro e wx ⟨rfl, hb⟩)
       have H := qh (H.out.trans hb)
       have HX := qh (repS_grown HX.out hb.2 hbr0)
       clear hb
       have NW := qh (node_1 (B := w.heap.size) H.out.2.size 4 4 rfl p1 p2 sNil HX.out)
       go_wp2_with fail
       ((with_reducible refine NW.out.mono ?_); rintro e wx ⟨b2, rfl, hb, hr⟩)
       have H := qh (H.out.below hb)
       have HX := qh hr
       clear hb hr NW
       have HM0 := qh (loopM_good (w := w) H.out HO.out hj (by omega))
       go_wp2
       go_roundw
       case rel => exact ⟨_, rfl, qh (.good (by omega) H.out HX.out ⟨by omega, HS.out⟩)⟩
       case measure => exact HM0.out
     | false =>
       have EN := qh (reatT_no HT.out (by omega) sHat _ HOK.out (by decide) H.out.1 hH)
       have HS3 := qh (HS2.out.trans (if_neg (by rw [hH]; simp)))
       clear HS2
       go_wp2_with fail
       ((with_reducible refine (EN.out).mono ?_); rintro e wx ⟨rfl, hb⟩)
       have H := qh (H.out.trans hb)
       have HX := qh (repS_grown HX.out hb.2 hbr0)
       clear hb
       cases hB : isT L j sBra with
       | false =>
         have EN := qh (reatT_no HT.out (by omega) sBra _ HOK.out (by decide) H.out.1 hB)
         have HS := qh (HS3.out.trans (if_neg (by rw [hB]; simp)))
         clear HS3
         go_wp2_with fail
         ((with_reducible refine (EN.out).mono ?_); rintro e wx ⟨rfl, hb⟩)
         have H := qh (H.out.trans hb)
         have HX := qh (repS_grown HX.out hb.2 hbr0)
         clear hb
         go_wp2
         go_ret
         rw [HS.out]
         exact ⟨bx, rfl, H.out.1, H.out.2, HX.out⟩
       | true =>
         have EY := qh (reatT_yes HT.out (by omega) sBra _ HOK.out (by decide) H.out.1 hB)
         have hjlt := isT_lt hB
         have HS4 := qh (HS3.out.trans (if_pos hB))
         clear HS3
         go_wp2_with fail
         ((with_reducible refine (EY.out).mono ?_); rintro e wx ⟨rfl, hb⟩)
         have H := qh (H.out.trans hb)
         have HX := qh (repS_grown HX.out hb.2 hbr0)
         clear hb
         have d2 := HE.out (j + 1) (by omega) (by omega) _ H.out.1
         cases hy : ex (j + 1) with
         | error k =>
           rw [hy] at d2
           have HS := qh (show res = .error k by rw [HS4.out, hy])
           have D2 := qh d2
           have hk8 := HME.out _ _ (by omega) hy
           clear d2 hy HS4
           go_wp2_with fail
           ((with_reducible refine (D2.out).mono ?_); rintro e wx ⟨p9, rfl, hp, hg⟩)
           have H := qh (H.out.trans ⟨hp, hg⟩)
           clear hp hg
           have NW := qh (node_un (w := wx) 3 3 rfl p1 p2 sNil (some ⟨bx, 0, none⟩) p9)
           go_wp2_with fail
           ((with_reducible refine NW.out.mono ?_); rintro e wx ⟨b_, rfl, hb⟩)
           have H := qh (H.out.below hb)
           clear hb NW
           go_wp2_with fail
           go_loopw [3] (fun xv wr => ∃ p, xv = .pointer p ∧ Hid (QG w0 w wr br A c L k true)) (fun _ _ => 0)
           case atStart => exact ⟨_, rfl, H⟩
           case round =>
            clear H HX
            obtain ⟨p, rfl, H⟩ := hrel
            have SY := qh (rsym_bad HT.out (by omega) sCom _ H.out.1)
            go_wp2_with fail
            ((with_reducible refine (SY.out).mono ?_); rintro e wx ⟨rfl, hb⟩)
            have H := qh (H.out.below hb)
            clear hb
            have ND := qh (rneed_bad HT.out (by omega) sKet _ H.out.1)
            go_wp2_with fail
            ((with_reducible refine (ND.out).mono ?_); rintro e wx ⟨rfl, hb⟩)
            have H := qh (H.out.trans hb)
            clear hb
            have HM0 := qh (loopM_bad (w := w) H.out HO.out hj)
            go_wp2
            go_roundw
            case rel => exact ⟨_, rfl, qh (.hung H.out HS.out (by omega))⟩
            case measure => exact HM0.out
         | ok r =>
           obtain ⟨y, j2⟩ := r
           rw [hy] at d2
           have hj2 := HM.out _ _ _ hy
           have HS5 := qh (show res = (match commasP L ex (L.length + 1) (mk 3 (p1, p2) sNil 0 [x, y]) j2 with | .error k => .error k | .ok (z, j2) => match need L j2 sKet with | .error k => .error k | .ok j3 => desP L ex L.length z j3) by rw [HS4.out, hy, HP.out]; dsimp only; cases commasP L ex (L.length + 1) (mk 3 (p1, p2) sNil 0 [x, y]) j2 with
            | error k => rfl
            | ok r => (obtain ⟨z, j3⟩ := r; dsimp only; cases need L j3 sKet <;> rfl))
           have D2 := qh d2
           clear d2 hy HS4
           go_wp2_with fail
           ((with_reducible refine (D2.out).mono ?_); rintro e wx ⟨by_, rfl, hp, hg, hr⟩)
           have HY := qh (hr.more (S' := fun y => w.heap.size ≤ y) fun y hy _ => Nat.le_trans H.out.2.size hy)
           have H := qh (H.out.trans ⟨hp, hg⟩)
           have HX := qh (repS_grown HX.out hg hbr0)
           clear hp hg hr
           have NW := qh (node_2 (B := w.heap.size) H.out.2.size 3 3 rfl p1 p2 sNil HX.out HY.out)
           go_wp2_with fail
           ((with_reducible refine NW.out.mono ?_); rintro e wx ⟨b3, rfl, hb, hr⟩)
           have H := qh (H.out.below hb)
           have HX := qh hr
           clear hb hr NW
           go_wp2_with fail
           go_loopw [3] (fun xv wr => ∃ p, xv = .pointer p ∧ Hid (LS w0 w br A c L res (fun z j3 => j < j3 ∧ res = (match commasP L ex (L.length + 1) z j3 with | .error k => .error k | .ok (z, j2) => match need L j2 sKet with | .error k => .error k | .ok j3 => desP L ex L.length z j3)) p wr)) (fun _ wr => loopM L.length wr br)
           case atStart => exact ⟨_, rfl, qh (.good (by omega) H.out HX.out ⟨by omega, HS5.out⟩)⟩
           case round =>
            clear H HX HS5 hj2
            obtain ⟨p, rfl, HL⟩ := hrel
            rcases HL.out with ⟨z, bz, j3, rfl, hj3, hG, hR, hjj, hS⟩ | ⟨k, hk8, hG, hS⟩
            case' inr =>
             have H := qh hG
             have HS := qh hS
             have SY := qh (rsym_bad HT.out (by omega) sCom _ H.out.1)
             clear HL hG hS
             go_wp2_with fail
             ((with_reducible refine (SY.out).mono ?_); rintro e wx ⟨rfl, hb⟩)
             have H := qh (H.out.below hb)
             clear hb
             have ND := qh (rneed_bad HT.out (by omega) sKet _ H.out.1)
             go_wp2_with fail
             ((with_reducible refine (ND.out).mono ?_); rintro e wx ⟨rfl, hb⟩)
             have H := qh (H.out.trans hb)
             clear hb
             have HM0 := qh (loopM_bad (w := w) H.out HO.out hj)
             go_wp2
             go_roundw
             case rel => exact ⟨_, rfl, qh (.hung H.out HS.out (by omega))⟩
             case measure => exact HM0.out
            have H := qh hG
            have HO2 := qh hG
            have HX := qh hR
            have HS5 := qh hS
            clear HL hG hS hR
            have HC := qh (commasP_succ L ex L.length z j3)
            have i1 := rsymT HT.out (i := j3) (by omega) sCom _ HOK.out (by decide) H.out.1
            cases hC : isT L j3 sCom with
            | false =>
              rw [hC] at i1
              have I1 := qh i1
              have HS6 := qh (show res = (match need L j3 sKet with | .error k => .error k | .ok j3 => desP L ex L.length z j3) by rw [HS5.out, HC.out, if_neg (by rw [hC]; simp)])
              clear i1 HS5 HC
              go_wp2_with fail
              ((with_reducible refine (I1.out).mono ?_); rintro e wx ⟨rfl, hb⟩)
              have H := qh (H.out.below hb)
              have HX := qh (HX.out.below hb)
              clear hb
              cases hK : isT L j3 sKet with
              | false =>
                have ND := qh (rneedT_no HT.out (by omega) sKet _ HOK.out (by decide) H.out.1 hK)
                have HS := qh (show res = .error j3 by rw [HS6.out]; unfold need; rw [if_neg (by rw [hK]; simp)])
                clear HS6
                go_wp2_with fail
                ((with_reducible refine (ND.out).mono ?_); rintro e wx ⟨rfl, hb⟩)
                have H := qh (H.out.trans hb)
                clear hb
                have HM0 := qh (loopM_bad (w := w) H.out HO.out hj)
                go_wp2
                go_roundw
                case rel => exact ⟨_, rfl, qh (.hung H.out HS.out (by omega))⟩
                case measure => exact HM0.out
              | true =>
                have hjlt2 := isT_lt hK
                have ND := qh (rneedT_yes HT.out (by omega) sKet _ HOK.out (by decide) H.out.1 hK)
                have HS := qh (show res = desP L ex (L.length + 1) z (j3 + 1) by rw [HS6.out]; unfold need; rw [if_pos hK]; exact HDS.out _ _ _ (by omega))
                clear HS6
                go_wp2_with fail
                ((with_reducible refine (ND.out).mono ?_); rintro e wx ⟨rfl, hb⟩)
                have H := qh (H.out.trans hb)
                have HX := qh (repS_grown HX.out hb.2 hbr0)
                clear hb
                have HM0 := qh (loopM_good (w := w) H.out HO.out hj (by omega))
                go_wp2
                go_roundw
                case rel => exact ⟨_, rfl, qh (.good (by omega) H.out HX.out ⟨by omega, HS.out⟩)⟩
                case measure => exact HM0.out
            | true =>
              rw [hC] at i1
              have I1 := qh i1
              have hjlt2 := isT_lt hC
              have HC2 := qh (HC.out.trans (if_pos hC))
              clear i1 HC
              go_wp2_with fail
              ((with_reducible refine (I1.out).mono ?_); rintro e wx ⟨rfl, hb⟩)
              have H := qh (H.out.below hb)
              have HX := qh (HX.out.below hb)
              clear hb
              obtain ⟨k_, r1, r2, q1_, q2_, t_, n_, e1, e2⟩ := val_form (tk L j3)
              have HP2 := qh (show pos L j3 = (r1, r2) by unfold pos; rw [e1])
              have n1 := rnow_any HT.out (i := j3) (by omega) _ H.out.1
              rw [e2] at n1
              have N2 := qh n1
              clear n1 e1 e2
              go_wp2_with fail
              ((with_reducible refine (N2.out).mono ?_); rintro e wx ⟨rfl, hb⟩)
              have H := qh (H.out.below hb)
              have HX := qh (HX.out.below hb)
              clear hb
              obtain ⟨m1, f1, m2, f2, hlt⟩ := H.out.1.at_
              have y0 : (0 : Int) ≤ (j3 : Int) := by omega
              have H1 := qh (H.out.set_ (j3 + 1))
              have HX1 := qh (repS_grown HX.out (Lx.grown_set _ br 1 (.int .i64 ((j3 + 1 : Nat) : Int))) hbr0)
              have d3 := HE.out (j3 + 1) (by omega) (by omega) _ H1.out.1
              rw [show ((j3 + 1 : Nat) : Int) = (j3 : Int) + 1 by omega] at d3 H1 HX1
              clear H HX
              have H := H1
              have HX := HX1
              clear H1 HX1
              cases hy : ex (j3 + 1) with
              | error k =>
                rw [hy] at d3
                have HS := qh (show res = .error k by rw [HS5.out, HC2.out, hy])
                have D3 := qh d3
                have hk8 := HME.out _ _ (by omega) hy
                clear d3 hy HS5 HC2
                go_wp2_with fail
                ((with_reducible refine (D3.out).mono ?_); rintro e wx ⟨p9, rfl, hp, hg⟩)
                have H := qh (H.out.trans ⟨hp, hg⟩)
                clear hp hg
                have NW := qh (node_un (w := wx) 3 3 rfl r1 r2 sNil (some ⟨bz, 0, none⟩) p9)
                go_wp2_with fail
                ((with_reducible refine NW.out.mono ?_); rintro e wx ⟨b_, rfl, hb⟩)
                have H := qh (H.out.below hb)
                clear hb NW
                have HM0 := qh (loopM_bad (w := w) H.out HO2.out hj3)
                go_wp2
                go_roundw
                case rel => exact ⟨_, rfl, qh (.hung H.out HS.out (by omega))⟩
                case measure => exact HM0.out
              | ok r =>
                obtain ⟨y, j4⟩ := r
                rw [hy] at d3
                have hj4 := HM.out _ _ _ hy
                have HS := qh (show res = (match commasP L ex (L.length + 1) (mk 3 (r1, r2) sNil 0 [z, y]) j4 with | .error k => .error k | .ok (z, j2) => match need L j2 sKet with | .error k => .error k | .ok j3 => desP L ex L.length z j3) by rw [HS5.out, HC2.out, hy, HP2.out]; dsimp only; rw [HCS.out _ _ _ (by omega)])
                have D3 := qh d3
                clear d3 hy HS5 HC2
                go_wp2_with fail
                ((with_reducible refine (D3.out).mono ?_); rintro e wx ⟨by_, rfl, hp, hg, hr⟩)
                have HY := qh (hr.more (S' := fun y => w.heap.size ≤ y) fun y hy _ => Nat.le_trans H.out.2.size hy)
                have H := qh (H.out.trans ⟨hp, hg⟩)
                have HX := qh (repS_grown HX.out hg hbr0)
                clear hp hg hr
                have NW := qh (node_2 (B := w.heap.size) H.out.2.size 3 3 rfl r1 r2 sNil HX.out HY.out)
                go_wp2_with fail
                ((with_reducible refine NW.out.mono ?_); rintro e wx ⟨b3, rfl, hb, hr⟩)
                have H := qh (H.out.below hb)
                have HX := qh hr
                clear hb hr NW
                have HM0 := qh (loopM_good (w := w) H.out HO2.out hj3 (by omega))
                go_wp2
                go_roundw
                case rel => exact ⟨_, rfl, qh (.good (by omega) H.out HX.out ⟨by omega, HS.out⟩)⟩
                case measure => exact HM0.out
end Go.Proofs.Ytecmjhohniipoaa.Ex
end
