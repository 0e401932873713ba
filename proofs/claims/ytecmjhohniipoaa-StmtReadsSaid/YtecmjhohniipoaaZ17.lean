/- A part of the proof: G8. -/
import Derived.Test.YtecmjhohniipoaaZ1
import Derived.Test.YtecmjhohniipoaaZ15
import Derived.Deep.QuietTactic
import Derived.Deep.RegionHeld3
import Derived.Deep.DrawnRows
set_option linter.unusedSimpArgs false
set_option linter.unusedVariables false

section
namespace Go.Proofs.Ytecmjhohniipoaa.Ex
open Go.RowKit
open Tr (Nd Fo RepS RepN Rep cellsN)
open Lx (Tk noTk Blk run_store_complexL TokAt)
open Fl
attribute [local go_sem] run_store_complexL run_field1 run_field3
theorem bytes_eqd (a b : ByteArray) : (a.toList == b.toList) = decide (a = b) := by
 have h1 : a.toList = a.data.toList := ByteArray.toList_eq a
 have h2 : b.toList = b.data.toList := ByteArray.toList_eq b
 rw [h1, h2, Bool.eq_iff_iff, beq_iff_eq, decide_eq_true_eq]
 exact ⟨fun h => Lx.bytes_ext h, fun h => by rw [h]⟩
set_option maxRecDepth 100000 in set_option maxHeartbeats 6400000 in
theorem ris_any {w0 : World} {br c i bo : Nat} {A : Option Addr} {L : List PT} {bad : Bool} (ht : Toks w0 br A L) (hi : i ≤ 900000) (w : World) (h : QInv w0 w br A c L i bad) (ol : List ByteArray) (hol : ol.length ≤ 1000) (hb0 : Lx.Blk w bo 9 (ol.map Value.string).toArray) :
 Calls Try.prog 82 #[.pointer (some ⟨br, 0, none⟩), .slice (some ⟨bo, 0, none⟩) ol.length ol.length] w fun e w' => e = .returned (.bool (!bad && (isSW (tk L i) && ol.any (fun s => decide (s = (tk L i).1.text))))) ∧ Below w.heap.size w w' := by
 have N1 := qh (rnow_any ht (by omega) w h)
 have HI := qh (show isSW (tk L i) = (decide ((tk L i).1.kind = 5) || decide ((tk L i).1.kind = 6)) from rfl)
 have H := qh h
 obtain ⟨k, p1, p2, q1, q2, t, n, e1, e2⟩ := val_form (tk L i)
 rw [e2] at N1
 have HT2 := qh (show (tk L i).1.text = t by rw [e1])
 rw [HT2.out]
 rw [e1] at HI ⊢
 have hbr := h.row.lt
 have hbo := hb0.lt
 have HBO := qh hb0
 clear e1 e2 h ht hi hb0 HT2
 have hI : isSW (⟨k, t, n⟩, (p1, p2), (q1, q2)) = (decide (k = 5) || decide (k = 6)) := HI.out
 rw [hI]
 clear hI HI
 have k5 : ((k : Int) == 5) = decide (k = 5) := by rw [Bool.eq_iff_iff, beq_iff_eq, decide_eq_true_eq]; omega
 have k6 : ((k : Int) == 6) = decide (k = 6) := by rw [Bool.eq_iff_iff, beq_iff_eq, decide_eq_true_eq]; omega
 have k5b : ((k : Int) != 5) = !decide (k = 5) := by rw [bne, k5]
 have k6b : ((k : Int) != 6) = !decide (k = 6) := by rw [bne, k6]
 generalize decide (k = 5) = b5 at *
 generalize decide (k = 6) = b6 at *
 by_cases hgo : bad = false ∧ (b5 || b6) = true
 case neg =>
  have hres : (!bad && ((b5 || b6) && ol.any (fun s => decide (s = t)))) = false := by
   cases bad <;> cases b5 <;> cases b6 <;> simp_all
  rw [hres]
  clear hres
  rcases bad with _ | _ <;> rcases b5 with _ | _ <;> rcases b6 with _ | _
  all_goals first
   | exact absurd ⟨rfl, rfl⟩ hgo
   | (clear hgo
      go_enter Try.func82, Try.ntmps82
      go_wp2_with fail
      ((with_reducible refine N1.out.mono ?_); rintro e w1 ⟨rfl, hb⟩)
      have HB := qh hb
      obtain ⟨_, _, m2, _, _⟩ := (H.out.below hb).at_
      have hs := hb.size
      have hbr1 : br < w1.heap.size := by omega
      clear hb N1 H hs
      go_wp2
      go_ret
      exact ⟨rfl, HB.out.alloc HB.out.size _⟩)
 case pos =>
  obtain ⟨rfl, hg⟩ := hgo
  rw [hg]
  simp only [Bool.not_false, Bool.true_and]
  rcases b5 with _ | _ <;> rcases b6 with _ | _
  case false.false => cases hg
  all_goals
   clear hg
   go_enter Try.func82, Try.ntmps82
   go_wp2_with fail
   ((with_reducible refine N1.out.mono ?_); rintro e w1 ⟨rfl, hb⟩)
   obtain ⟨_, _, m2, _, _⟩ := (H.out.below hb).at_
   have hs := hb.size
   have hbr1 : br < w1.heap.size := by omega
   have T0 := qh (Lx.Blk.new w1 68 #[.int .u8 k, .complex .f64 (fl p1) (fl p2), .complex .f64 (fl q1) (fl q2), .string t, .int .i64 n])
   have O0 := qh ((HBO.out.below hb hbo).alloc (.cells #[.int .u8 k, .complex .f64 (fl p1) (fl p2), .complex .f64 (fl q1) (fl q2), .string t, .int .i64 n] 68))
   have HB := qh (hb.alloc hb.size (.cells #[.int .u8 k, .complex .f64 (fl p1) (fl p2), .complex .f64 (fl q1) (fl q2), .string t, .int .i64 n] 68))
   clear hb N1 H
   go_wp2
   go_loopw [6] (fun iv wr => ∃ m : Nat, m ≤ ol.length ∧ iv = .int .i64 m ∧ Hid (Lx.Blk wr w1.heap.size 68 #[.int .u8 k, .complex .f64 (fl p1) (fl p2), .complex .f64 (fl q1) (fl q2), .string t, .int .i64 n]) ∧ Hid (Lx.Blk wr bo 9 (ol.map Value.string).toArray) ∧ Hid (Below w.heap.size w wr) ∧ Hid (ol.any (fun s => decide (s = t)) = (ol.drop m).any (fun s => decide (s = t)))) (fun iv _ => ol.length - (intOf iv).toNat)
   case atStart => exact ⟨0, Nat.zero_le _, rfl, T0, O0, HB, qh rfl⟩
   case round =>
    clear T0 O0 HB m2
    obtain ⟨m, hm, rfl, T0, O0, HB, HA⟩ := hrel
    by_cases hlt : m < ol.length
    ·have y0 : (0 : Int) ≤ (m : Int) := by omega
     have y1 : (m : Int) < (ol.length : Int) := by omega
     have hd := List.drop_eq_getElem_cons hlt
     have c3 := T0.out.cell 3
     have co : wr.cell? ⟨bo, m, none⟩ = some (.string ol[m]) := by rw [O0.out.cell m]; simp [hlt]
     simp only [List.getElem?_toArray, List.getElem?_cons_zero, List.getElem?_cons_succ] at c3
     have hq := bytes_eqd ol[m] t
     have HA2 := qh (show ol.any (fun s => decide (s = t)) = (decide (ol[m] = t) || (ol.drop (m + 1)).any (fun s => decide (s = t))) by rw [HA.out, hd, List.any_cons])
     clear HA hd
     generalize hs' : ol[m] = s' at *
     generalize decide (s' = t) = bq at *
     clear hs'
     have HT0 := qh T0.out
     cases bq
     ·go_wp2
      go_quiet (fail)
      have T1 := qh (T0.out.drewN nq)
      have O1 := qh (O0.out.drewN nq)
      have HB1 := qh (Lx.below_drewN HB.out nq)
      have HA3 := qh (show ol.any (fun s => decide (s = t)) = (ol.drop (m + 1)).any (fun s => decide (s = t)) by rw [HA2.out]; rfl)
      go_wp2
      go_roundw
      case rel => exact ⟨m + 1, by omega, by simp, T1, O1, HB1, HA3⟩
      case measure => (show ol.length - _ < ol.length - _); simp [intOf]; omega
     ·go_wp2
      go_quiet (fail)
      have HB1 := qh (Lx.below_drewN HB.out nq)
      go_wp2
      go_ret
      exact ⟨ret_bool (by rw [HA2.out]; rfl), HB1.out⟩
    ·have y1 : ¬ (m : Int) < (ol.length : Int) := by omega
     have HA2 := qh (show ol.any (fun s => decide (s = t)) = false by rw [HA.out, List.drop_of_length_le (by omega)]; rfl)
     clear HA
     go_wp2
     go_ret
     exact ⟨ret_bool (by rw [HA2.out]), HB.out⟩
end Go.Proofs.Ytecmjhohniipoaa.Ex
namespace Go.Proofs.Ytecmjhohniipoaa.Ex
open Go.RowKit
open Tr (Nd Fo RepS RepN Rep cellsN)
open Lx (Tk noTk Blk run_store_complexL TokAt)
open Fl
attribute [local go_sem] run_store_complexL run_field1 run_field3
theorem bins_same {L : List PT} {sub : Nat → Except Nat (T1 × Nat)} {su : Par T1} (hs : Strict su) (hx : ∀ j, sub j = su L j) (k f : Nat) (x : T1) (j : Nat) (h : L.length < j + f) : binsP L sub k f x j = binsP L sub k (L.length + 1) x j :=
 (bins_fuel hs (lo := 0) (fun j _ => hx j) k f (L.length + 1) x j (Nat.zero_le _) h (by omega)).trans (bins_fuel hs (lo := 0) (fun j _ => hx j) k (L.length + 1) (L.length + 1) x j (Nat.zero_le _) (by omega) (by omega)).symm
theorem held_tok {b9 br s1 s2 : Nat} {t8 : ByteArray} {x y : World} (h : x.cell? ⟨b9, 1, none⟩ = some (.complex .f64 (fl s1) (fl s2)) ∧ x.cell? ⟨b9, 3, none⟩ = some (.string t8)) (hg : x.grownBy y (some br)) (h9 : br < b9) :
 y.cell? ⟨b9, 1, none⟩ = some (.complex .f64 (fl s1) (fl s2)) ∧ y.cell? ⟨b9, 3, none⟩ = some (.string t8) :=
 ⟨hg.cell h.1 (fun e => by injection e with e; simp at e; omega), hg.cell h.2 (fun e => by injection e with e; simp at e; omega)⟩
theorem op_lt {L : List PT} {i k : Nat} (h : isOp L i k = true) : i < L.length := isOp_lt h
set_option maxRecDepth 100000 in set_option maxHeartbeats 6400000 in
theorem rterm_any {fac : Nat → Except Nat (T1 × Nat)} {su : Par T1} (he : Good su) (hs : Strict su) {lo : Nat} {w0 : World} {br c : Nat} {A : Option Addr} {L : List PT} (ht : Toks w0 br A L) (ok : OKRow L) (hx : ∀ j, fac j = su L j) (hE : RnOK 97 (fac) lo w0 br A c L) (hm : SpOK L (fac)) :
 RnOK 93 (levD L fac 1) lo w0 br A c L := by
 intro i hlo hi w h
 have hbr0 := h.row.lt
 have hlen := ht.len
 have H := qh (QG.start h)
 have HE := qh hE
 have HM := qh hm
 have HT := qh ht
 have HOK := qh ok
 have HME := qh (err_bd he hx hlen)
 have HBS := qh (bins_same (sub := fac) hs hx 2)
 have HS0 := qh (show levD L fac 1 i = (match fac i with
  | .error e => .error e
  | .ok (x, j) => binsP L fac 2 (L.length + 1) x j) from rfl)
 have d1 := hE i hlo hi w h
 generalize levD L fac 1 i = res at *
 clear hE h ht hm ok hx he hs
 go_enter Try.func93, Try.ntmps93
 cases hy : fac i with
 | error k =>
   rw [hy] at d1
   have HS := qh (show res = .error k by rw [HS0.out, hy])
   have hk8 := HME.out _ _ (by omega) hy
   have D1 := qh d1
   clear d1 hy HS0
   go_wp2_with fail
   ((with_reducible refine (D1.out).mono ?_); rintro e wx ⟨p9, rfl, hp, hg⟩)
   have H := qh (H.out.trans ⟨hp, hg⟩)
   clear hp hg
   go_wp2_with fail
   go_loopw [3] (fun xv wr => ∃ p, xv = .pointer p ∧ Hid (QG w0 w wr br A c L k true)) (fun _ _ => 0)
   case atStart => exact ⟨_, rfl, H⟩
   case round =>
    clear H
    obtain ⟨p, rfl, H⟩ := hrel
    have HA := qh (H.out.alloc (.cells #[.string ⟨#[42]⟩, .string ⟨#[47]⟩, .string ⟨#[68, 73, 86]⟩, .string ⟨#[77, 79, 68]⟩, .string ⟨#[65, 78, 68]⟩] 9))
    have IS := qh (show Calls Try.prog 82 #[.pointer (some ⟨br, 0, none⟩), .slice (some ⟨wr.heap.size, 0, none⟩) 5 5] (wr.alloc (.cells #[.string ⟨#[42]⟩, .string ⟨#[47]⟩, .string ⟨#[68, 73, 86]⟩, .string ⟨#[77, 79, 68]⟩, .string ⟨#[65, 78, 68]⟩] 9)) fun e w' => e = .returned (.bool false) ∧ Below (wr.alloc (.cells #[.string ⟨#[42]⟩, .string ⟨#[47]⟩, .string ⟨#[68, 73, 86]⟩, .string ⟨#[77, 79, 68]⟩, .string ⟨#[65, 78, 68]⟩] 9)).heap.size (wr.alloc (.cells #[.string ⟨#[42]⟩, .string ⟨#[47]⟩, .string ⟨#[68, 73, 86]⟩, .string ⟨#[77, 79, 68]⟩, .string ⟨#[65, 78, 68]⟩] 9)) w' from ris_any HT.out (by omega) _ HA.out.1 (ops 2) (by decide) (Lx.Blk.new wr 9 #[.string ⟨#[42]⟩, .string ⟨#[47]⟩, .string ⟨#[68, 73, 86]⟩, .string ⟨#[77, 79, 68]⟩, .string ⟨#[65, 78, 68]⟩]))
    go_wp2_with fail
    ((with_reducible refine IS.out.mono ?_); rintro e wi ⟨rfl, hb⟩)
    have H := qh (HA.out.below hb)
    clear hb IS HA
    go_wp2
    go_ret
    rw [HS.out]
    exact ⟨_, rfl, H.out.1, H.out.2⟩
 | ok r =>
   obtain ⟨x, j⟩ := r
   rw [hy] at d1
   have hj := (HM.out _ _ _ hy).2
   have hij := (HM.out _ _ _ hy).1
   have HS := qh (show res = binsP L fac 2 (L.length + 1) x j by rw [HS0.out, hy])
   have D1 := qh d1
   clear d1 hy HS0
   go_wp2_with fail
   ((with_reducible refine (D1.out).mono ?_); rintro e wx ⟨bx, rfl, hp, hg, hr⟩)
   have HX := qh (hr.more (S' := fun y => w.heap.size ≤ y) fun y hy _ => Nat.le_trans H.out.2.size hy)
   have H := qh (H.out.trans ⟨hp, hg⟩)
   clear hp hg hr
   go_wp2_with fail
   go_loopw [3] (fun xv wr => ∃ p, xv = .pointer p ∧ Hid (LS w0 w br A c L res (fun x j => lo ≤ j ∧ res = binsP L fac 2 (L.length + 1) x j) p wr)) (fun _ wr => loopM L.length wr br)
   case atStart => exact ⟨_, rfl, qh (.good (by omega) H.out HX.out ⟨by omega, HS.out⟩)⟩
   case round =>
    clear H HX HS hj hij
    obtain ⟨p, rfl, HL⟩ := hrel
    rcases HL.out with ⟨x, bx, j, rfl, hj, hG, hR, hjl, hS⟩ | ⟨k, hk8, hG, hS⟩
    case' inr =>
     have H := qh hG
     have HS := qh hS
     clear HL hG hS
     have HA := qh (H.out.alloc (.cells #[.string ⟨#[42]⟩, .string ⟨#[47]⟩, .string ⟨#[68, 73, 86]⟩, .string ⟨#[77, 79, 68]⟩, .string ⟨#[65, 78, 68]⟩] 9))
     have IS := qh (show Calls Try.prog 82 #[.pointer (some ⟨br, 0, none⟩), .slice (some ⟨wr.heap.size, 0, none⟩) 5 5] (wr.alloc (.cells #[.string ⟨#[42]⟩, .string ⟨#[47]⟩, .string ⟨#[68, 73, 86]⟩, .string ⟨#[77, 79, 68]⟩, .string ⟨#[65, 78, 68]⟩] 9)) fun e w' => e = .returned (.bool false) ∧ Below (wr.alloc (.cells #[.string ⟨#[42]⟩, .string ⟨#[47]⟩, .string ⟨#[68, 73, 86]⟩, .string ⟨#[77, 79, 68]⟩, .string ⟨#[65, 78, 68]⟩] 9)).heap.size (wr.alloc (.cells #[.string ⟨#[42]⟩, .string ⟨#[47]⟩, .string ⟨#[68, 73, 86]⟩, .string ⟨#[77, 79, 68]⟩, .string ⟨#[65, 78, 68]⟩] 9)) w' from ris_any HT.out (by omega) _ HA.out.1 (ops 2) (by decide) (Lx.Blk.new wr 9 #[.string ⟨#[42]⟩, .string ⟨#[47]⟩, .string ⟨#[68, 73, 86]⟩, .string ⟨#[77, 79, 68]⟩, .string ⟨#[65, 78, 68]⟩]))
     go_wp2_with fail
     ((with_reducible refine IS.out.mono ?_); rintro e wi ⟨rfl, hb⟩)
     have H := qh (HA.out.below hb)
     clear hb IS HA
     go_wp2
     go_ret
     rw [HS.out]
     exact ⟨_, rfl, H.out.1, H.out.2⟩
    obtain ⟨wo, rfl⟩ : ∃ wo : World, wo = wr := ⟨_, rfl⟩
    have H := qh hG
    have HO := qh hG
    have HX := qh hR
    have HS1 := qh (show res = _ from hS.trans (binsP_succ L fac 2 L.length x j))
    clear HL hG hS hR
    have HA := qh (H.out.alloc (.cells #[.string ⟨#[42]⟩, .string ⟨#[47]⟩, .string ⟨#[68, 73, 86]⟩, .string ⟨#[77, 79, 68]⟩, .string ⟨#[65, 78, 68]⟩] 9))
    have IS := qh (show Calls Try.prog 82 #[.pointer (some ⟨br, 0, none⟩), .slice (some ⟨wo.heap.size, 0, none⟩) 5 5] (wo.alloc (.cells #[.string ⟨#[42]⟩, .string ⟨#[47]⟩, .string ⟨#[68, 73, 86]⟩, .string ⟨#[77, 79, 68]⟩, .string ⟨#[65, 78, 68]⟩] 9)) fun e w' => e = .returned (.bool (isSW (tk L j) && (ops 2).any (fun s => decide (s = (tk L j).1.text)))) ∧ Below (wo.alloc (.cells #[.string ⟨#[42]⟩, .string ⟨#[47]⟩, .string ⟨#[68, 73, 86]⟩, .string ⟨#[77, 79, 68]⟩, .string ⟨#[65, 78, 68]⟩] 9)).heap.size (wo.alloc (.cells #[.string ⟨#[42]⟩, .string ⟨#[47]⟩, .string ⟨#[68, 73, 86]⟩, .string ⟨#[77, 79, 68]⟩, .string ⟨#[65, 78, 68]⟩] 9)) w' from ris_any HT.out (by omega) _ HA.out.1 (ops 2) (by decide) (Lx.Blk.new wo 9 #[.string ⟨#[42]⟩, .string ⟨#[47]⟩, .string ⟨#[68, 73, 86]⟩, .string ⟨#[77, 79, 68]⟩, .string ⟨#[65, 78, 68]⟩]))
    cases hop : isOp L j 2 with
    | false =>
      have IS := qh (show Calls Try.prog 82 #[.pointer (some ⟨br, 0, none⟩), .slice (some ⟨wo.heap.size, 0, none⟩) 5 5] (wo.alloc (.cells #[.string ⟨#[42]⟩, .string ⟨#[47]⟩, .string ⟨#[68, 73, 86]⟩, .string ⟨#[77, 79, 68]⟩, .string ⟨#[65, 78, 68]⟩] 9)) fun e w' => e = .returned (.bool false) ∧ Below (wo.alloc (.cells #[.string ⟨#[42]⟩, .string ⟨#[47]⟩, .string ⟨#[68, 73, 86]⟩, .string ⟨#[77, 79, 68]⟩, .string ⟨#[65, 78, 68]⟩] 9)).heap.size (wo.alloc (.cells #[.string ⟨#[42]⟩, .string ⟨#[47]⟩, .string ⟨#[68, 73, 86]⟩, .string ⟨#[77, 79, 68]⟩, .string ⟨#[65, 78, 68]⟩] 9)) w' from hop ▸ IS.out)
      have HS := qh (HS1.out.trans (if_neg (by rw [hop]; simp)))
      clear hop HS1
      go_wp2_with fail
      ((with_reducible refine IS.out.mono ?_); rintro e wi ⟨rfl, hb⟩)
      have H := qh (HA.out.below hb)
      have HX := qh ((HX.out.below ((Below.refl wo.heap.size wo).alloc (Nat.le_refl _) (.cells #[.string ⟨#[42]⟩, .string ⟨#[47]⟩, .string ⟨#[68, 73, 86]⟩, .string ⟨#[77, 79, 68]⟩, .string ⟨#[65, 78, 68]⟩] 9))).below hb)
      clear hb IS HA
      go_wp2
      go_ret
      rw [HS.out]
      exact ⟨bx, rfl, H.out.1, H.out.2, HX.out⟩
    | true =>
      have IS := qh (show Calls Try.prog 82 #[.pointer (some ⟨br, 0, none⟩), .slice (some ⟨wo.heap.size, 0, none⟩) 5 5] (wo.alloc (.cells #[.string ⟨#[42]⟩, .string ⟨#[47]⟩, .string ⟨#[68, 73, 86]⟩, .string ⟨#[77, 79, 68]⟩, .string ⟨#[65, 78, 68]⟩] 9)) fun e w' => e = .returned (.bool true) ∧ Below (wo.alloc (.cells #[.string ⟨#[42]⟩, .string ⟨#[47]⟩, .string ⟨#[68, 73, 86]⟩, .string ⟨#[77, 79, 68]⟩, .string ⟨#[65, 78, 68]⟩] 9)).heap.size (wo.alloc (.cells #[.string ⟨#[42]⟩, .string ⟨#[47]⟩, .string ⟨#[68, 73, 86]⟩, .string ⟨#[77, 79, 68]⟩, .string ⟨#[65, 78, 68]⟩] 9)) w' from hop ▸ IS.out)
      have HS4 := qh (HS1.out.trans (if_pos hop))
      have hjlt := op_lt hop
      clear hop HS1
      go_wp2_with fail
      ((with_reducible refine IS.out.mono ?_); rintro e wi ⟨rfl, hb⟩)
      have H := qh (HA.out.below hb)
      have HX := qh ((HX.out.below ((Below.refl wo.heap.size wo).alloc (Nat.le_refl _) (.cells #[.string ⟨#[42]⟩, .string ⟨#[47]⟩, .string ⟨#[68, 73, 86]⟩, .string ⟨#[77, 79, 68]⟩, .string ⟨#[65, 78, 68]⟩] 9))).below hb)
      clear hb IS HA
      obtain ⟨k8, s1, s2, q3, q4, t8, n8, e1, e2⟩ := val_form (tk L j)
      have HP := qh (show pos L j = (s1, s2) by unfold pos; rw [e1])
      have HTX := qh (show (tk L j).1.text = t8 by rw [e1])
      have n1 := rnow_any HT.out (i := j) (by omega) _ H.out.1
      rw [e2] at n1
      have N1 := qh n1
      clear n1 e1 e2
      go_wp2_with fail
      ((with_reducible refine N1.out.mono ?_); rintro e w1 ⟨rfl, hb⟩)
      have H1 := qh (H.out.below hb)
      have HX := qh (HX.out.below hb)
      have hlt := H1.out.1.row.lt
      have H2 := qh ((H1.out.set_ (j + 1)).alloc (.cells #[.int .u8 k8, .complex .f64 (fl s1) (fl s2), .complex .f64 (fl q3) (fl q4), .string t8, .int .i64 n8] 68))
      have HX := qh ((repS_grown HX.out (Lx.grown_set w1 br 1 (.int .i64 ((j + 1 : Nat) : Int))) hbr0).below ((Below.refl (w1.setCell ⟨br, 1, none⟩ (.int .i64 ((j + 1 : Nat) : Int))).heap.size (w1.setCell ⟨br, 1, none⟩ (.int .i64 ((j + 1 : Nat) : Int)))).alloc (Nat.le_refl _) (.cells #[.int .u8 k8, .complex .f64 (fl s1) (fl s2), .complex .f64 (fl q3) (fl q4), .string t8, .int .i64 n8] 68)))
      have T1 := qh (show Lx.Blk ((w1.setCell ⟨br, 1, none⟩ (.int .i64 ((j + 1 : Nat) : Int))).alloc (.cells #[.int .u8 k8, .complex .f64 (fl s1) (fl s2), .complex .f64 (fl q3) (fl q4), .string t8, .int .i64 n8] 68)) w1.heap.size 68 #[.int .u8 k8, .complex .f64 (fl s1) (fl s2), .complex .f64 (fl q3) (fl q4), .string t8, .int .i64 n8] by
       have := Lx.Blk.new (w1.setCell ⟨br, 1, none⟩ (.int .i64 ((j + 1 : Nat) : Int))) 68 #[.int .u8 k8, .complex .f64 (fl s1) (fl s2), .complex .f64 (fl q3) (fl q4), .string t8, .int .i64 n8]
       rwa [World.size_setCell] at this)
      obtain ⟨m1, f1, m2, f2, _⟩ := H1.out.1.at_
      have x0 : (0 : Int) ≤ (j : Int) := by omega
      have hne : ¬ br = w1.heap.size := by omega
      have hne2 : ¬ w1.heap.size = br := by omega
      rw [show ((j + 1 : Nat) : Int) = (j : Int) + 1 by omega] at H2 HX T1
      clear hb N1 H H1
      go_wp2
      generalize hwe : (w1.setCell ⟨br, 1, none⟩ (.int .i64 ((j : Int) + 1))).alloc (.cells #[.int .u8 k8, .complex .f64 (fl s1) (fl s2), .complex .f64 (fl q3) (fl q4), .string t8, .int .i64 n8] 68) = we at *
      clear hwe
      have c1 := T1.out.cell 1
      have c3 := T1.out.cell 3
      simp only [List.getElem?_toArray, List.getElem?_cons_zero, List.getElem?_cons_succ] at c1 c3
      have hbd1 : Below we.heap.size we we.drew := (Below.refl _ _).drew
      have H := qh (H2.out.below hbd1)
      have HX := qh (HX.out.below hbd1)
      have d2 := HE.out (j + 1) (by omega) (by omega) we.drew H.out.1
      have HD0 : we.drew.cell? ⟨w1.heap.size, 1, none⟩ = some (.complex .f64 (fl s1) (fl s2)) ∧ we.drew.cell? ⟨w1.heap.size, 3, none⟩ = some (.string t8) := ⟨c1, c3⟩
      clear c1 c3 T1 H2 hbd1 m1 f1 m2 f2
      cases hy : fac (j + 1) with
      | error k =>
        rw [hy] at d2
        have HS := qh (show res = .error k by rw [HS4.out, hy])
        have hk8 := HME.out _ _ (by omega) hy
        have D2 := qh d2
        clear d2 hy HS4
        go_region_held3 (fun w' => w'.cell? ⟨w1.heap.size, 1, none⟩ = some (.complex .f64 (fl s1) (fl s2)) ∧ w'.cell? ⟨w1.heap.size, 3, none⟩ = some (.string t8))
         ((first | (with_reducible exact HD0) | (with_reducible assumption) | exact held_tok HD0 (by assumption) hlt | (exact held_tok (br := br) (by assumption) (grown_of_below (by assumption) _) hlt)))
         ((first
           | (go_at_call 97; (with_reducible refine D2.out.mono ?_); rintro e wg ⟨p9, rfl, hp, hg⟩)
           | (go_at_call 83; (with_reducible refine (node_un 11 11 rfl s1 s2 t8 (some ⟨bx, 0, none⟩) p9).mono ?_); rintro e wh ⟨b_, rfl, hb⟩)))
        clear HD0 D2
        have H := qh ((H.out.trans ⟨hp, hg⟩).below hb)
        clear hp hg hb
        have HM0 := qh (loopM_bad (w := w) H.out HO.out hj)
        go_wp2
        go_roundw
        case rel => exact ⟨_, rfl, qh (.hung H.out HS.out (by omega))⟩
        case measure => exact HM0.out
      | ok r =>
        obtain ⟨y, j2⟩ := r
        rw [hy] at d2
        have hj2 := HM.out _ _ _ hy
        have HS := qh (show res = binsP L fac 2 (L.length + 1) (mk 11 (s1, s2) t8 0 [x, y]) j2 by rw [HS4.out, hy, HTX.out, HP.out]; exact HBS.out _ _ _ (by omega))
        have D2 := qh d2
        clear d2 hy HS4
        go_region_held3 (fun w' => w'.cell? ⟨w1.heap.size, 1, none⟩ = some (.complex .f64 (fl s1) (fl s2)) ∧ w'.cell? ⟨w1.heap.size, 3, none⟩ = some (.string t8))
         ((first | (with_reducible exact HD0) | (with_reducible assumption) | exact held_tok HD0 (by assumption) hlt | (exact held_tok (br := br) (by assumption) (grown_of_below (by assumption) _) hlt)))
         ((first
           | (go_at_call 97; (with_reducible refine D2.out.mono ?_); rintro e wg ⟨by_, rfl, hp, hg, hr⟩)
           | (go_at_call 83; (with_reducible refine (node_2 (B := w.heap.size) (by have := H.out.2.size; have := hg.size; omega) 11 11 rfl s1 s2 t8 (repS_grown HX.out hg hbr0) (hr.more (S' := fun y => w.heap.size ≤ y) fun y hy _ => Nat.le_trans H.out.2.size hy)).mono ?_); rintro e wh ⟨b_, rfl, hb, hr2⟩)))
        clear HD0 D2
        have H := qh ((H.out.trans ⟨hp, hg⟩).below hb)
        have HX := qh hr2
        clear hp hg hb hr hr2
        have HM0 := qh (loopM_good (w := w) H.out HO.out hj (by omega))
        go_wp2
        go_roundw
        case rel => exact ⟨_, rfl, qh (.good (by omega) H.out HX.out ⟨by omega, HS.out⟩)⟩
        case measure => exact HM0.out
end Go.Proofs.Ytecmjhohniipoaa.Ex
namespace Go.Proofs.Ytecmjhohniipoaa.Ex
open Go.RowKit
open Tr (Nd Fo RepS RepN Rep cellsN)
open Lx (Tk noTk Blk run_store_complexL TokAt)
open Fl
attribute [local go_sem] run_store_complexL run_field1 run_field3
set_option maxRecDepth 100000 in set_option maxHeartbeats 6400000 in
theorem rexpr_any {fac : Nat → Except Nat (T1 × Nat)} {su : Par T1} (he : Good su) {lo : Nat} {w0 : World} {br c : Nat} {A : Option Addr} {L : List PT} (ht : Toks w0 br A L) (ok : OKRow L) (hx : ∀ j, levD L fac 2 j = su L j) (hE : RnOK 81 (levD L fac 2) lo w0 br A c L) (hm : SpOK L (levD L fac 2)) :
 RnOK 63 (exprG L fac) lo w0 br A c L := by
 intro i hlo hi w h
 have hbr0 := h.row.lt
 have hlen := ht.len
 have H := qh (QG.start h)
 have HE := qh hE
 have HM := qh hm
 have HT := qh ht
 have HOK := qh ok
 have HME := qh (err_bd he hx hlen)
 have HS0 := qh (show exprG L fac i = (match levD L fac 2 i with
  | .error e => .error e
  | .ok (x, j) => binsP L (levD L fac 2) 0 (L.length + 1) x j) from rfl)
 have d1 := hE i hlo hi w h
 generalize exprG L fac i = res at *
 clear hE h ht hm ok hx he
 go_enter Try.func63, Try.ntmps63
 cases hy : levD L fac 2 i with
 | error k =>
   rw [hy] at d1
   have HS := qh (show res = .error k by rw [HS0.out, hy])
   have hk8 := HME.out _ _ (by omega) hy
   have D1 := qh d1
   clear d1 hy HS0
   go_wp2_with fail
   ((with_reducible refine (D1.out).mono ?_); rintro e wx ⟨p9, rfl, hp, hg⟩)
   have H := qh (H.out.trans ⟨hp, hg⟩)
   clear hp hg
   have HA := qh (H.out.alloc (.cells #[.string ⟨#[61]⟩, .string ⟨#[35]⟩, .string ⟨#[60]⟩, .string ⟨#[60, 61]⟩, .string ⟨#[62]⟩, .string ⟨#[62, 61]⟩, .string ⟨#[73, 78]⟩] 9))
   have IS := qh (show Calls Try.prog 82 #[.pointer (some ⟨br, 0, none⟩), .slice (some ⟨wx.heap.size, 0, none⟩) 7 7] (wx.alloc (.cells #[.string ⟨#[61]⟩, .string ⟨#[35]⟩, .string ⟨#[60]⟩, .string ⟨#[60, 61]⟩, .string ⟨#[62]⟩, .string ⟨#[62, 61]⟩, .string ⟨#[73, 78]⟩] 9)) fun e w' => e = .returned (.bool false) ∧ Below (wx.alloc (.cells #[.string ⟨#[61]⟩, .string ⟨#[35]⟩, .string ⟨#[60]⟩, .string ⟨#[60, 61]⟩, .string ⟨#[62]⟩, .string ⟨#[62, 61]⟩, .string ⟨#[73, 78]⟩] 9)).heap.size (wx.alloc (.cells #[.string ⟨#[61]⟩, .string ⟨#[35]⟩, .string ⟨#[60]⟩, .string ⟨#[60, 61]⟩, .string ⟨#[62]⟩, .string ⟨#[62, 61]⟩, .string ⟨#[73, 78]⟩] 9)) w' from ris_any HT.out (by omega) _ HA.out.1 (ops 0) (by decide) (Lx.Blk.new wx 9 #[.string ⟨#[61]⟩, .string ⟨#[35]⟩, .string ⟨#[60]⟩, .string ⟨#[60, 61]⟩, .string ⟨#[62]⟩, .string ⟨#[62, 61]⟩, .string ⟨#[73, 78]⟩]))
   go_wp2_with fail
   ((with_reducible refine IS.out.mono ?_); rintro e wi ⟨rfl, hb⟩)
   have H := qh (HA.out.below hb)
   clear hb IS HA
   go_wp2
   go_ret
   rw [HS.out]
   exact ⟨_, rfl, H.out.1, H.out.2⟩
 | ok r =>
   obtain ⟨x, j⟩ := r
   rw [hy] at d1
   have hj := (HM.out _ _ _ hy).2
   have hij := (HM.out _ _ _ hy).1
   have HS := qh (show res = binsP L (levD L fac 2) 0 (L.length + 1) x j by rw [HS0.out, hy])
   have D1 := qh d1
   clear d1 hy HS0
   go_wp2_with fail
   ((with_reducible refine (D1.out).mono ?_); rintro e wx ⟨bx, rfl, hp, hg, hr⟩)
   have HX := qh (hr.more (S' := fun y => w.heap.size ≤ y) fun y hy _ => Nat.le_trans H.out.2.size hy)
   have H := qh (H.out.trans ⟨hp, hg⟩)
   clear hp hg hr
   have HS1 := qh (HS.out.trans (binsP_succ L (levD L fac 2) 0 L.length x j))
   clear HS
   have HA := qh (H.out.alloc (.cells #[.string ⟨#[61]⟩, .string ⟨#[35]⟩, .string ⟨#[60]⟩, .string ⟨#[60, 61]⟩, .string ⟨#[62]⟩, .string ⟨#[62, 61]⟩, .string ⟨#[73, 78]⟩] 9))
   have IS := qh (show Calls Try.prog 82 #[.pointer (some ⟨br, 0, none⟩), .slice (some ⟨wx.heap.size, 0, none⟩) 7 7] (wx.alloc (.cells #[.string ⟨#[61]⟩, .string ⟨#[35]⟩, .string ⟨#[60]⟩, .string ⟨#[60, 61]⟩, .string ⟨#[62]⟩, .string ⟨#[62, 61]⟩, .string ⟨#[73, 78]⟩] 9)) fun e w' => e = .returned (.bool (isSW (tk L j) && (ops 0).any (fun s => decide (s = (tk L j).1.text)))) ∧ Below (wx.alloc (.cells #[.string ⟨#[61]⟩, .string ⟨#[35]⟩, .string ⟨#[60]⟩, .string ⟨#[60, 61]⟩, .string ⟨#[62]⟩, .string ⟨#[62, 61]⟩, .string ⟨#[73, 78]⟩] 9)).heap.size (wx.alloc (.cells #[.string ⟨#[61]⟩, .string ⟨#[35]⟩, .string ⟨#[60]⟩, .string ⟨#[60, 61]⟩, .string ⟨#[62]⟩, .string ⟨#[62, 61]⟩, .string ⟨#[73, 78]⟩] 9)) w' from ris_any HT.out (by omega) _ HA.out.1 (ops 0) (by decide) (Lx.Blk.new wx 9 #[.string ⟨#[61]⟩, .string ⟨#[35]⟩, .string ⟨#[60]⟩, .string ⟨#[60, 61]⟩, .string ⟨#[62]⟩, .string ⟨#[62, 61]⟩, .string ⟨#[73, 78]⟩]))
   cases hop : isOp L j 0 with
   | false =>
     have IS := qh (show Calls Try.prog 82 #[.pointer (some ⟨br, 0, none⟩), .slice (some ⟨wx.heap.size, 0, none⟩) 7 7] (wx.alloc (.cells #[.string ⟨#[61]⟩, .string ⟨#[35]⟩, .string ⟨#[60]⟩, .string ⟨#[60, 61]⟩, .string ⟨#[62]⟩, .string ⟨#[62, 61]⟩, .string ⟨#[73, 78]⟩] 9)) fun e w' => e = .returned (.bool false) ∧ Below (wx.alloc (.cells #[.string ⟨#[61]⟩, .string ⟨#[35]⟩, .string ⟨#[60]⟩, .string ⟨#[60, 61]⟩, .string ⟨#[62]⟩, .string ⟨#[62, 61]⟩, .string ⟨#[73, 78]⟩] 9)).heap.size (wx.alloc (.cells #[.string ⟨#[61]⟩, .string ⟨#[35]⟩, .string ⟨#[60]⟩, .string ⟨#[60, 61]⟩, .string ⟨#[62]⟩, .string ⟨#[62, 61]⟩, .string ⟨#[73, 78]⟩] 9)) w' from hop ▸ IS.out)
     have HS := qh (HS1.out.trans (if_neg (by rw [hop]; simp)))
     clear hop HS1
     go_wp2_with fail
     ((with_reducible refine IS.out.mono ?_); rintro e wi ⟨rfl, hb⟩)
     have H := qh (HA.out.below hb)
     have HX := qh ((HX.out.below ((Below.refl wx.heap.size wx).alloc (Nat.le_refl _) (.cells #[.string ⟨#[61]⟩, .string ⟨#[35]⟩, .string ⟨#[60]⟩, .string ⟨#[60, 61]⟩, .string ⟨#[62]⟩, .string ⟨#[62, 61]⟩, .string ⟨#[73, 78]⟩] 9))).below hb)
     clear hb IS HA
     go_wp2
     go_ret
     rw [HS.out]
     exact ⟨bx, rfl, H.out.1, H.out.2, HX.out⟩
   | true =>
     have IS := qh (show Calls Try.prog 82 #[.pointer (some ⟨br, 0, none⟩), .slice (some ⟨wx.heap.size, 0, none⟩) 7 7] (wx.alloc (.cells #[.string ⟨#[61]⟩, .string ⟨#[35]⟩, .string ⟨#[60]⟩, .string ⟨#[60, 61]⟩, .string ⟨#[62]⟩, .string ⟨#[62, 61]⟩, .string ⟨#[73, 78]⟩] 9)) fun e w' => e = .returned (.bool true) ∧ Below (wx.alloc (.cells #[.string ⟨#[61]⟩, .string ⟨#[35]⟩, .string ⟨#[60]⟩, .string ⟨#[60, 61]⟩, .string ⟨#[62]⟩, .string ⟨#[62, 61]⟩, .string ⟨#[73, 78]⟩] 9)).heap.size (wx.alloc (.cells #[.string ⟨#[61]⟩, .string ⟨#[35]⟩, .string ⟨#[60]⟩, .string ⟨#[60, 61]⟩, .string ⟨#[62]⟩, .string ⟨#[62, 61]⟩, .string ⟨#[73, 78]⟩] 9)) w' from hop ▸ IS.out)
     have HS4 := qh (HS1.out.trans (if_pos hop))
     have hjlt := op_lt hop
     clear hop HS1
     go_wp2_with fail
     ((with_reducible refine IS.out.mono ?_); rintro e wi ⟨rfl, hb⟩)
     have H := qh (HA.out.below hb)
     have HX := qh ((HX.out.below ((Below.refl wx.heap.size wx).alloc (Nat.le_refl _) (.cells #[.string ⟨#[61]⟩, .string ⟨#[35]⟩, .string ⟨#[60]⟩, .string ⟨#[60, 61]⟩, .string ⟨#[62]⟩, .string ⟨#[62, 61]⟩, .string ⟨#[73, 78]⟩] 9))).below hb)
     clear hb IS HA
     obtain ⟨k8, s1, s2, q3, q4, t8, n8, e1, e2⟩ := val_form (tk L j)
     have HP := qh (show pos L j = (s1, s2) by unfold pos; rw [e1])
     have HTX := qh (show (tk L j).1.text = t8 by rw [e1])
     have n1 := rnow_any HT.out (i := j) (by omega) _ H.out.1
     rw [e2] at n1
     have N1 := qh n1
     clear n1 e1 e2
     go_wp2_with fail
     ((with_reducible refine N1.out.mono ?_); rintro e w1 ⟨rfl, hb⟩)
     have H1 := qh (H.out.below hb)
     have HX := qh (HX.out.below hb)
     have hlt := H1.out.1.row.lt
     have H2 := qh ((H1.out.set_ (j + 1)).alloc (.cells #[.int .u8 k8, .complex .f64 (fl s1) (fl s2), .complex .f64 (fl q3) (fl q4), .string t8, .int .i64 n8] 68))
     have HX := qh ((repS_grown HX.out (Lx.grown_set w1 br 1 (.int .i64 ((j + 1 : Nat) : Int))) hbr0).below ((Below.refl (w1.setCell ⟨br, 1, none⟩ (.int .i64 ((j + 1 : Nat) : Int))).heap.size (w1.setCell ⟨br, 1, none⟩ (.int .i64 ((j + 1 : Nat) : Int)))).alloc (Nat.le_refl _) (.cells #[.int .u8 k8, .complex .f64 (fl s1) (fl s2), .complex .f64 (fl q3) (fl q4), .string t8, .int .i64 n8] 68)))
     have T1 := qh (show Lx.Blk ((w1.setCell ⟨br, 1, none⟩ (.int .i64 ((j + 1 : Nat) : Int))).alloc (.cells #[.int .u8 k8, .complex .f64 (fl s1) (fl s2), .complex .f64 (fl q3) (fl q4), .string t8, .int .i64 n8] 68)) w1.heap.size 68 #[.int .u8 k8, .complex .f64 (fl s1) (fl s2), .complex .f64 (fl q3) (fl q4), .string t8, .int .i64 n8] by
      have := Lx.Blk.new (w1.setCell ⟨br, 1, none⟩ (.int .i64 ((j + 1 : Nat) : Int))) 68 #[.int .u8 k8, .complex .f64 (fl s1) (fl s2), .complex .f64 (fl q3) (fl q4), .string t8, .int .i64 n8]
      rwa [World.size_setCell] at this)
     obtain ⟨m1, f1, m2, f2, _⟩ := H1.out.1.at_
     have x0 : (0 : Int) ≤ (j : Int) := by omega
     have hne : ¬ br = w1.heap.size := by omega
     have hne2 : ¬ w1.heap.size = br := by omega
     rw [show ((j + 1 : Nat) : Int) = (j : Int) + 1 by omega] at H2 HX T1
     clear hb N1 H H1
     go_wp2
     generalize hwe : (w1.setCell ⟨br, 1, none⟩ (.int .i64 ((j : Int) + 1))).alloc (.cells #[.int .u8 k8, .complex .f64 (fl s1) (fl s2), .complex .f64 (fl q3) (fl q4), .string t8, .int .i64 n8] 68) = we at *
     clear hwe
     have c1 := T1.out.cell 1
     have c3 := T1.out.cell 3
     simp only [List.getElem?_toArray, List.getElem?_cons_zero, List.getElem?_cons_succ] at c1 c3
     have hbd1 : Below we.heap.size we we.drew := (Below.refl _ _).drew
     have H := qh (H2.out.below hbd1)
     have HX := qh (HX.out.below hbd1)
     have d2 := HE.out (j + 1) (by omega) (by omega) we.drew H.out.1
     have HD0 : we.drew.cell? ⟨w1.heap.size, 1, none⟩ = some (.complex .f64 (fl s1) (fl s2)) ∧ we.drew.cell? ⟨w1.heap.size, 3, none⟩ = some (.string t8) := ⟨c1, c3⟩
     clear c1 c3 T1 H2 hbd1 m1 f1 m2 f2
     cases hy : levD L fac 2 (j + 1) with
     | error k =>
       rw [hy] at d2
       have HS := qh (show res = .error k by rw [HS4.out, hy])
       have hk8 := HME.out _ _ (by omega) hy
       have D2 := qh d2
       clear d2 hy HS4
       go_region_held3 (fun w' => w'.cell? ⟨w1.heap.size, 1, none⟩ = some (.complex .f64 (fl s1) (fl s2)) ∧ w'.cell? ⟨w1.heap.size, 3, none⟩ = some (.string t8))
        ((first | (with_reducible exact HD0) | (with_reducible assumption) | exact held_tok HD0 (by assumption) hlt | (exact held_tok (br := br) (by assumption) (grown_of_below (by assumption) _) hlt)))
        ((first
          | (go_at_call 81; (with_reducible refine D2.out.mono ?_); rintro e wg ⟨p9, rfl, hp, hg⟩)
          | (go_at_call 83; (with_reducible refine (node_un 11 11 rfl s1 s2 t8 (some ⟨bx, 0, none⟩) p9).mono ?_); rintro e wh ⟨b_, rfl, hb⟩)))
       clear HD0 D2
       have H := qh ((H.out.trans ⟨hp, hg⟩).below hb)
       clear hp hg hb
       go_wp2
       go_ret
       rw [HS.out]
       exact ⟨_, rfl, H.out.1, H.out.2⟩
     | ok r =>
       obtain ⟨y, j2⟩ := r
       rw [hy] at d2
       have hj2 := HM.out _ _ _ hy
       have HS := qh (show res = .ok (mk 11 (s1, s2) t8 0 [x, y], j2) by rw [HS4.out, hy, HTX.out, HP.out]; rfl)
       have D2 := qh d2
       clear d2 hy HS4
       go_region_held3 (fun w' => w'.cell? ⟨w1.heap.size, 1, none⟩ = some (.complex .f64 (fl s1) (fl s2)) ∧ w'.cell? ⟨w1.heap.size, 3, none⟩ = some (.string t8))
        ((first | (with_reducible exact HD0) | (with_reducible assumption) | exact held_tok HD0 (by assumption) hlt | (exact held_tok (br := br) (by assumption) (grown_of_below (by assumption) _) hlt)))
        ((first
          | (go_at_call 81; (with_reducible refine D2.out.mono ?_); rintro e wg ⟨by_, rfl, hp, hg, hr⟩)
          | (go_at_call 83; (with_reducible refine (node_2 (B := w.heap.size) (by have := H.out.2.size; have := hg.size; omega) 11 11 rfl s1 s2 t8 (repS_grown HX.out hg hbr0) (hr.more (S' := fun y => w.heap.size ≤ y) fun y hy _ => Nat.le_trans H.out.2.size hy)).mono ?_); rintro e wh ⟨b_, rfl, hb, hr2⟩)))
       clear HD0 D2
       have H := qh ((H.out.trans ⟨hp, hg⟩).below hb)
       have HX := qh hr2
       clear hp hg hb hr hr2
       go_wp2
       go_ret
       rw [HS.out]
       exact ⟨b_, rfl, H.out.1, H.out.2, HX.out⟩
end Go.Proofs.Ytecmjhohniipoaa.Ex
end
