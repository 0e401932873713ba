/- A part of the proof: E21. -/
import Derived.Test.YtkemhmfdooghkaaGreatDoorW1
import Derived.Test.YtkemhmfdooghkaaGreatDoorW21
import Derived.Deep.DrawnRows
import Derived.Deep.RegionHeld3
import Derived.Deep.RegionHeldLaw
set_option linter.unusedSimpArgs false
set_option linter.unusedVariables false
set_option maxRecDepth 100000
set_option maxHeartbeats 6400000
namespace Go.Proofs.YtkemhmfdooghkaaGreatDoor.Ex
open Go.RowKit
open Tr (Nd Fo RepS RepN Rep)
open Lx (Tk noTk Blk run_store_complexL TokAt)
open Fl
attribute [local go_sem] run_store_complexL run_field1 run_field3
attribute [local go_sem ↓] Go.wp_at_zero Go.wp_at_succ
theorem name_in {L : List PT} {i : Nat} (h : 2 ≤ (tk L i).1.kind ∧ (tk L i).1.kind ≤ 4) : i < L.length := by
 rcases Nat.lt_or_ge i L.length with h1 | h1
 ·exact h1
 ·unfold tk at h
  rw [List.getElem?_eq_none h1] at h
  simp [noPT, noTk] at h
theorem fac_lit {w0 : World} {br c : Nat} {A : Option Addr} {L : List PT} {f : Nat} (ht : Toks w0 br A L) (i : Nat) (hi : i ≤ 60000) (w : World) (h : PInv w0 w br A c L i) (hk : 2 ≤ (tk L i).1.kind ∧ (tk L i).1.kind ≤ 4) :
 Calls Tryz.prog 142 #[.pointer (some ⟨br, 0, none⟩)] w (TreeR w.heap.size w0 w br A c L (factP L (f + 1) i)) := by
 have hbr0 := h.row.lt
 have hlen := ht.len
 have H := qh (PG.start h)
 have HT := qh ht
 obtain ⟨k9, p1, p2, q1, q2, t9, n9, e1, e2⟩ := val_form (tk L i)
 have HTK := qh e1
 have HPOS := qh (show pos L i = (p1, p2) by unfold pos; rw [e1])
 have n1 := now_any ht (by omega) w h
 rw [e2] at n1
 have N1 := qh n1
 have hlk := kin_look k9 (by rw [e1] at hk; exact hk)
 have hk0 := kin_0
 have hk1 := kin_1
 have hk2 := kin_2
 have hmk := @run_makeMap Tryz.prog
 have hmf : ∀ (fn : Fn) (first cap : Array Value) (w : World), (Instr.makeFunc fn first cap).run Tryz.prog w = .ok (.func fn first cap) w := fun _ _ _ _ => rfl
 have HS0 := qh (factP_succ L f i)
 rw [HPOS.out] at HS0
 generalize factP L (f + 1) i = res at *
 clear n1 e2 h ht
 have HS := qh (show res = .ok ((⟨k9 + 3, (p1, p2), t9, n9⟩, .no), i + 1) by rw [HS0.out, if_pos hk, e1]; rfl)
 have hil := name_in hk
 clear hk e1 HS0
 go_enter Tryz.func142, Tryz.ntmps142
 go_wp2_with fail
 ((with_reducible refine (N1.out).mono ?_); rintro e w1 ⟨rfl, hb⟩)
 have hba : Below w1.heap.size w1 (w1.alloc (.cells #[.int .u8 k9, .complex .f64 (fl p1) (fl p2), .complex .f64 (fl q1) (fl q2), .string t9, .int .i64 n9] 40)) := (Below.refl _ _).alloc (Nat.le_refl _) _
 have hbm : Below (w1.alloc (.cells #[.int .u8 k9, .complex .f64 (fl p1) (fl p2), .complex .f64 (fl q1) (fl q2), .string t9, .int .i64 n9] 40)).heap.size (w1.alloc (.cells #[.int .u8 k9, .complex .f64 (fl p1) (fl p2), .complex .f64 (fl q1) (fl q2), .string t9, .int .i64 n9] 40)) ((w1.alloc (.cells #[.int .u8 k9, .complex .f64 (fl p1) (fl p2), .complex .f64 (fl q1) (fl q2), .string t9, .int .i64 n9] 40)).alloc (mapO [(.int .u8 2, .int .u8 5), (.int .u8 3, .int .u8 6), (.int .u8 4, .int .u8 7)])) := (Below.refl _ _).alloc (Nat.le_refl _) _
 have hb3 := Blk.new w1 40 #[.int .u8 k9, .complex .f64 (fl p1) (fl p2), .complex .f64 (fl q1) (fl q2), .string t9, .int .i64 n9]
 have HB3 := qh (hb3.alloc (mapO [(.int .u8 2, .int .u8 5), (.int .u8 3, .int .u8 6), (.int .u8 4, .int .u8 7)]))
 have H := qh (((H.out.below hb).below hba).below hbm)
 have hw1 : w.heap.size ≤ w1.heap.size := hb.size
 obtain ⟨c0, c1, c2, c3, c4, f0, f1, f2, f3, f4⟩ := hb3.tok
 clear hb hba hbm hb3 N1
 obtain ⟨a1, a2, a3⟩ := H.out.1.at_
 have x0 : (0 : Int) ≤ (i : Int) := by omega
 have hsz : ((w1.alloc (.cells #[.int .u8 k9, .complex .f64 (fl p1) (fl p2), .complex .f64 (fl q1) (fl q2), .string t9, .int .i64 n9] 40)).alloc (mapO [(.int .u8 2, .int .u8 5), (.int .u8 3, .int .u8 6), (.int .u8 4, .int .u8 7)])).heap.size = w1.heap.size + 1 + 1 := by simp [World.size_alloc]
 have H := qh (H.out.set_ (i + 1))
 have NW := qh (fun W (hW : w.heap.size ≤ W.heap.size) => new_at (B := w.heap.size) (w := W) hW ((k9 : Int) + 3) (k9 + 3) (by omega) p1 p2 t9 n9 none 0 0 [] .no rfl (by omega) Reads.none_ (by unfold RepN; rfl))
 have HZ := qh H.out.2.size
 rw [show (((i + 1 : Nat) : Int)) = (i : Int) + 1 from by omega] at H HZ
 go_wp2_with fail
 ((with_reducible refine (NW.out _ HZ.out).mono ?_); rintro e w3 ⟨b, rfl, hb, hr⟩)
 have H := qh (H.out.below hb)
 have HR := qh hr
 clear hb hr NW
 go_wp2
 (try simp only [Exit.inBlock, Exit.then])
 go_ret
 rw [HS.out]
 exact ⟨b, rfl, H.out.1, H.out.2, HR.out⟩
theorem fac_par {w0 : World} {br c : Nat} {A : Option Addr} {L : List PT} {f : Nat} (ht : Toks w0 br A L) {lo : Nat} (hF : FnOK 142 (factP L f) lo w0 br A c L) (i : Nat) (hlo : lo ≤ i + 1) (hi : i ≤ 60000) (w : World) (h : PInv w0 w br A c L i) (hk : ¬ (2 ≤ (tk L i).1.kind ∧ (tk L i).1.kind ≤ 4)) (hsPar : isT L i sPar = true) :
 Calls Tryz.prog 142 #[.pointer (some ⟨br, 0, none⟩)] w (TreeR w.heap.size w0 w br A c L (factP L (f + 1) i)) := by
 have HE := qh (expr_any ht hF (factP_ok f))
 have HM := qh (levD_ok (factP_ok (L := L) f) 3)
 clear hF
 have hbr0 := h.row.lt
 have hlen := ht.len
 have H := qh (PG.start h)
 have HT := qh ht
 obtain ⟨k9, p1, p2, q1, q2, t9, n9, e1, e2⟩ := val_form (tk L i)
 have HTK := qh e1
 have HPOS := qh (show pos L i = (p1, p2) by unfold pos; rw [e1])
 have n1 := now_any ht (by omega) w h
 rw [e2] at n1
 have N1 := qh n1
 have hlk := kin_none k9 (by rw [e1] at hk; exact hk)
 have hk0 := kin_0
 have hk1 := kin_1
 have hk2 := kin_2
 have hmk := @run_makeMap Tryz.prog
 have hmf : ∀ (fn : Fn) (first cap : Array Value) (w : World), (Instr.makeFunc fn first cap).run Tryz.prog w = .ok (.func fn first cap) w := fun _ _ _ _ => rfl
 have HS0 := qh (factP_succ L f i)
 rw [HPOS.out] at HS0
 generalize factP L (f + 1) i = res at *
 clear n1 e2 h ht
 have HS1 := qh (show res = (match exprG L (factP L f) (i + 1) with
  | .error k => .error k
  | .ok (x, j) => match need L j sRap with
    | .error k => .error k
    | .ok j2 => .ok (x, j2)) by rw [HS0.out, if_neg hk, if_pos hsPar]; try rfl)
 have hil := isT_lt hsPar
 clear hk e1 HS0
 go_enter Tryz.func142, Tryz.ntmps142
 go_wp2_with fail
 ((with_reducible refine (N1.out).mono ?_); rintro e w1 ⟨rfl, hb⟩)
 have hba : Below w1.heap.size w1 (w1.alloc (.cells #[.int .u8 k9, .complex .f64 (fl p1) (fl p2), .complex .f64 (fl q1) (fl q2), .string t9, .int .i64 n9] 40)) := (Below.refl _ _).alloc (Nat.le_refl _) _
 have hbm : Below (w1.alloc (.cells #[.int .u8 k9, .complex .f64 (fl p1) (fl p2), .complex .f64 (fl q1) (fl q2), .string t9, .int .i64 n9] 40)).heap.size (w1.alloc (.cells #[.int .u8 k9, .complex .f64 (fl p1) (fl p2), .complex .f64 (fl q1) (fl q2), .string t9, .int .i64 n9] 40)) ((w1.alloc (.cells #[.int .u8 k9, .complex .f64 (fl p1) (fl p2), .complex .f64 (fl q1) (fl q2), .string t9, .int .i64 n9] 40)).alloc (mapO [(.int .u8 2, .int .u8 5), (.int .u8 3, .int .u8 6), (.int .u8 4, .int .u8 7)])) := (Below.refl _ _).alloc (Nat.le_refl _) _
 have hb3 := Blk.new w1 40 #[.int .u8 k9, .complex .f64 (fl p1) (fl p2), .complex .f64 (fl q1) (fl q2), .string t9, .int .i64 n9]
 have HB3 := qh (hb3.alloc (mapO [(.int .u8 2, .int .u8 5), (.int .u8 3, .int .u8 6), (.int .u8 4, .int .u8 7)]))
 have H := qh (((H.out.below hb).below hba).below hbm)
 have hw1 : w.heap.size ≤ w1.heap.size := hb.size
 obtain ⟨c0, c1, c2, c3, c4, f0, f1, f2, f3, f4⟩ := hb3.tok
 clear hb hba hbm hb3 N1
 have EY := qh (eat_yes HT.out (by omega) sPar _ H.out.1 hsPar)
 go_wp2_with fail
 ((with_reducible refine EY.out.mono ?_); rintro e wx ⟨rfl, hb⟩)
 have H := qh (H.out.trans hb)
 have HB3 := qh (HB3.out.grown hb.2 (fun e => by injection e with e; omega))
 clear hb EY
 clear c0 c1 c2 c3 c4 f0 f1 f2 f3 f4 hlk hk0 hk1 hk2 hmk
 have d1 := HE.out (i + 1) hlo (by omega) wx H.out.1
 cases hx : exprG L (factP L f) (i + 1) with
 | error k =>
   rw [hx] at d1
   have HS := qh (show res = .error k by rw [HS1.out, hx])
   have D1 := qh d1
   clear d1 hx HS1
   go_wp2_with fail
   ((with_reducible refine (D1.out).mono ?_); rintro e w1 ⟨rfl, hb⟩)
   have H3 := qh (grown_trans H.out.2 hb)
   clear hb
   go_wp2
   refine ⟨rfl, ?_⟩
   rw [HS.out]
   exact ⟨rfl, H3.out⟩
 | ok r =>
   obtain ⟨x, j⟩ := r
   rw [hx] at d1
   have hj := HM.out _ _ _ hx
   have HS2 := qh (show res = (match need L j sRap with
    | .error k => .error k
    | .ok j2 => .ok (x, j2)) by rw [HS1.out, hx])
   have D1 := qh d1
   clear d1 hx HS1
   go_wp2_with fail
   ((with_reducible refine D1.out.mono ?_); rintro e w4 ⟨bx, rfl, hp, hg, hr⟩)
   have HX := qh (hr.more (S' := fun y => w.heap.size ≤ y) fun y hy _ => Nat.le_trans H.out.2.size hy)
   have H := qh (H.out.trans ⟨hp, hg⟩)
   clear hp hg hr D1
   cases hK : isT L j sRap with
   | false =>
     have ND := qh (need_no HT.out (by omega) sRap _ H.out.1 hK)
     have HS := qh (show res = .error j by rw [HS2.out]; unfold need; rw [if_neg (by rw [hK]; simp)])
     clear HS2
     go_wp2_with fail
     ((with_reducible refine (ND.out).mono ?_); rintro e w1 ⟨rfl, hb⟩)
     have H3 := qh (grown_trans H.out.2 hb)
     clear hb
     go_wp2
     refine ⟨rfl, ?_⟩
     rw [HS.out]
     exact ⟨rfl, H3.out⟩
   | true =>
     have ND := qh (need_ok HT.out (by omega) sRap _ H.out.1 hK)
     have HS := qh (show res = .ok (x, j + 1) by rw [HS2.out]; unfold need; rw [if_pos hK])
     clear HS2
     go_wp2_with fail
     ((with_reducible refine ND.out.mono ?_); rintro e w5 ⟨rfl, hb⟩)
     have H := qh (H.out.trans hb)
     have HX := qh (repS_grown HX.out hb.2 hbr0)
     clear hb
     go_wp2
     (try simp only [Exit.inBlock, Exit.then])
     go_ret
     rw [HS.out]
     exact ⟨bx, rfl, H.out.1, H.out.2, HX.out⟩
theorem held1 {b br p1 p2 : Nat} {x y : World} (h : x.cell? ⟨b, 1, none⟩ = some (.complex .f64 (fl p1) (fl p2))) (hg : x.grownBy y (some br)) (h9 : br < b) : y.cell? ⟨b, 1, none⟩ = some (.complex .f64 (fl p1) (fl p2)) :=
 hg.cell h (fun e => by injection e with e; simp at e; omega)
theorem fac_not {w0 : World} {br c : Nat} {A : Option Addr} {L : List PT} {f : Nat} (ht : Toks w0 br A L) {lo : Nat} (hF : FnOK 142 (factP L f) lo w0 br A c L) (i : Nat) (hlo : lo ≤ i + 1) (hi : i ≤ 60000) (w : World) (h : PInv w0 w br A c L i) (hk : ¬ (2 ≤ (tk L i).1.kind ∧ (tk L i).1.kind ≤ 4)) (hsPar : isT L i sPar = false) (hsNot : isT L i sNot = true) :
 Calls Tryz.prog 142 #[.pointer (some ⟨br, 0, none⟩)] w (TreeR w.heap.size w0 w br A c L (factP L (f + 1) i)) := by
 have HF := qh hF
 clear hF
 have hbr0 := h.row.lt
 have hlen := ht.len
 have H := qh (PG.start h)
 have HT := qh ht
 obtain ⟨k9, p1, p2, q1, q2, t9, n9, e1, e2⟩ := val_form (tk L i)
 have HTK := qh e1
 have HPOS := qh (show pos L i = (p1, p2) by unfold pos; rw [e1])
 have n1 := now_any ht (by omega) w h
 rw [e2] at n1
 have N1 := qh n1
 have hlk := kin_none k9 (by rw [e1] at hk; exact hk)
 have hk0 := kin_0
 have hk1 := kin_1
 have hk2 := kin_2
 have hmk := @run_makeMap Tryz.prog
 have hmf : ∀ (fn : Fn) (first cap : Array Value) (w : World), (Instr.makeFunc fn first cap).run Tryz.prog w = .ok (.func fn first cap) w := fun _ _ _ _ => rfl
 have HS0 := qh (factP_succ L f i)
 rw [HPOS.out] at HS0
 generalize factP L (f + 1) i = res at *
 clear n1 e2 h ht
 have HS1 := qh (show res = (match factP L f (i + 1) with
  | .error k => .error k
  | .ok (x, j) => .ok (mk 12 (p1, p2) sNot 0 [x], j)) by rw [HS0.out, if_neg hk, if_neg (by rw [hsPar]; simp), if_pos hsNot]; try rfl)
 have hil := isT_lt hsNot
 clear hk e1 HS0
 go_enter Tryz.func142, Tryz.ntmps142
 go_wp2_with fail
 ((with_reducible refine (N1.out).mono ?_); rintro e w1 ⟨rfl, hb⟩)
 have hba : Below w1.heap.size w1 (w1.alloc (.cells #[.int .u8 k9, .complex .f64 (fl p1) (fl p2), .complex .f64 (fl q1) (fl q2), .string t9, .int .i64 n9] 40)) := (Below.refl _ _).alloc (Nat.le_refl _) _
 have hbm : Below (w1.alloc (.cells #[.int .u8 k9, .complex .f64 (fl p1) (fl p2), .complex .f64 (fl q1) (fl q2), .string t9, .int .i64 n9] 40)).heap.size (w1.alloc (.cells #[.int .u8 k9, .complex .f64 (fl p1) (fl p2), .complex .f64 (fl q1) (fl q2), .string t9, .int .i64 n9] 40)) ((w1.alloc (.cells #[.int .u8 k9, .complex .f64 (fl p1) (fl p2), .complex .f64 (fl q1) (fl q2), .string t9, .int .i64 n9] 40)).alloc (mapO [(.int .u8 2, .int .u8 5), (.int .u8 3, .int .u8 6), (.int .u8 4, .int .u8 7)])) := (Below.refl _ _).alloc (Nat.le_refl _) _
 have hb3 := Blk.new w1 40 #[.int .u8 k9, .complex .f64 (fl p1) (fl p2), .complex .f64 (fl q1) (fl q2), .string t9, .int .i64 n9]
 have HB3 := qh (hb3.alloc (mapO [(.int .u8 2, .int .u8 5), (.int .u8 3, .int .u8 6), (.int .u8 4, .int .u8 7)]))
 have H := qh (((H.out.below hb).below hba).below hbm)
 have hw1 : w.heap.size ≤ w1.heap.size := hb.size
 obtain ⟨c0, c1, c2, c3, c4, f0, f1, f2, f3, f4⟩ := hb3.tok
 clear hb hba hbm hb3 N1
 have EY := qh (eat_no HT.out (by omega) sPar _ H.out.1 hsPar)
 go_wp2_with fail
 ((with_reducible refine EY.out.mono ?_); rintro e wx ⟨rfl, hb⟩)
 have H := qh (H.out.trans hb)
 have HB3 := qh (HB3.out.grown hb.2 (fun e => by injection e with e; omega))
 clear hb EY
 have EY := qh (eat_yes HT.out (by omega) sNot _ H.out.1 hsNot)
 go_wp2_with fail
 ((with_reducible refine EY.out.mono ?_); rintro e wx ⟨rfl, hb⟩)
 have H := qh (H.out.trans hb)
 have HB3 := qh (HB3.out.grown hb.2 (fun e => by injection e with e; omega))
 clear hb EY
 clear c0 c1 c2 c3 c4 f0 f1 f2 f3 f4 hlk hk0 hk1 hk2 hmk
 go_wp2
 have hbd1 : Below wx.heap.size wx wx.drew := (Below.refl _ _).drew
 have H := qh (H.out.below hbd1)
 have HB3 := qh (HB3.out.below hbd1 HB3.out.lt)
 have hbw : br < w1.heap.size := by omega
 have HD0 : wx.drew.cell? ⟨w1.heap.size, 1, none⟩ = some (.complex .f64 (fl p1) (fl p2)) := HB3.out.cell 1
 have d2 := HF.out (i + 1) hlo (by omega) wx.drew H.out.1
 clear hbd1
 cases hy : factP L f (i + 1) with
 | error e0 =>
   rw [hy] at d2
   have HS := qh (show res = .error e0 by rw [HS1.out, hy])
   have D2 := qh (d2.mono (R' := fun e w' => (∃ b, e = .returned (.pointer (some ⟨b, 0, none⟩)) ∧ Hid False ∧ wx.drew.grownBy w' (some br)) ∨ (e = bad e0 ∧ wx.drew.grownBy w' (some br))) fun e w' h => .inr h)
   clear d2 hy HS1
   go_region_held_law (fun w' => w'.cell? ⟨w1.heap.size, 1, none⟩ = some (.complex .f64 (fl p1) (fl p2)))
    ((first | (with_reducible exact HD0) | (with_reducible assumption) | (exact hF.out.elim)))
    ((first | (go_at_call 142; (with_reducible refine D2.out.mono ?_); rintro e wg (⟨by_, rfl, hF, hg⟩ | ⟨rfl, hb⟩); case' inr => exact ⟨rfl, by rw [HS.out]; exact ⟨rfl, grown_trans H.out.2 hb⟩⟩) | (go_at_call 33; refine Calls.mono (R := fun e w' => e = .returned (.pointer none) ∧ Below 0 w' w') hF.out.elim ?_; rintro e wh ⟨rfl, hb⟩)))
   exact hF.out.elim
 | ok r =>
   obtain ⟨y, j2⟩ := r
   rw [hy] at d2
   have HS := qh (show res = .ok (mk 12 (p1, p2) sNot 0 [y], j2) by rw [HS1.out, hy])
   have D2 := qh d2
   clear d2 hy HS1
   go_region_held3 (fun w' => w'.cell? ⟨w1.heap.size, 1, none⟩ = some (.complex .f64 (fl p1) (fl p2)))
    ((first | (with_reducible exact HD0) | (with_reducible assumption) | exact held1 HD0 (by assumption) hbw | (exact held1 (br := br) (by assumption) (grown_of_below ((Below.refl _ _).alloc (Nat.le_refl _) _) _) hbw) | (exact held1 (br := br) (by assumption) (grown_of_below (by assumption) _) hbw)))
    ((first
      | (go_at_call 142; (with_reducible refine D2.out.mono ?_); rintro e wg ⟨by_, rfl, hp, hg, hr⟩)
      | (go_at_call 33; (with_reducible refine (new_at (B := w.heap.size) (by have := H.out.2.size; have := hg.size; rw [World.size_alloc]; omega) 12 12 rfl p1 p2 sNot 0 (some ⟨wg.heap.size, 0, none⟩) 1 1 [.pointer (some ⟨by_, 0, none⟩)] (.node y.1 y.2 .no) rfl (by omega) (reads_lit wg #[.pointer (some ⟨by_, 0, none⟩)] _) (kids1 (hr.more (S' := fun y => w.heap.size ≤ y) fun y hy _ => Nat.le_trans H.out.2.size hy) _)).mono ?_); rintro e wh ⟨b, rfl, hb, hr2⟩)))
   have H2 := qh (((H.out.trans ⟨hp, hg⟩).alloc (.cells #[.pointer (some ⟨by_, 0, none⟩)] 31)).below hb)
   have HX := qh hr2
   clear hp hg hr hb hr2 H HD0
   go_wp2
   (try simp only [Exit.inBlock, Exit.then])
   go_ret
   rw [HS.out]
   exact ⟨b, rfl, H2.out.1, H2.out.2, HX.out⟩
theorem kids_app {B g : Nat} {W w1 : World} {l : List T1} {vs : List Value} (hr : RepS (fun y => B ≤ y ∧ y ≠ g) W (forest l) vs) (hg : W.grownBy w1 (some g)) : RepS (fun y => B ≤ y) w1 (forest l) vs :=
 hr.keep hg.size (fun x hx hl => hg.block x hl (fun e => by injection e with e; exact hx.2 e)) (fun x hx _ => hx.1)
theorem PG.gfar {w0 w wr w1 : World} {br c i i' : Nat} {A : Option Addr} {L : List PT} {row : Option Nat} (h : PG w0 w wr br A c L i) (hw : PInv w0 w br A c L i') (hg : wr.grownBy w1 row) (hr : ∀ k, row = some k → w.heap.size ≤ k) : PG w0 w w1 br A c L i := by
 have hl := hw.row.lt
 have hs := hw.grown.size
 have hk : ∀ (a : World), a.heap.size ≤ w.heap.size → a.grownBy wr (some br) → a.grownBy w1 (some br) := fun a ha h =>
  ⟨hg.os.trans h.os, hg.tape.trans h.tape, hg.output.trans h.output, Nat.le_trans h.size hg.size, fun k hk hne => (hg.block k (Nat.lt_of_lt_of_le hk h.size) (fun e => by have := hr k e.symm; omega)).trans (h.block k hk hne)⟩
 exact ⟨⟨h.1.row.grown hg (fun e => by have := hr _ e.symm; omega), hk w0 hs h.1.grown⟩, hk w (Nat.le_refl _) h.2⟩
theorem repN_nil {S : Nat → Prop} {w : World} {f : Fo} {vs : List Value} (h : RepN S w f vs) : RepN S w (.node Tr.zeroN .no f) ([.pointer none] ++ vs) := by
 show RepN S w (.node Tr.zeroN .no f) (.pointer none :: vs)
 unfold RepN
 exact ⟨_, vs, rfl, .inl ⟨rfl, rfl, rfl⟩, h⟩
theorem len_one (v : Value) (vs : List Value) : ([v] ++ vs).length = 1 + vs.length := by rw [List.length_append, List.length_singleton]
theorem ownl {w : World} {base : Nat} {v : Value} (hb : base ≤ w.heap.size) : (w.alloc (.cells #[v] 31)).ownsRow base 31 1 (.slice (some ⟨w.heap.size, 0, none⟩) 1 1) 1 [v] :=
 World.ownsRow_lit w #[v] 1 hb (by unfold maxLen; omega) rfl
theorem fac_set {w0 : World} {br c : Nat} {A : Option Addr} {L : List PT} {f : Nat} (ht : Toks w0 br A L) {lo : Nat} (hF : FnOK 142 (factP L f) lo w0 br A c L) (i : Nat) (hlo : lo ≤ i + 1) (hi : i ≤ 60000) (w : World) (h : PInv w0 w br A c L i) (hk : ¬ (2 ≤ (tk L i).1.kind ∧ (tk L i).1.kind ≤ 4)) (hsPar : isT L i sPar = false) (hsNot : isT L i sNot = false) (hsCur : isT L i sCur = true) :
 Calls Tryz.prog 142 #[.pointer (some ⟨br, 0, none⟩)] w (TreeR w.heap.size w0 w br A c L (factP L (f + 1) i)) := by
 have HX := levD_ok (factP_ok (L := L) f) 3
 have BTW := qh (fun W h => between_elem ht (elem_any ht (expr_any ht hF (factP_ok f)) HX) (elemP_ok HX) (i + 1) hlo (by have := isT_lt hsCur; have := ht.len; omega) sRuc W h)
 have H0 := qh h
 clear hF HX
 have hbr0 := h.row.lt
 have hlen := ht.len
 have H := qh (PG.start h)
 have HT := qh ht
 obtain ⟨k9, p1, p2, q1, q2, t9, n9, e1, e2⟩ := val_form (tk L i)
 have HTK := qh e1
 have HPOS := qh (show pos L i = (p1, p2) by unfold pos; rw [e1])
 have n1 := now_any ht (by omega) w h
 rw [e2] at n1
 have N1 := qh n1
 have hlk := kin_none k9 (by rw [e1] at hk; exact hk)
 have hk0 := kin_0
 have hk1 := kin_1
 have hk2 := kin_2
 have hmk := @run_makeMap Tryz.prog
 have hmf : ∀ (fn : Fn) (first cap : Array Value) (w : World), (Instr.makeFunc fn first cap).run Tryz.prog w = .ok (.func fn first cap) w := fun _ _ _ _ => rfl
 have HS0 := qh (factP_succ L f i)
 rw [HPOS.out] at HS0
 generalize factP L (f + 1) i = res at *
 clear n1 e2 h ht
 have HS1 := qh (show res = (match betweenP L (elemP L (exprG L (factP L f))) sRuc (i + 1) with
  | .error k => .error k
  | .ok (l, j) => .ok (mk 8 (p1, p2) sNil 0 (zeroT :: l), j)) by rw [HS0.out, if_neg hk, if_neg (by rw [hsPar]; simp), if_neg (by rw [hsNot]; simp), if_pos hsCur]; try rfl)
 have hil := isT_lt hsCur
 obtain ⟨i0, hi0, hz0, hz1, hz2⟩ := info_parts infoN
 clear hk e1 HS0
 go_enter Tryz.func142, Tryz.ntmps142
 go_wp2_with fail
 ((with_reducible refine (N1.out).mono ?_); rintro e w1 ⟨rfl, hb⟩)
 have hba : Below w1.heap.size w1 (w1.alloc (.cells #[.int .u8 k9, .complex .f64 (fl p1) (fl p2), .complex .f64 (fl q1) (fl q2), .string t9, .int .i64 n9] 40)) := (Below.refl _ _).alloc (Nat.le_refl _) _
 have hbm : Below (w1.alloc (.cells #[.int .u8 k9, .complex .f64 (fl p1) (fl p2), .complex .f64 (fl q1) (fl q2), .string t9, .int .i64 n9] 40)).heap.size (w1.alloc (.cells #[.int .u8 k9, .complex .f64 (fl p1) (fl p2), .complex .f64 (fl q1) (fl q2), .string t9, .int .i64 n9] 40)) ((w1.alloc (.cells #[.int .u8 k9, .complex .f64 (fl p1) (fl p2), .complex .f64 (fl q1) (fl q2), .string t9, .int .i64 n9] 40)).alloc (mapO [(.int .u8 2, .int .u8 5), (.int .u8 3, .int .u8 6), (.int .u8 4, .int .u8 7)])) := (Below.refl _ _).alloc (Nat.le_refl _) _
 have hb3 := Blk.new w1 40 #[.int .u8 k9, .complex .f64 (fl p1) (fl p2), .complex .f64 (fl q1) (fl q2), .string t9, .int .i64 n9]
 have HB3 := qh (hb3.alloc (mapO [(.int .u8 2, .int .u8 5), (.int .u8 3, .int .u8 6), (.int .u8 4, .int .u8 7)]))
 have H := qh (((H.out.below hb).below hba).below hbm)
 have hw1 : w.heap.size ≤ w1.heap.size := hb.size
 obtain ⟨c0, c1, c2, c3, c4, f0, f1, f2, f3, f4⟩ := hb3.tok
 clear hb hba hbm hb3 N1
 have EY := qh (eat_no HT.out (by omega) sPar _ H.out.1 hsPar)
 go_wp2_with fail
 ((with_reducible refine EY.out.mono ?_); rintro e wx ⟨rfl, hb⟩)
 have H := qh (H.out.trans hb)
 have HB3 := qh (HB3.out.grown hb.2 (fun e => by injection e with e; omega))
 clear hb EY
 have EY := qh (eat_no HT.out (by omega) sNot _ H.out.1 hsNot)
 go_wp2_with fail
 ((with_reducible refine EY.out.mono ?_); rintro e wx ⟨rfl, hb⟩)
 have H := qh (H.out.trans hb)
 have HB3 := qh (HB3.out.grown hb.2 (fun e => by injection e with e; omega))
 clear hb EY
 have EY := qh (eat_yes HT.out (by omega) sCur _ H.out.1 hsCur)
 go_wp2_with fail
 ((with_reducible refine EY.out.mono ?_); rintro e wx ⟨rfl, hb⟩)
 have H := qh (H.out.trans hb)
 have HB3 := qh (HB3.out.grown hb.2 (fun e => by injection e with e; omega))
 clear hb EY
 clear c0 c1 c2 c3 c4 f0 f1 f2 f3 f4 hlk hk0 hk1 hk2 hmk
 go_wp2
 have hbd1 : Below wx.heap.size wx wx.drew := (Below.refl _ _).drew
 have H := qh (H.out.below hbd1)
 have HB3 := qh (HB3.out.below hbd1 HB3.out.lt)
 have hbw : br < w1.heap.size := by omega
 have hxw : w1.heap.size < wx.heap.size := HB3.out.lt
 have hxz : wx.drew.heap.size = wx.heap.size := rfl
 have HD0 : wx.drew.cell? ⟨w1.heap.size, 1, none⟩ = some (.complex .f64 (fl p1) (fl p2)) := HB3.out.cell 1
 have d2 := BTW.out wx.drew H.out.1
 have d3 := BTW.out ((wx.alloc (.cells #[.pointer none] 31)).drew) (show PInv w0 (wx.drew.alloc (.cells #[.pointer none] 31)) br A c L (i + 1) from (H.out.alloc (.cells #[.pointer none] 31)).1)
 have HXA := qh (show (wx.alloc (.cells #[.pointer none] 31)).drew.heap.size = wx.heap.size + 1 by show (wx.alloc (.cells #[.pointer none] 31)).heap.size = _; rw [World.size_alloc])
 clear hbd1 BTW
 cases hy : betweenP L (elemP L (exprG L (factP L f))) sRuc (i + 1) with
 | error e0 =>
   rw [hy] at d2 d3
   have HS := qh (show res = .error e0 by rw [HS1.out, hy])
   have D2 := qh (d2.mono (R' := fun e w' => (∃ (a : Option Addr) (n k : Nat), e = .returned (.slice a n k) ∧ Hid False ∧ wx.drew.grownBy w' (some br)) ∨ (e = bad e0 ∧ wx.drew.grownBy w' (some br))) fun e w' h => .inr h)
   have D3 := qh (d3.mono (R' := fun e w' => (∃ (a : Option Addr) (n k : Nat), e = .returned (.slice a n k) ∧ Hid False ∧ wx.drew.grownBy w' (some br)) ∨ (e = bad e0 ∧ wx.drew.grownBy w' (some br))) fun e w' h => .inr ⟨h.1, (grown_trans (grown_of_below ((Below.refl _ _).alloc (Nat.le_refl _) _) _) h.2)⟩)
   clear d2 d3 hy HS1
   go_region_held_law (fun w' => w'.cell? ⟨w1.heap.size, 1, none⟩ = some (.complex .f64 (fl p1) (fl p2)))
    ((first | (with_reducible exact HD0) | (with_reducible assumption) | (exact hF.out.elim) | (exact held1 (br := br) (by assumption) (grown_of_below ((Below.refl _ _).alloc (Nat.le_refl _) _) _) hbw)))
    ((first
      | (go_at_call 160; (with_reducible refine D2.out.mono ?_); rintro e wg (⟨a_, n_, k_, rfl, hF, hg⟩ | ⟨rfl, hb⟩); case' inr => exact ⟨rfl, by rw [HS.out]; exact ⟨rfl, grown_trans H.out.2 hb⟩⟩)
      | (go_at_call 160; (with_reducible refine D3.out.mono ?_); rintro e wg (⟨a_, n_, k_, rfl, hF, hg⟩ | ⟨rfl, hb⟩); case' inr => exact ⟨rfl, by rw [HS.out]; exact ⟨rfl, grown_trans H.out.2 hb⟩⟩)
      | (refine step_app _ (by rfl) _ _ _ (by rfl) 0 31 i0 _ 1 8 Tryz.underlying36 hi0 hz0 hz1 hz2 rfl (by omega) _ 1 [.pointer none] (by rfl) hF.out.elim 0 _ _ _ [] (by rfl) hF.out.elim hF.out.elim hF.out.elim hF.out.elim hF.out.elim ?_; intro A2 c2 wk hown hgk)
      | (go_at_call 33; refine Calls.mono (R := fun e w' => e = .returned (.pointer none) ∧ Below 0 w' w') hF.out.elim ?_; rintro e wh ⟨rfl, hb⟩)))
   all_goals exact hF.out.elim
 | ok r =>
   obtain ⟨l, j2⟩ := r
   rw [hy] at d2 d3
   have HS := qh (show res = .ok (mk 8 (p1, p2) sNil 0 (zeroT :: l), j2) by rw [HS1.out, hy])
   have D2 := qh d2
   have D3 := qh d3
   clear d2 d3 hy HS1
   go_region_held3 (fun w' => w'.cell? ⟨w1.heap.size, 1, none⟩ = some (.complex .f64 (fl p1) (fl p2)))
    ((first | (with_reducible exact HD0) | (with_reducible assumption) | exact held1 HD0 (by assumption) hbw | (exact held1 (br := br) (by assumption) (grown_of_below ((Below.refl _ _).alloc (Nat.le_refl _) _) _) hbw) | (exact held1 (br := br) (by assumption) (by assumption) hbw) | (exact held1 (br := br) (by assumption) (grown_of_below (by assumption) _) hbw) | (exact hgk.cell (by assumption) (fun e => by injection e with e; simp at e; omega))))
    ((first
      | (go_at_call 160; (with_reducible refine D2.out.mono ?_); rintro e wg ⟨A', c', vs, rfl, hp, hg, hrd, hr, hvl, hone, hll, hlc⟩; have OW := qh (ownl (w := wg) (base := w.heap.size) (v := .pointer none) (by have := H.out.2.size; have := hg.size; omega)); have RD := qh (hrd.alloc (Nat.le_refl _) (.cells #[.pointer none] 31)); have TR := qh (show RepS (fun y => w.heap.size ≤ y ∧ y ≠ wg.heap.size) (wg.alloc (.cells #[.pointer none] 31)) (forest l) vs from (hr.more (S' := fun y => w.heap.size ≤ y ∧ y ≠ wg.heap.size) fun y hy hl => ⟨by have := H.out.2.size; omega, Nat.ne_of_lt hl⟩).below ((Below.refl _ _).alloc (Nat.le_refl _) _)); have HP := qh ((H.out.trans ⟨hp, hg⟩).alloc (.cells #[.pointer none] 31)); have hvs := Nat.le_of_eq hvl; have hbs := H.out.2.size; have hgs := hg.size; clear hrd hr hvl)
      | (go_at_call 160; (with_reducible refine D3.out.mono ?_); rintro e wg ⟨A', c', vs, rfl, hp, hg, hrd, hr, hvl, hone, hll, hlc⟩; have OW := qh ((ownl (w := wx.drew) (base := w.heap.size) (v := .pointer none) (by have := H.out.2.size; omega)).kept hg (.inr (by show some wx.heap.size ≠ some br; intro e; injection e with e; omega))); have RD := qh hrd; have TR := qh (show RepS (fun y => w.heap.size ≤ y ∧ y ≠ wx.heap.size) wg (forest l) vs from (hr.more (S' := fun y => w.heap.size ≤ y ∧ y ≠ wx.heap.size) fun y hy hl => ⟨by have := H.out.2.size; rw [HXA.out] at hy; omega, by rw [HXA.out] at hy; omega⟩)); have HP := qh ((H.out.alloc (.cells #[.pointer none] 31)).trans ⟨hp, hg⟩); have hvs := Nat.le_of_eq hvl; have hbs := H.out.2.size; have hgs := hg.size; rw [HXA.out] at hgs; clear hrd hr hvl)
      | (refine step_app _ (by rfl) _ _ _ (by rfl) w.heap.size 31 i0 _ 1 8 Tryz.underlying36 hi0 hz0 hz1 hz2 rfl (by omega) _ 1 [.pointer none] (by rfl) OW.out _ A' vs.length c' vs (by rfl) RD.out hone (by unfold maxLen; omega) (by omega) (by have := HP.out.2.size; omega) ?_; intro A2 c2 wk hown hgk; have KD := qh (kids_app TR.out hgk); have HP2 := qh (HP.out.gfar H0.out hgk (fun k e => by injection e with e; simp at e; omega)); have RD2 := qh (Reads.of_own hown))
      | (go_at_call 33; (with_reducible refine (new_at (B := w.heap.size) HP2.out.2.size 8 8 rfl p1 p2 sNil 0 A2 c2 (1 + vs.length) ([.pointer none] ++ vs) (.node Tr.zeroN .no (forest l)) (len_one _ _) (by omega) RD2.out (repN_nil (repN_of KD.out))).mono ?_); rintro e wh ⟨b, rfl, hb, hr2⟩)))
   all_goals
    have H2 := qh (HP2.out.below hb)
    have HX := qh hr2
    clear hp hg hb hr2 H HD0 hown hgk
    go_wp2
    (try simp only [Exit.inBlock, Exit.then])
    go_ret
    rw [HS.out]
    exact ⟨b, rfl, H2.out.1, H2.out.2, HX.out⟩
theorem fac_des {w0 : World} {br c : Nat} {A : Option Addr} {L : List PT} {f : Nat} (ht : Toks w0 br A L) {lo : Nat} (hF : FnOK 142 (factP L f) (lo + 1) w0 br A c L) (i : Nat) (hlo : lo ≤ i) (hi : i ≤ 60000) (w : World) (h : PInv w0 w br A c L i) (hk : ¬ (2 ≤ (tk L i).1.kind ∧ (tk L i).1.kind ≤ 4)) (hsPar : isT L i sPar = false) (hsNot : isT L i sNot = false) (hsCur : isT L i sCur = false) :
 Calls Tryz.prog 142 #[.pointer (some ⟨br, 0, none⟩)] w (TreeR w.heap.size w0 w br A c L (factP L (f + 1) i)) := by
 have HX := levD_ok (factP_ok (L := L) f) 3
 have DS := qh (design_any ht (expr_any ht hF (factP_ok f)) HX i hlo hi w)
 have HDM := qh (designP_ok HX)
 have HDD := qh (fun j y (h : designP L (exprG L (factP L f)) i = .ok (y, j)) => designP_dot h)
 have BTE := qh (fun j hj hj2 W h => between_expr ht (expr_any ht hF (factP_ok f)) HX j hj hj2 sRap W h)
 have BTS := qh (fun j hj hj2 W h => between_elem ht (elem_any ht (expr_any ht hF (factP_ok f)) HX) (elemP_ok HX) j hj hj2 sRuc W h)
 have DS2 := qh (fun W h => design_any ht (expr_any ht hF (factP_ok f)) HX i hlo hi W h)
 have H0 := qh h
 clear hF HX DS
 have hbr0 := h.row.lt
 have hlen := ht.len
 have H := qh (PG.start h)
 have HT := qh ht
 obtain ⟨k9, p1, p2, q1, q2, t9, n9, e1, e2⟩ := val_form (tk L i)
 have HTK := qh e1
 have HPOS := qh (show pos L i = (p1, p2) by unfold pos; rw [e1])
 have n1 := now_any ht (by omega) w h
 rw [e2] at n1
 have N1 := qh n1
 have hlk := kin_none k9 (by rw [e1] at hk; exact hk)
 have hk0 := kin_0
 have hk1 := kin_1
 have hk2 := kin_2
 have hmk := @run_makeMap Tryz.prog
 have hmf : ∀ (fn : Fn) (first cap : Array Value) (w : World), (Instr.makeFunc fn first cap).run Tryz.prog w = .ok (.func fn first cap) w := fun _ _ _ _ => rfl
 have HS0 := qh (factP_succ L f i)
 rw [HPOS.out] at HS0
 generalize factP L (f + 1) i = res at *
 clear n1 e2 h ht
 have HS1 := qh (show res = (match designP L (exprG L (factP L f)) i with
  | .error k => .error k
  | .ok (x, j) => if plainT x = true ∧ isT L j sCur = true then (match betweenP L (elemP L (exprG L (factP L f))) sRuc (j + 1) with
     | .error k => .error k
     | .ok (l, j2) => .ok (mk 8 (p1, p2) sNil 0 (x :: l), j2))
    else if isT L j sPar = true then (match betweenP L (exprG L (factP L f)) sRap (j + 1) with
     | .error k => .error k
     | .ok (l, j2) => .ok (mk 10 (pos L j) sNil 0 (x :: l), j2))
    else .ok (x, j)) by rw [HS0.out, if_neg hk, if_neg (by rw [hsPar]; simp), if_neg (by rw [hsNot]; simp), if_neg (by rw [hsCur]; simp)]; try rfl)
 obtain ⟨i0, hi0, hz0, hz1, hz2⟩ := info_parts infoN
 clear hk e1 HS0
 go_enter Tryz.func142, Tryz.ntmps142
 go_wp2_with fail
 ((with_reducible refine (N1.out).mono ?_); rintro e w1 ⟨rfl, hb⟩)
 have hba : Below w1.heap.size w1 (w1.alloc (.cells #[.int .u8 k9, .complex .f64 (fl p1) (fl p2), .complex .f64 (fl q1) (fl q2), .string t9, .int .i64 n9] 40)) := (Below.refl _ _).alloc (Nat.le_refl _) _
 have hbm : Below (w1.alloc (.cells #[.int .u8 k9, .complex .f64 (fl p1) (fl p2), .complex .f64 (fl q1) (fl q2), .string t9, .int .i64 n9] 40)).heap.size (w1.alloc (.cells #[.int .u8 k9, .complex .f64 (fl p1) (fl p2), .complex .f64 (fl q1) (fl q2), .string t9, .int .i64 n9] 40)) ((w1.alloc (.cells #[.int .u8 k9, .complex .f64 (fl p1) (fl p2), .complex .f64 (fl q1) (fl q2), .string t9, .int .i64 n9] 40)).alloc (mapO [(.int .u8 2, .int .u8 5), (.int .u8 3, .int .u8 6), (.int .u8 4, .int .u8 7)])) := (Below.refl _ _).alloc (Nat.le_refl _) _
 have hb3 := Blk.new w1 40 #[.int .u8 k9, .complex .f64 (fl p1) (fl p2), .complex .f64 (fl q1) (fl q2), .string t9, .int .i64 n9]
 have HB3 := qh (hb3.alloc (mapO [(.int .u8 2, .int .u8 5), (.int .u8 3, .int .u8 6), (.int .u8 4, .int .u8 7)]))
 have H := qh (((H.out.below hb).below hba).below hbm)
 have hw1 : w.heap.size ≤ w1.heap.size := hb.size
 obtain ⟨c0, c1, c2, c3, c4, f0, f1, f2, f3, f4⟩ := hb3.tok
 clear hb hba hbm hb3 N1
 have EY := qh (eat_no HT.out (by omega) sPar _ H.out.1 hsPar)
 go_wp2_with fail
 ((with_reducible refine EY.out.mono ?_); rintro e wx ⟨rfl, hb⟩)
 have H := qh (H.out.trans hb)
 have HB3 := qh (HB3.out.grown hb.2 (fun e => by injection e with e; omega))
 clear hb EY
 have EY := qh (eat_no HT.out (by omega) sNot _ H.out.1 hsNot)
 go_wp2_with fail
 ((with_reducible refine EY.out.mono ?_); rintro e wx ⟨rfl, hb⟩)
 have H := qh (H.out.trans hb)
 have HB3 := qh (HB3.out.grown hb.2 (fun e => by injection e with e; omega))
 clear hb EY
 have EY := qh (eat_no HT.out (by omega) sCur _ H.out.1 hsCur)
 go_wp2_with fail
 ((with_reducible refine EY.out.mono ?_); rintro e wx ⟨rfl, hb⟩)
 have H := qh (H.out.trans hb)
 have HB3 := qh (HB3.out.grown hb.2 (fun e => by injection e with e; omega))
 clear hb EY
 clear c0 c1 c2 c3 c4 f0 f1 f2 f3 f4 hlk hk0 hk1 hk2 hmk
 have d1 := DS2.out wx H.out.1
 cases hx : designP L (exprG L (factP L f)) i with
 | error k =>
   rw [hx] at d1
   have HS := qh (show res = .error k by rw [HS1.out, hx])
   have D1 := qh d1
   clear d1 hx HS1
   go_wp2_with fail
   ((with_reducible refine (D1.out).mono ?_); rintro e w1 ⟨rfl, hb⟩)
   have H3 := qh (grown_trans H.out.2 hb)
   clear hb
   go_wp2
   refine ⟨rfl, ?_⟩
   rw [HS.out]
   exact ⟨rfl, H3.out⟩
 | ok r =>
   obtain ⟨x, j⟩ := r
   rw [hx] at d1
   have hj := HDM.out _ _ _ hx
   have hdot := HDD.out _ _ hx
   have HS2 := qh (show res = (if plainT x = true ∧ isT L j sCur = true then (match betweenP L (elemP L (exprG L (factP L f))) sRuc (j + 1) with
    | .error k => .error k
    | .ok (l, j2) => .ok (mk 8 (p1, p2) sNil 0 (x :: l), j2))
    else if isT L j sPar = true then (match betweenP L (exprG L (factP L f)) sRap (j + 1) with
     | .error k => .error k
     | .ok (l, j2) => .ok (mk 10 (pos L j) sNil 0 (x :: l), j2))
    else .ok (x, j)) by rw [HS1.out, hx])
   have D1 := qh d1
   clear d1 hx HS1 DS2 HDM HDD
   go_wp2_with fail
   ((with_reducible refine D1.out.mono ?_); rintro e w4 ⟨bx, rfl, hp, hg, hr⟩)
   have HX := qh (hr.more (S' := fun y => w.heap.size ≤ y) fun y hy _ => Nat.le_trans H.out.2.size hy)
   have H := qh (H.out.trans ⟨hp, hg⟩)
   have HB3 := qh (HB3.out.grown hg (fun e => by injection e with e; omega))
   clear hp hg hr D1
   obtain ⟨k8, r1, r2, q3, q4, t8, n8, e3, e4⟩ := val_form (tk L j)
   have HPJ := qh (show pos L j = (r1, r2) by unfold pos; rw [e3])
   have n1 := now_any HT.out (i := j) (by omega) w4 H.out.1
   rw [e4] at n1
   have N1 := qh n1
   clear n1 e3 e4
   go_wp2_with fail
   ((with_reducible refine N1.out.mono ?_); rintro e w5 ⟨rfl, hb⟩)
   have H := qh (H.out.below hb)
   have HX := qh (HX.out.below hb)
   have HB3 := qh (HB3.out.below hb HB3.out.lt)
   clear hb N1
   have PL := qh (plain_any x.1 x.2 bx w5 hdot HX.out.rep)
   have HPL := qh (show plainF (.node x.1 x.2 .no) = plainT x from rfl)
   go_wp2_with fail
   ((with_reducible refine PL.out.mono ?_); rintro e w6 ⟨rfl, rfl⟩)
   clear PL
   have hcase : (plainT x = true ∧ isT L j sCur = true) ∨ (plainT x = true ∧ isT L j sCur = false) ∨ plainT x = false := by
    cases plainT x <;> cases isT L j sCur <;> simp
   rw [HPL.out]
   rcases hcase with ⟨hpl, hC⟩ | ⟨hpl, hC⟩ | hpl
   case' inl =>
    have EY := qh (eat_yes HT.out (by omega) sCur _ H.out.1 hC)
    have hjl := isT_lt hC
    have HS3 := qh (HS2.out.trans (if_pos ⟨hpl, hC⟩))
    rw [hpl]
    clear HS2 HPL hpl hdot BTE
    go_wp2_with fail
    ((with_reducible refine EY.out.mono ?_); rintro e w6 ⟨rfl, hb⟩)
    have H := qh (H.out.trans hb)
    have HX := qh (repS_grown HX.out hb.2 hbr0)
    have HB3 := qh (HB3.out.grown hb.2 (fun e => by injection e with e; omega))
    clear hb EY
    go_wp2
    have hbd1 : Below w6.heap.size w6 w6.drew := (Below.refl _ _).drew
    have H := qh (H.out.below hbd1)
    have HX := qh (HX.out.below hbd1)
    have HB3 := qh (HB3.out.below hbd1 HB3.out.lt)
    have hbw : br < w1.heap.size := by omega
    have hxw : w1.heap.size < w6.heap.size := HB3.out.lt
    have HD0 : w6.drew.cell? ⟨w1.heap.size, 1, none⟩ = some (.complex .f64 (fl p1) (fl p2)) := HB3.out.cell 1
    have d2 := BTS.out (j + 1) (by omega) (by omega) w6.drew H.out.1
    have d3 := BTS.out (j + 1) (by omega) (by omega) ((w6.alloc (.cells #[.pointer (some ⟨bx, 0, none⟩)] 31)).drew) (show PInv w0 (w6.drew.alloc (.cells #[.pointer (some ⟨bx, 0, none⟩)] 31)) br A c L (j + 1) from (H.out.alloc (.cells #[.pointer (some ⟨bx, 0, none⟩)] 31)).1)
    have hxz : w6.drew.heap.size = w6.heap.size := rfl
    have HXA := qh (show (w6.alloc (.cells #[.pointer (some ⟨bx, 0, none⟩)] 31)).drew.heap.size = w6.heap.size + 1 by show (w6.alloc (.cells #[.pointer (some ⟨bx, 0, none⟩)] 31)).heap.size = _; rw [World.size_alloc])
    clear hbd1 BTS
    cases hy : betweenP L (elemP L (exprG L (factP L f))) sRuc (j + 1) with
    | error e0 =>
      rw [hy] at d2 d3
      have HS := qh (show res = .error e0 by rw [HS3.out, hy])
      have D2 := qh (d2.mono (R' := fun e w' => (∃ (a : Option Addr) (n k : Nat), e = .returned (.slice a n k) ∧ Hid False ∧ w6.drew.grownBy w' (some br)) ∨ (e = bad e0 ∧ w6.drew.grownBy w' (some br))) fun e w' h => .inr h)
      have D3 := qh (d3.mono (R' := fun e w' => (∃ (a : Option Addr) (n k : Nat), e = .returned (.slice a n k) ∧ Hid False ∧ w6.drew.grownBy w' (some br)) ∨ (e = bad e0 ∧ w6.drew.grownBy w' (some br))) fun e w' h => .inr ⟨h.1, (grown_trans (grown_of_below ((Below.refl _ _).alloc (Nat.le_refl _) _) _) h.2)⟩)
      clear d2 d3 hy HS3
      go_region_held_law (fun w' => w'.cell? ⟨w1.heap.size, 1, none⟩ = some (.complex .f64 (fl p1) (fl p2)))
       ((first | (with_reducible exact HD0) | (with_reducible assumption) | (exact hF.out.elim) | (exact held1 (br := br) (by assumption) (grown_of_below ((Below.refl _ _).alloc (Nat.le_refl _) _) _) hbw)))
       ((first
         | (go_at_call 160; (with_reducible refine D2.out.mono ?_); rintro e wg (⟨a_, n_, k_, rfl, hF, hg⟩ | ⟨rfl, hb⟩); case' inr => exact ⟨rfl, by rw [HS.out]; exact ⟨rfl, grown_trans H.out.2 hb⟩⟩)
         | (go_at_call 160; (with_reducible refine D3.out.mono ?_); rintro e wg (⟨a_, n_, k_, rfl, hF, hg⟩ | ⟨rfl, hb⟩); case' inr => exact ⟨rfl, by rw [HS.out]; exact ⟨rfl, grown_trans H.out.2 hb⟩⟩)
         | (refine step_app _ (by rfl) _ _ _ (by rfl) 0 31 i0 _ 1 8 Tryz.underlying36 hi0 hz0 hz1 hz2 rfl (by omega) _ 1 [.pointer none] (by rfl) hF.out.elim 0 _ _ _ [] (by rfl) hF.out.elim hF.out.elim hF.out.elim hF.out.elim hF.out.elim ?_; intro A2 c2 wk hown hgk)
         | (go_at_call 33; refine Calls.mono (R := fun e w' => e = .returned (.pointer none) ∧ Below 0 w' w') hF.out.elim ?_; rintro e wh ⟨rfl, hb⟩)))
      all_goals exact hF.out.elim
    | ok r =>
      obtain ⟨l, j2⟩ := r
      rw [hy] at d2 d3
      have HS := qh (show res = .ok (mk 8 (p1, p2) sNil 0 (x :: l), j2) by rw [HS3.out, hy])
      have D2 := qh d2
      have D3 := qh d3
      clear d2 d3 hy HS3
      go_region_held3 (fun w' => w'.cell? ⟨w1.heap.size, 1, none⟩ = some (.complex .f64 (fl p1) (fl p2)))
       ((first | (with_reducible exact HD0) | (with_reducible assumption) | exact held1 HD0 (by assumption) hbw | (exact held1 (br := br) (by assumption) (grown_of_below ((Below.refl _ _).alloc (Nat.le_refl _) _) _) hbw) | (exact held1 (br := br) (by assumption) (by assumption) hbw) | (exact held1 (br := br) (by assumption) (grown_of_below (by assumption) _) hbw) | (exact hgk.cell (by assumption) (fun e => by injection e with e; simp at e; omega))))
       ((first
         | (go_at_call 160; (with_reducible refine D2.out.mono ?_); rintro e wg ⟨A', c', vs, rfl, hp, hg, hrd, hr, hvl, hone, hll, hlc⟩; have OW := qh (ownl (w := wg) (base := w.heap.size) (v := .pointer (some ⟨bx, 0, none⟩)) (by have := H.out.2.size; have := hg.size; omega)); have RD := qh (hrd.alloc (Nat.le_refl _) (.cells #[.pointer (some ⟨bx, 0, none⟩)] 31)); have TX := repS_grown HX.out hg hbr0; have TR := qh (show RepS (fun y => w.heap.size ≤ y ∧ y ≠ wg.heap.size) (wg.alloc (.cells #[.pointer (some ⟨bx, 0, none⟩)] 31)) (forest (x :: l)) (.pointer (some ⟨bx, 0, none⟩) :: vs) from ((repS_cons TX (hr.more (S' := fun y => w.heap.size ≤ y) fun y hy hl => (by have := H.out.2.size; omega))).more (S' := fun y => w.heap.size ≤ y ∧ y ≠ wg.heap.size) fun y hy hl => ⟨hy, Nat.ne_of_lt hl⟩).below ((Below.refl _ _).alloc (Nat.le_refl _) _)); have HP := qh ((H.out.trans ⟨hp, hg⟩).alloc (.cells #[.pointer (some ⟨bx, 0, none⟩)] 31)); have hvs := Nat.le_of_eq hvl; have hbs := H.out.2.size; have hgs := hg.size; clear hrd hr hvl TX)
         | (go_at_call 160; (with_reducible refine D3.out.mono ?_); rintro e wg ⟨A', c', vs, rfl, hp, hg, hrd, hr, hvl, hone, hll, hlc⟩; have OW := qh ((ownl (w := w6.drew) (base := w.heap.size) (v := .pointer (some ⟨bx, 0, none⟩)) (by have := H.out.2.size; omega)).kept hg (.inr (by show some w6.heap.size ≠ some br; intro e; injection e with e; omega))); have RD := qh hrd; have TX := (HX.out.more (S' := fun y => w.heap.size ≤ y ∧ y ≠ w6.heap.size) fun y hy hl => ⟨hy, Nat.ne_of_lt hl⟩).below ((Below.refl _ _).alloc (Nat.le_refl _) (.cells #[.pointer (some ⟨bx, 0, none⟩)] 31)); have TX2 := TX.keep hg.size (fun y hy hl => hg.block y hl (fun e => by injection e with e; omega)) (fun y h _ => h); have TR := qh (show RepS (fun y => w.heap.size ≤ y ∧ y ≠ w6.heap.size) wg (forest (x :: l)) (.pointer (some ⟨bx, 0, none⟩) :: vs) from repS_cons TX2 (hr.more (S' := fun y => w.heap.size ≤ y ∧ y ≠ w6.heap.size) fun y hy hl => ⟨by have := H.out.2.size; rw [HXA.out] at hy; omega, by rw [HXA.out] at hy; omega⟩)); have HP := qh ((H.out.alloc (.cells #[.pointer (some ⟨bx, 0, none⟩)] 31)).trans ⟨hp, hg⟩); have hvs := Nat.le_of_eq hvl; have hbs := H.out.2.size; have hgs := hg.size; rw [HXA.out] at hgs; clear hrd hr hvl TX TX2)
         | (refine step_app _ (by rfl) _ _ _ (by rfl) w.heap.size 31 i0 _ 1 8 Tryz.underlying36 hi0 hz0 hz1 hz2 rfl (by omega) _ 1 [.pointer (some ⟨bx, 0, none⟩)] (by rfl) OW.out _ A' vs.length c' vs (by rfl) RD.out hone (by unfold maxLen; omega) (by omega) (by have := HP.out.2.size; omega) ?_; intro A2 c2 wk hown hgk; have KD := qh (kids_app TR.out hgk); have HP2 := qh (HP.out.gfar H0.out hgk (fun k e => by injection e with e; simp at e; omega)); have RD2 := qh (show Reads wk wk.heap.size 1 A2 (1 + vs.length) (.pointer (some ⟨bx, 0, none⟩) :: vs) from Reads.of_own hown))
         | (go_at_call 33; (with_reducible refine (new_at (B := w.heap.size) HP2.out.2.size 8 8 rfl p1 p2 sNil 0 A2 c2 (1 + vs.length) (.pointer (some ⟨bx, 0, none⟩) :: vs) (forest (x :: l)) (by rw [List.length_cons]; omega) (by omega) RD2.out (repN_of KD.out)).mono ?_); rintro e wh ⟨b, rfl, hb, hr2⟩)))
      all_goals
       have H2 := qh (HP2.out.below hb)
       have HX := qh hr2
       clear hp hg hb hr2 H HD0 hown hgk
       go_wp2
       (try simp only [Exit.inBlock, Exit.then])
       go_ret
       rw [HS.out]
       exact ⟨b, rfl, H2.out.1, H2.out.2, HX.out⟩
   case' inr.inl =>
    have EN := qh (eat_no HT.out (by omega) sCur _ H.out.1 hC)
    have HS3 := qh (HS2.out.trans (if_neg (by rw [hC]; simp)))
    rw [hpl]
    clear HS2 HPL hpl hdot BTS
    go_wp2_with fail
    ((with_reducible refine EN.out.mono ?_); rintro e w6 ⟨rfl, hb⟩)
    have H := qh (H.out.trans hb)
    have HX := qh (repS_grown HX.out hb.2 hbr0)
    clear hb EN HB3
   case' inr.inr =>
    have HS3 := qh (HS2.out.trans (if_neg (by rw [hpl]; simp)))
    rw [hpl]
    clear HS2 HPL hpl hdot BTS HB3
   all_goals
    cases hP : isT L j sPar with
    | false =>
      have EN := qh (eat_no HT.out (by omega) sPar _ H.out.1 hP)
      have HS := qh (HS3.out.trans (if_neg (by rw [hP]; simp)))
      clear HS3
      go_wp2_with fail
      ((with_reducible refine EN.out.mono ?_); rintro e w7 ⟨rfl, hb⟩)
      have H := qh (H.out.trans hb)
      have HX := qh (repS_grown HX.out hb.2 hbr0)
      clear hb EN
      go_wp2
      (try simp only [Exit.inBlock, Exit.then])
      go_ret
      rw [HS.out]
      exact ⟨bx, rfl, H.out.1, H.out.2, HX.out⟩
    | true =>
      have hjl := isT_lt hP
      have EY := qh (eat_yes HT.out (by omega) sPar _ H.out.1 hP)
      have HS4 := qh (HS3.out.trans (if_pos hP))
      rw [HPJ.out] at HS4
      clear HS3
      go_wp2_with fail
      ((with_reducible refine EY.out.mono ?_); rintro e wx ⟨rfl, hb⟩)
      have H := qh (H.out.trans hb)
      have HX := qh (repS_grown HX.out hb.2 hbr0)
      clear hb EY
      have d3 := BTE.out (j + 1) (by omega) (by omega) (wx.alloc (.cells #[.pointer (some ⟨bx, 0, none⟩)] 31)) (H.out.alloc (.cells #[.pointer (some ⟨bx, 0, none⟩)] 31)).1
      go_wp2_with fail
      cases hy : betweenP L (exprG L (factP L f)) sRap (j + 1) with
      | error k =>
        rw [hy] at d3
        have HS := qh (show res = .error k by rw [HS4.out, hy])
        have D3 := qh d3
        clear d3 hy HS4 BTE
        ((with_reducible refine D3.out.mono ?_); rintro e w8 ⟨rfl, hb⟩)
        have H3 := qh (grown_trans (H.out.alloc (.cells #[.pointer (some ⟨bx, 0, none⟩)] 31)).2 hb)
        clear hb
        go_wp2
        refine ⟨rfl, ?_⟩
        rw [HS.out]
        exact ⟨rfl, H3.out⟩
      | ok r =>
        obtain ⟨l, j2⟩ := r
        rw [hy] at d3
        have HS := qh (show res = .ok (mk 10 (r1, r2) sNil 0 (x :: l), j2) by rw [HS4.out, hy])
        have D3 := qh d3
        clear d3 hy HS4 BTE
        ((with_reducible refine D3.out.mono ?_); rintro e wg ⟨A', c', vs, rfl, hp, hg, hrd, hr, hvl, hone, hll, hlc⟩)
        have hsx := H.out.2.size
        have hxa : (wx.alloc (.cells #[.pointer (some ⟨bx, 0, none⟩)] 31)).heap.size = wx.heap.size + 1 := World.size_alloc _ _
        have hgs := hg.size
        have OW := qh ((ownl (w := wx) (base := w.heap.size) (v := .pointer (some ⟨bx, 0, none⟩)) (by omega)).kept hg (.inr (by show some wx.heap.size ≠ some br; intro e; injection e with e; omega)))
        have RD := qh hrd
        have TX := (HX.out.more (S' := fun y => w.heap.size ≤ y ∧ y ≠ wx.heap.size) fun y hy hl => ⟨hy, Nat.ne_of_lt hl⟩).below ((Below.refl _ _).alloc (Nat.le_refl _) (.cells #[.pointer (some ⟨bx, 0, none⟩)] 31))
        have TX2 := TX.keep hg.size (fun y hy hl => hg.block y hl (fun e => by injection e with e; omega)) (fun y h _ => h)
        have TR := qh (show RepS (fun y => w.heap.size ≤ y ∧ y ≠ wx.heap.size) wg (forest (x :: l)) (.pointer (some ⟨bx, 0, none⟩) :: vs) from repS_cons TX2 (hr.more fun y hy hl => ⟨by omega, by omega⟩))
        have HP := qh ((H.out.alloc (.cells #[.pointer (some ⟨bx, 0, none⟩)] 31)).trans ⟨hp, hg⟩)
        have hvs := Nat.le_of_eq hvl
        clear hrd hr hvl hp hg TX TX2 hxa D3 HX
        go_wp2_with (at_builtin; refine wpList_app _ rfl _ _ _ rfl w.heap.size 31 i0 _ 1 8 Tryz.underlying36 hi0 hz0 hz1 hz2 rfl (by omega) _ 1 [.pointer (some ⟨bx, 0, none⟩)] rfl OW.out _ A' vs.length c' vs rfl RD.out hone (by unfold maxLen; omega) (by omega) (by have := HP.out.2.size; omega) ?_; intro A2 c2 wk hown hgk; have KD := qh (kids_app TR.out hgk); have HP2 := qh (HP.out.gfar H0.out hgk (fun k e => by injection e with e; simp at e; omega)); have RD2 := qh (show Reads wk wk.heap.size 1 A2 (1 + vs.length) (.pointer (some ⟨bx, 0, none⟩) :: vs) from Reads.of_own hown); clear hown hgk)
        ((with_reducible refine (new_at (B := w.heap.size) HP2.out.2.size 10 10 rfl r1 r2 sNil 0 A2 c2 (1 + vs.length) (.pointer (some ⟨bx, 0, none⟩) :: vs) (forest (x :: l)) (by rw [List.length_cons]; omega) (by omega) RD2.out (repN_of KD.out)).mono ?_); rintro e wh ⟨b, rfl, hb, hr2⟩)
        have H2 := qh (HP2.out.below hb)
        have HX := qh hr2
        clear hb hr2
        go_wp2
        (try simp only [Exit.inBlock, Exit.then])
        go_ret
        rw [HS.out]
        exact ⟨b, rfl, H2.out.1, H2.out.2, HX.out⟩
end Go.Proofs.YtkemhmfdooghkaaGreatDoor.Ex
