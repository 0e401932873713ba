/- A part of the proof: G9. -/
import Derived.Test.YtecmjhohniipoaaZ1
import Derived.Test.YtecmjhohniipoaaZ17
import Derived.Deep.RegionHeld3
import Derived.Deep.DrawnRows
set_option linter.unusedSimpArgs false
set_option linter.unusedVariables false

section
namespace Go.Proofs.Ytecmjhohniipoaa.Ex
open Go.RowKit
open Tr (Nd Fo RepS RepN Rep cellsN)
open Lx (Tk noTk Blk run_store_complexL TokAt)
open Fl
attribute [local go_sem] run_store_complexL run_field1 run_field3
def TBe (w : World) (tb : Nat) (cs : Array Value) : Prop := Lx.Blk w tb 68 cs
theorem TBe.lt {w : World} {tb : Nat} {cs : Array Value} (h : TBe w tb cs) : tb < w.heap.size := Lx.Blk.lt h
theorem TBe.below {w w' : World} {tb : Nat} {cs : Array Value} (h : TBe w tb cs) (hb : Below w.heap.size w w') : TBe w' tb cs := Lx.Blk.below h hb (Lx.Blk.lt h)
theorem TBe.grown {w w' : World} {tb br : Nat} {cs : Array Value} (h : TBe w tb cs) (hg : w.grownBy w' (some br)) (hne : ¬ br = tb) : TBe w' tb cs := Lx.Blk.grown h hg (fun e => by injection e with e; exact hne e.symm)
def TBk (w : World) (tb : Nat) : Prop := ∃ v0 v1 v2 v3 v4, Lx.Blk w tb 68 #[v0, v1, v2, v3, v4]
theorem TBk.lt {w : World} {tb : Nat} (h : TBk w tb) : tb < w.heap.size := by obtain ⟨_, _, _, _, _, h⟩ := h; exact h.lt
theorem TBk.below {w w' : World} {tb : Nat} (h : TBk w tb) (hb : Below w.heap.size w w') : TBk w' tb := by obtain ⟨_, _, _, _, _, h⟩ := h; exact ⟨_, _, _, _, _, h.below hb h.lt⟩
theorem TBk.grown {w w' : World} {tb br : Nat} (h : TBk w tb) (hg : w.grownBy w' (some br)) (hne : ¬ br = tb) : TBk w' tb := by
 obtain ⟨_, _, _, _, _, h⟩ := h
 exact ⟨_, _, _, _, _, h.grown hg (fun e => by injection e with e; exact hne e.symm)⟩
def LSB (B : Nat) (w0 w : World) (br : Nat) (A : Option Addr) (c : Nat) (L : List PT) (res : Except Nat (T1 × Nat)) (G : T1 → Nat → Prop) (p : Option Addr) (wr : World) : Prop :=
 (∃ (x : T1) (b j : Nat), p = some ⟨b, 0, none⟩ ∧ j ≤ L.length ∧ QG w0 w wr br A c L j false ∧ RepS (fun y => B ≤ y) wr (.node x.1 x.2 .no) [.pointer (some ⟨b, 0, none⟩)] ∧ G x j) ∨
 (∃ k, k ≤ 80000 ∧ QG w0 w wr br A c L k true ∧ res = .error k)
section
variable {w0 w w1 : World} {br c i i' : Nat} {A : Option Addr} {L : List PT} {bad bad' : Bool}
theorem QG.far (h : QG w0 w w1 br A c L i bad) (hw : QInv w0 w br A c L i' bad') {b : Nat} (hb : w.heap.size ≤ b) (o : Nat) (u : Value) : QG w0 w (w1.setCell ⟨b, o, none⟩ u) br A c L i bad := by
 have hl := hw.row.lt
 have hs := hw.grown.size
 have hg := Lx.grown_set w1 b o u
 have hk : ∀ (a : World), a.heap.size ≤ b → a.grownBy w1 (some br) → a.grownBy (w1.setCell ⟨b, o, none⟩ u) (some br) := fun a ha h =>
  ⟨h.os, h.tape, h.output, by rw [World.size_setCell]; exact h.size, fun k hk hr => (hg.block k (Nat.lt_of_lt_of_le hk h.size) (fun e => by injection e with e; omega)).trans (h.block k hk hr)⟩
 exact ⟨⟨h.1.row.far (show br ≠ b by omega) u, hk w0 (by omega) h.1.grown⟩, hk w hb h.2⟩
theorem QG.store5 (h : QG w0 w w1 br A c L i bad) (hw : QInv w0 w br A c L i' bad') {b : Nat} (hb : w.heap.size ≤ b) (x0 x1 x2 x3 x4 : Value) :
 QG w0 w (((((w1.setCell ⟨b, 0, none⟩ x0).setCell ⟨b, 1, none⟩ x1).setCell ⟨b, 2, none⟩ x2).setCell ⟨b, 3, none⟩ x3).setCell ⟨b, 4, none⟩ x4) br A c L i bad :=
 ((((h.far hw hb _ _).far hw hb _ _).far hw hb _ _).far hw hb _ _).far hw hb _ _
end
theorem rep_store5 {S : Nat → Prop} {w : World} {f : Fo} {vs : List Value} (h : RepS S w f vs) (b : Nat) (hS : ∀ y, S y → y ≠ b) (x0 x1 x2 x3 x4 : Value) : RepS S (((((w.setCell ⟨b, 0, none⟩ x0).setCell ⟨b, 1, none⟩ x1).setCell ⟨b, 2, none⟩ x2).setCell ⟨b, 3, none⟩ x3).setCell ⟨b, 4, none⟩ x4) f vs :=
 h.keep (by simp [World.size_setCell]) (fun y hy _ => (Below.heap_setCell _ _ _ _ (hS y hy)).trans ((Below.heap_setCell _ _ _ _ (hS y hy)).trans ((Below.heap_setCell _ _ _ _ (hS y hy)).trans ((Below.heap_setCell _ _ _ _ (hS y hy)).trans (Below.heap_setCell _ _ _ _ (hS y hy)))))) (fun y hy _ => hy)
theorem signed_is (L : List PT) (i : Nat) : (isSW (tk L i) && [sPlu, sMin].any (fun s => decide (s = (tk L i).1.text))) = signed L i 1 := by
 unfold signed isT
 have e : ∀ s : ByteArray, decide (s = (tk L i).1.text) = decide ((tk L i).1.text = s) := fun s => by rw [Bool.eq_iff_iff, decide_eq_true_eq, decide_eq_true_eq]; exact ⟨Eq.symm, Eq.symm⟩
 simp only [List.any_cons, List.any_nil, e]
 cases isSW (tk L i) <;> simp
set_option maxRecDepth 100000 in set_option maxHeartbeats 6400000 in
theorem rsimple_n {fac : Nat → Except Nat (T1 × Nat)} {su : Par T1} (he : Good su) (hs : Strict su) {lo : Nat} {w0 : World} {br c : Nat} {A : Option Addr} {L : List PT} (ht : Toks w0 br A L) (ok : OKRow L) (hx : ∀ j, levD L fac 1 j = su L j) (hE : RnOK 93 (levD L fac 1) lo w0 br A c L) (hm : SpOK L (levD L fac 1))
 (i : Nat) (hlo : lo ≤ i) (hi : i ≤ 60000) (w : World) (h : QInv w0 w br A c L i false) (hsg : signed L i 1 = false) :
 Calls Try.prog 81 #[.pointer (some ⟨br, 0, none⟩)] w (RefR w.heap.size w0 w br A c L (levD L fac 2 i)) := by
 have hbr0 := h.row.lt
 have hlen := ht.len
 have H := qh (QG.start h)
 have HW0 := qh h
 have HE := qh hE
 have HM := qh hm
 have HT := qh ht
 have HOK := qh ok
 have HME := qh (err_bd he hx hlen)
 have HBS := qh (bins_same (sub := levD L fac 1) hs hx 1)
 have HSG := qh hsg
 have HS0 := qh (show levD L fac 2 i = (match levD L fac 1 i with
  | .error e => .error e
  | .ok (x, j) => binsP L (levD L fac 1) 1 (L.length + 1) x j) by
    have hg : signed L i (2 - 1) = false := hsg
    rw [levD]
    rw [hg]
    simp only [Bool.false_eq_true, if_false]
    cases levD L fac 1 i <;> rfl)
 obtain ⟨k7, a1, a2, a3, a4, t7, n7, e1, e2⟩ := val_form (tk L i)
 have HP7 := qh (show pos L i = (a1, a2) by unfold pos; rw [e1])
 have HX7 := qh (show (tk L i).1.text = t7 by rw [e1])
 have n1 := rnow_any ht (i := i) (by omega) w h
 rw [e2] at n1
 have N7 := qh n1
 generalize levD L fac 2 i = res at *
 clear hE h ht hm ok hx he hs hsg n1 e1 e2
 go_enter Try.func81, Try.ntmps81
 go_wp2_with fail
 ((with_reducible refine N7.out.mono ?_); rintro e w1 ⟨rfl, hb⟩)
 have htb : w.heap.size ≤ w1.heap.size := hb.size
 have hne : ¬ br = w1.heap.size := by omega
 have hbrt : br < w1.heap.size + 1 := by omega
 have H := qh ((H.out.below hb).alloc (.cells #[.int .u8 k7, .complex .f64 (fl a1) (fl a2), .complex .f64 (fl a3) (fl a4), .string t7, .int .i64 n7] 68))
 have TB := qh (show TBe (w1.alloc (.cells #[.int .u8 k7, .complex .f64 (fl a1) (fl a2), .complex .f64 (fl a3) (fl a4), .string t7, .int .i64 n7] 68)) w1.heap.size #[.int .u8 k7, .complex .f64 (fl a1) (fl a2), .complex .f64 (fl a3) (fl a4), .string t7, .int .i64 n7] from Lx.Blk.new w1 68 #[.int .u8 k7, .complex .f64 (fl a1) (fl a2), .complex .f64 (fl a3) (fl a4), .string t7, .int .i64 n7])
 have hse : (w1.alloc (.cells #[.int .u8 k7, .complex .f64 (fl a1) (fl a2), .complex .f64 (fl a3) (fl a4), .string t7, .int .i64 n7] 68)).heap.size = w1.heap.size + 1 := World.size_alloc _ _
 have HA := qh (H.out.alloc (.cells #[.string ⟨#[43]⟩, .string ⟨#[45]⟩] 9))
 have IS := qh (show Calls Try.prog 82 #[.pointer (some ⟨br, 0, none⟩), .slice (some ⟨w1.heap.size + 1, 0, none⟩) 2 2] ((w1.alloc (.cells #[.int .u8 k7, .complex .f64 (fl a1) (fl a2), .complex .f64 (fl a3) (fl a4), .string t7, .int .i64 n7] 68)).alloc (.cells #[.string ⟨#[43]⟩, .string ⟨#[45]⟩] 9)) fun e w' => e = .returned (.bool false) ∧ Below ((w1.alloc (.cells #[.int .u8 k7, .complex .f64 (fl a1) (fl a2), .complex .f64 (fl a3) (fl a4), .string t7, .int .i64 n7] 68)).alloc (.cells #[.string ⟨#[43]⟩, .string ⟨#[45]⟩] 9)).heap.size ((w1.alloc (.cells #[.int .u8 k7, .complex .f64 (fl a1) (fl a2), .complex .f64 (fl a3) (fl a4), .string t7, .int .i64 n7] 68)).alloc (.cells #[.string ⟨#[43]⟩, .string ⟨#[45]⟩] 9)) w' from by
  have := ris_any HT.out (by omega) _ HA.out.1 [sPlu, sMin] (by decide) (hse ▸ Lx.Blk.new (w1.alloc (.cells #[.int .u8 k7, .complex .f64 (fl a1) (fl a2), .complex .f64 (fl a3) (fl a4), .string t7, .int .i64 n7] 68)) 9 #[.string ⟨#[43]⟩, .string ⟨#[45]⟩])
  rw [signed_is, HSG.out] at this
  exact this)
 clear hb N7
 go_wp2_with fail
 ((with_reducible refine IS.out.mono ?_); rintro e wi ⟨rfl, hb⟩)
 have H := qh (HA.out.below hb)
 have TB := qh ((TB.out.below ((Below.refl (w1.alloc (.cells #[.int .u8 k7, .complex .f64 (fl a1) (fl a2), .complex .f64 (fl a3) (fl a4), .string t7, .int .i64 n7] 68)).heap.size (w1.alloc (.cells #[.int .u8 k7, .complex .f64 (fl a1) (fl a2), .complex .f64 (fl a3) (fl a4), .string t7, .int .i64 n7] 68))).alloc (Nat.le_refl _) (.cells #[.string ⟨#[43]⟩, .string ⟨#[45]⟩] 9))).below hb)
 clear hb IS HA
 have d1 := HE.out i hlo hi wi H.out.1
 cases hy : levD L fac 1 i with
 | error k =>
   rw [hy] at d1
   have HS := qh (show res = .error k by rw [HS0.out, hy])
   have hk8 := HME.out _ _ (by omega) hy
   have D1 := qh d1
   clear d1 hy HS0
   go_wp2_with fail
   ((with_reducible refine (D1.out).mono ?_); rintro e wx ⟨p9, rfl, hp, hg⟩)
   have H := qh (H.out.trans ⟨hp, hg⟩)
   have TB := qh (TB.out.grown hg hne)
   clear hp hg
   go_wp2_with fail
   go_loopw [5] (fun xv wr => ∃ p, xv = .pointer p ∧ Hid (QG w0 w wr br A c L k true)) (fun _ _ => 0)
   case atStart => exact ⟨_, rfl, H⟩
   case round =>
    clear H TB
    obtain ⟨p, rfl, H⟩ := hrel
    have HA := qh (H.out.alloc (.cells #[.string ⟨#[43]⟩, .string ⟨#[45]⟩, .string ⟨#[79, 82]⟩] 9))
    have IS := qh (show Calls Try.prog 82 #[.pointer (some ⟨br, 0, none⟩), .slice (some ⟨wr.heap.size, 0, none⟩) 3 3] (wr.alloc (.cells #[.string ⟨#[43]⟩, .string ⟨#[45]⟩, .string ⟨#[79, 82]⟩] 9)) fun e w' => e = .returned (.bool false) ∧ Below (wr.alloc (.cells #[.string ⟨#[43]⟩, .string ⟨#[45]⟩, .string ⟨#[79, 82]⟩] 9)).heap.size (wr.alloc (.cells #[.string ⟨#[43]⟩, .string ⟨#[45]⟩, .string ⟨#[79, 82]⟩] 9)) w' from ris_any HT.out (by omega) _ HA.out.1 (ops 1) (by decide) (Lx.Blk.new wr 9 #[.string ⟨#[43]⟩, .string ⟨#[45]⟩, .string ⟨#[79, 82]⟩]))
    go_wp2_with fail
    ((with_reducible refine IS.out.mono ?_); rintro e wi ⟨rfl, hb⟩)
    have H := qh (HA.out.below hb)
    clear hb IS HA
    go_wp2
    go_ret
    rw [HS.out]
    exact ⟨_, rfl, H.out.1, H.out.2⟩
 | ok r =>
   obtain ⟨x, j⟩ := r
   rw [hy] at d1
   have hj := (HM.out _ _ _ hy).2
   have hij := (HM.out _ _ _ hy).1
   have HS := qh (show res = binsP L (levD L fac 1) 1 (L.length + 1) x j by rw [HS0.out, hy])
   have D1 := qh d1
   clear d1 hy HS0
   go_wp2_with fail
   ((with_reducible refine (D1.out).mono ?_); rintro e wx ⟨bx, rfl, hp, hg, hr⟩)
   have HX := qh (hr.more (S' := fun y => w1.heap.size + 1 ≤ y) fun y hy _ => Nat.le_trans TB.out.lt hy)
   have H := qh (H.out.trans ⟨hp, hg⟩)
   have TB := qh (TB.out.grown hg hne)
   clear hp hg hr
   go_wp2_with fail
   go_loopw [5] (fun xv wr => ∃ p, xv = .pointer p ∧ Hid (LSB (w1.heap.size + 1) w0 w br A c L res (fun x j => lo ≤ j ∧ res = binsP L (levD L fac 1) 1 (L.length + 1) x j) p wr) ∧ Hid (TBk wr w1.heap.size)) (fun _ wr => loopM L.length wr br)
   case atStart => exact ⟨_, rfl, qh (.inl ⟨_, _, _, rfl, by omega, H.out, HX.out, by omega, HS.out⟩), qh ⟨_, _, _, _, _, TB.out⟩⟩
   case round =>
    clear H HX TB HS
    obtain ⟨p, rfl, HL, TB⟩ := hrel
    rcases HL.out with ⟨x, bx, j, rfl, hj, hG, hR, hjl, hS⟩ | ⟨k, hk8, hG, hS⟩
    case' inr =>
     have H := qh hG
     have HS := qh hS
     clear HL hG hS
     have HA := qh (H.out.alloc (.cells #[.string ⟨#[43]⟩, .string ⟨#[45]⟩, .string ⟨#[79, 82]⟩] 9))
     have IS := qh (show Calls Try.prog 82 #[.pointer (some ⟨br, 0, none⟩), .slice (some ⟨wr.heap.size, 0, none⟩) 3 3] (wr.alloc (.cells #[.string ⟨#[43]⟩, .string ⟨#[45]⟩, .string ⟨#[79, 82]⟩] 9)) fun e w' => e = .returned (.bool false) ∧ Below (wr.alloc (.cells #[.string ⟨#[43]⟩, .string ⟨#[45]⟩, .string ⟨#[79, 82]⟩] 9)).heap.size (wr.alloc (.cells #[.string ⟨#[43]⟩, .string ⟨#[45]⟩, .string ⟨#[79, 82]⟩] 9)) w' from ris_any HT.out (by omega) _ HA.out.1 (ops 1) (by decide) (Lx.Blk.new wr 9 #[.string ⟨#[43]⟩, .string ⟨#[45]⟩, .string ⟨#[79, 82]⟩]))
     go_wp2_with fail
     ((with_reducible refine IS.out.mono ?_); rintro e wi ⟨rfl, hb⟩)
     have H := qh (HA.out.below hb)
     have TB := qh ((TB.out.below ((Below.refl wr.heap.size wr).alloc (Nat.le_refl _) (.cells #[.string ⟨#[43]⟩, .string ⟨#[45]⟩, .string ⟨#[79, 82]⟩] 9))).below hb)
     clear hb IS HA
     go_wp2
     go_ret
     rw [HS.out]
     exact ⟨_, rfl, H.out.1, H.out.2⟩
    obtain ⟨wo, rfl⟩ : ∃ wo : World, wo = wr := ⟨_, rfl⟩
    have H := qh hG
    have HO := qh hG
    have HX := qh hR
    have HS1 := qh (show res = _ from hS.trans (binsP_succ L (levD L fac 1) 1 L.length x j))
    clear HL hG hS hR
    have HA := qh (H.out.alloc (.cells #[.string ⟨#[43]⟩, .string ⟨#[45]⟩, .string ⟨#[79, 82]⟩] 9))
    have IS := qh (show Calls Try.prog 82 #[.pointer (some ⟨br, 0, none⟩), .slice (some ⟨wo.heap.size, 0, none⟩) 3 3] (wo.alloc (.cells #[.string ⟨#[43]⟩, .string ⟨#[45]⟩, .string ⟨#[79, 82]⟩] 9)) fun e w' => e = .returned (.bool (isSW (tk L j) && (ops 1).any (fun s => decide (s = (tk L j).1.text)))) ∧ Below (wo.alloc (.cells #[.string ⟨#[43]⟩, .string ⟨#[45]⟩, .string ⟨#[79, 82]⟩] 9)).heap.size (wo.alloc (.cells #[.string ⟨#[43]⟩, .string ⟨#[45]⟩, .string ⟨#[79, 82]⟩] 9)) w' from ris_any HT.out (by omega) _ HA.out.1 (ops 1) (by decide) (Lx.Blk.new wo 9 #[.string ⟨#[43]⟩, .string ⟨#[45]⟩, .string ⟨#[79, 82]⟩]))
    cases hop : isOp L j 1 with
    | false =>
      have IS := qh (show Calls Try.prog 82 #[.pointer (some ⟨br, 0, none⟩), .slice (some ⟨wo.heap.size, 0, none⟩) 3 3] (wo.alloc (.cells #[.string ⟨#[43]⟩, .string ⟨#[45]⟩, .string ⟨#[79, 82]⟩] 9)) fun e w' => e = .returned (.bool false) ∧ Below (wo.alloc (.cells #[.string ⟨#[43]⟩, .string ⟨#[45]⟩, .string ⟨#[79, 82]⟩] 9)).heap.size (wo.alloc (.cells #[.string ⟨#[43]⟩, .string ⟨#[45]⟩, .string ⟨#[79, 82]⟩] 9)) w' from hop ▸ IS.out)
      have HS := qh (HS1.out.trans (if_neg (by rw [hop]; simp)))
      clear hop HS1
      go_wp2_with fail
      ((with_reducible refine IS.out.mono ?_); rintro e wi ⟨rfl, hb⟩)
      have H := qh (HA.out.below hb)
      have HX := qh ((HX.out.below ((Below.refl wo.heap.size wo).alloc (Nat.le_refl _) (.cells #[.string ⟨#[43]⟩, .string ⟨#[45]⟩, .string ⟨#[79, 82]⟩] 9))).below hb)
      have TB := qh ((TB.out.below ((Below.refl wo.heap.size wo).alloc (Nat.le_refl _) (.cells #[.string ⟨#[43]⟩, .string ⟨#[45]⟩, .string ⟨#[79, 82]⟩] 9))).below hb)
      clear hb IS HA
      go_wp2
      go_ret
      rw [HS.out]
      exact ⟨bx, rfl, H.out.1, H.out.2, HX.out.more (S' := fun y => w.heap.size ≤ y) fun y hy _ => by omega⟩
    | true =>
      have IS := qh (show Calls Try.prog 82 #[.pointer (some ⟨br, 0, none⟩), .slice (some ⟨wo.heap.size, 0, none⟩) 3 3] (wo.alloc (.cells #[.string ⟨#[43]⟩, .string ⟨#[45]⟩, .string ⟨#[79, 82]⟩] 9)) fun e w' => e = .returned (.bool true) ∧ Below (wo.alloc (.cells #[.string ⟨#[43]⟩, .string ⟨#[45]⟩, .string ⟨#[79, 82]⟩] 9)).heap.size (wo.alloc (.cells #[.string ⟨#[43]⟩, .string ⟨#[45]⟩, .string ⟨#[79, 82]⟩] 9)) w' from hop ▸ IS.out)
      have HS4 := qh (HS1.out.trans (if_pos hop))
      have hjlt := op_lt hop
      clear hop HS1
      go_wp2_with fail
      ((with_reducible refine IS.out.mono ?_); rintro e wi ⟨rfl, hb⟩)
      have H := qh (HA.out.below hb)
      have HX := qh ((HX.out.below ((Below.refl wo.heap.size wo).alloc (Nat.le_refl _) (.cells #[.string ⟨#[43]⟩, .string ⟨#[45]⟩, .string ⟨#[79, 82]⟩] 9))).below hb)
      have TB := qh ((TB.out.below ((Below.refl wo.heap.size wo).alloc (Nat.le_refl _) (.cells #[.string ⟨#[43]⟩, .string ⟨#[45]⟩, .string ⟨#[79, 82]⟩] 9))).below hb)
      clear hb IS HA
      obtain ⟨k8, s1, s2, q3, q4, t8, n8, e1, e2⟩ := val_form (tk L j)
      have HP := qh (show pos L j = (s1, s2) by unfold pos; rw [e1])
      have HTX := qh (show (tk L j).1.text = t8 by rw [e1])
      have n1 := rnow_any HT.out (i := j) (by omega) _ H.out.1
      rw [e2] at n1
      have N1 := qh n1
      clear n1 e1 e2
      go_wp2_with fail
      ((with_reducible refine N1.out.mono ?_); rintro e w5 ⟨rfl, hb⟩)
      have H := qh (H.out.below hb)
      have HX := qh (HX.out.below hb)
      have TB := qh (TB.out.below hb)
      clear hb N1
      obtain ⟨v0, v1, v2, v3, v4, hT0⟩ := TB.out
      obtain ⟨z0, z1, z2, z3, z4, g0, g1, g2, g3, g4⟩ := hT0.tok
      have T1 := qh (Lx.tok_stored hT0 (.int .u8 k8) (.complex .f64 (fl s1) (fl s2)) (.complex .f64 (fl q3) (fl q4)) (.string t8) (.int .i64 n8))
      have H1 := qh (H.out.store5 HW0.out htb (.int .u8 k8) (.complex .f64 (fl s1) (fl s2)) (.complex .f64 (fl q3) (fl q4)) (.string t8) (.int .i64 n8))
      have HX1 := qh (rep_store5 HX.out w1.heap.size (fun y hy => by omega) (.int .u8 k8) (.complex .f64 (fl s1) (fl s2)) (.complex .f64 (fl q3) (fl q4)) (.string t8) (.int .i64 n8))
      have hlt := H.out.1.row.lt
      have htl := hT0.lt
      clear H HX TB hT0
      have m1 := (H1.out.1.at_).1
      have f1 := (H1.out.1.at_).2.1
      have hne2 : ¬ w1.heap.size = br := fun e => hne e.symm
      have x0 : (0 : Int) ≤ (j : Int) := by omega
      have H2 := qh (H1.out.set_ (j + 1))
      have HX := qh (repS_grown HX1.out (Lx.grown_set _ br 1 (.int .i64 ((j + 1 : Nat) : Int))) hbrt)
      have T2 := qh (T1.out.far (p := ⟨br, 1, none⟩) hne2 (.int .i64 ((j + 1 : Nat) : Int)))
      rw [show ((j + 1 : Nat) : Int) = (j : Int) + 1 by omega] at H2 HX T2
      have HB5 : ((((((w5.setCell ⟨w1.heap.size, 0, none⟩ (.int .u8 k8)).setCell ⟨w1.heap.size, 1, none⟩ (.complex .f64 (fl s1) (fl s2))).setCell ⟨w1.heap.size, 2, none⟩ (.complex .f64 (fl q3) (fl q4))).setCell ⟨w1.heap.size, 3, none⟩ (.string t8)).setCell ⟨w1.heap.size, 4, none⟩ (.int .i64 n8)).heap.size) = w5.heap.size := by simp [World.size_setCell]
      go_wp2
      generalize hwe : ((((((w5.setCell ⟨w1.heap.size, 0, none⟩ (.int .u8 k8)).setCell ⟨w1.heap.size, 1, none⟩ (.complex .f64 (fl s1) (fl s2))).setCell ⟨w1.heap.size, 2, none⟩ (.complex .f64 (fl q3) (fl q4))).setCell ⟨w1.heap.size, 3, none⟩ (.string t8)).setCell ⟨w1.heap.size, 4, none⟩ (.int .i64 n8)).setCell ⟨br, 1, none⟩ (.int .i64 ((j : Int) + 1))) = we at *
      clear hwe
      have hbd1 : Below we.heap.size we we.drew := (Below.refl _ _).drew
      have H := qh (H2.out.below hbd1)
      have HX := qh (HX.out.below hbd1)
      have TB := qh (show TBe we.drew w1.heap.size #[.int .u8 k8, .complex .f64 (fl s1) (fl s2), .complex .f64 (fl q3) (fl q4), .string t8, .int .i64 n8] from (show TBe we w1.heap.size #[.int .u8 k8, .complex .f64 (fl s1) (fl s2), .complex .f64 (fl q3) (fl q4), .string t8, .int .i64 n8] from T2.out).below hbd1)
      have c1 := Lx.Blk.cell TB.out 1
      have c3 := Lx.Blk.cell TB.out 3
      simp only [List.getElem?_toArray, List.getElem?_cons_zero, List.getElem?_cons_succ] at c1 c3
      have d2 := HE.out (j + 1) (by omega) (by omega) we.drew H.out.1
      have HD0 : we.drew.cell? ⟨w1.heap.size, 1, none⟩ = some (.complex .f64 (fl s1) (fl s2)) ∧ we.drew.cell? ⟨w1.heap.size, 3, none⟩ = some (.string t8) := ⟨c1, c3⟩
      have hlt9 : br < w1.heap.size := by omega
      have hsz9 := TB.out.lt
      clear c1 c3 T1 T2 H1 HX1 H2 hbd1 m1 f1 z0 z1 z2 z3 z4 g0 g1 g2 g3 g4 HB5
      cases hy : levD L fac 1 (j + 1) with
      | error k =>
        rw [hy] at d2
        have HS := qh (show res = .error k by rw [HS4.out, hy])
        have hk8 := HME.out _ _ (by omega) hy
        have D2 := qh d2
        clear d2 hy HS4
        go_region_held3 (fun w' => w'.cell? ⟨w1.heap.size, 1, none⟩ = some (.complex .f64 (fl s1) (fl s2)) ∧ w'.cell? ⟨w1.heap.size, 3, none⟩ = some (.string t8))
         ((first | (with_reducible exact HD0) | (with_reducible assumption) | exact held_tok HD0 (by assumption) hlt9 | (exact held_tok (br := br) (by assumption) (grown_of_below (by assumption) _) hlt9)))
         ((first
           | (go_at_call 93; (with_reducible refine D2.out.mono ?_); rintro e wg ⟨p9, rfl, hp, hg⟩)
           | (go_at_call 83; (with_reducible refine (node_un 11 11 rfl s1 s2 t8 (some ⟨bx, 0, none⟩) p9).mono ?_); rintro e wh ⟨b_, rfl, hb⟩)))
        clear HD0 D2
        have H := qh ((H.out.trans ⟨hp, hg⟩).below hb)
        have TB := qh (show TBk _ w1.heap.size from ⟨_, _, _, _, _, (TB.out.grown hg hne).below hb⟩)
        clear hp hg hb
        have HM0 := qh (loopM_bad (w := w) H.out HO.out hj)
        go_wp2
        go_roundw
        case rel => exact ⟨_, rfl, qh (.inr ⟨_, by omega, H.out, HS.out⟩), TB⟩
        case measure => exact HM0.out
      | ok r =>
        obtain ⟨y, j2⟩ := r
        rw [hy] at d2
        have hj2 := HM.out _ _ _ hy
        have HS := qh (show res = binsP L (levD L fac 1) 1 (L.length + 1) (mk 11 (s1, s2) t8 0 [x, y]) j2 by rw [HS4.out, hy, HTX.out, HP.out]; exact HBS.out _ _ _ (by omega))
        have D2 := qh d2
        clear d2 hy HS4
        go_region_held3 (fun w' => w'.cell? ⟨w1.heap.size, 1, none⟩ = some (.complex .f64 (fl s1) (fl s2)) ∧ w'.cell? ⟨w1.heap.size, 3, none⟩ = some (.string t8))
         ((first | (with_reducible exact HD0) | (with_reducible assumption) | exact held_tok HD0 (by assumption) hlt9 | (exact held_tok (br := br) (by assumption) (grown_of_below (by assumption) _) hlt9)))
         ((first
           | (go_at_call 93; (with_reducible refine D2.out.mono ?_); rintro e wg ⟨by_, rfl, hp, hg, hr⟩)
           | (go_at_call 83; (with_reducible refine (node_2 (B := w1.heap.size + 1) (by have := hg.size; omega) 11 11 rfl s1 s2 t8 (repS_grown HX.out hg hbrt) (hr.more (S' := fun y => w1.heap.size + 1 ≤ y) fun y hy _ => Nat.le_trans hsz9 hy)).mono ?_); rintro e wh ⟨b_, rfl, hb, hr2⟩)))
        clear HD0 D2
        have H := qh ((H.out.trans ⟨hp, hg⟩).below hb)
        have HX := qh hr2
        have TB := qh (show TBk _ w1.heap.size from ⟨_, _, _, _, _, (TB.out.grown hg hne).below hb⟩)
        clear hp hg hb hr hr2
        have HM0 := qh (loopM_good (w := w) H.out HO.out hj (by omega))
        go_wp2
        go_roundw
        case rel => exact ⟨_, rfl, qh (.inl ⟨_, _, _, rfl, by omega, H.out, HX.out, by omega, HS.out⟩), TB⟩
        case measure => exact HM0.out
set_option maxRecDepth 100000 in set_option maxHeartbeats 6400000 in
theorem rsimple_s {fac : Nat → Except Nat (T1 × Nat)} {su : Par T1} (he : Good su) (hs : Strict su) {lo : Nat} {w0 : World} {br c : Nat} {A : Option Addr} {L : List PT} (ht : Toks w0 br A L) (ok : OKRow L) (hx : ∀ j, levD L fac 1 j = su L j) (hE : RnOK 93 (levD L fac 1) lo w0 br A c L) (hm : SpOK L (levD L fac 1))
 (i : Nat) (hlo : lo ≤ i) (hi : i ≤ 60000) (w : World) (h : QInv w0 w br A c L i false) (hsg : signed L i 1 = true) :
 Calls Try.prog 81 #[.pointer (some ⟨br, 0, none⟩)] w (RefR w.heap.size w0 w br A c L (levD L fac 2 i)) := by
 have hbr0 := h.row.lt
 have hlen := ht.len
 have H := qh (QG.start h)
 have HW0 := qh h
 have HE := qh hE
 have HM := qh hm
 have HT := qh ht
 have HOK := qh ok
 have HME := qh (err_bd he hx hlen)
 have HBS := qh (bins_same (sub := levD L fac 1) hs hx 1)
 have HSG := qh hsg
 have hil := signed_lt hsg
 have HS0 := qh (show levD L fac 2 i = (match levD L fac 1 (i + 1) with
  | .error e => .error e
  | .ok (x, j) => binsP L (levD L fac 1) 1 (L.length + 1) (mk 12 (pos L i) (tk L i).1.text 0 [x]) j) by
    have hg : signed L i (2 - 1) = true := hsg
    rw [levD]
    rw [hg]
    simp only [if_true]
    cases levD L fac 1 (i + 1) <;> rfl)
 obtain ⟨k7, a1, a2, a3, a4, t7, n7, e1, e2⟩ := val_form (tk L i)
 have HP7 := qh (show pos L i = (a1, a2) by unfold pos; rw [e1])
 have HX7 := qh (show (tk L i).1.text = t7 by rw [e1])
 have n1 := rnow_any ht (i := i) (by omega) w h
 rw [e2] at n1
 have N7 := qh n1
 generalize levD L fac 2 i = res at *
 clear hE h ht hm ok hx he hs hsg n1 e1 e2
 go_enter Try.func81, Try.ntmps81
 go_wp2_with fail
 ((with_reducible refine N7.out.mono ?_); rintro e w1 ⟨rfl, hb⟩)
 have htb : w.heap.size ≤ w1.heap.size := hb.size
 have hne : ¬ br = w1.heap.size := by omega
 have hbrt : br < w1.heap.size + 1 := by omega
 have H := qh ((H.out.below hb).alloc (.cells #[.int .u8 k7, .complex .f64 (fl a1) (fl a2), .complex .f64 (fl a3) (fl a4), .string t7, .int .i64 n7] 68))
 have TB := qh (show TBe (w1.alloc (.cells #[.int .u8 k7, .complex .f64 (fl a1) (fl a2), .complex .f64 (fl a3) (fl a4), .string t7, .int .i64 n7] 68)) w1.heap.size #[.int .u8 k7, .complex .f64 (fl a1) (fl a2), .complex .f64 (fl a3) (fl a4), .string t7, .int .i64 n7] from Lx.Blk.new w1 68 #[.int .u8 k7, .complex .f64 (fl a1) (fl a2), .complex .f64 (fl a3) (fl a4), .string t7, .int .i64 n7])
 have hse : (w1.alloc (.cells #[.int .u8 k7, .complex .f64 (fl a1) (fl a2), .complex .f64 (fl a3) (fl a4), .string t7, .int .i64 n7] 68)).heap.size = w1.heap.size + 1 := World.size_alloc _ _
 have HA := qh (H.out.alloc (.cells #[.string ⟨#[43]⟩, .string ⟨#[45]⟩] 9))
 have IS := qh (show Calls Try.prog 82 #[.pointer (some ⟨br, 0, none⟩), .slice (some ⟨w1.heap.size + 1, 0, none⟩) 2 2] ((w1.alloc (.cells #[.int .u8 k7, .complex .f64 (fl a1) (fl a2), .complex .f64 (fl a3) (fl a4), .string t7, .int .i64 n7] 68)).alloc (.cells #[.string ⟨#[43]⟩, .string ⟨#[45]⟩] 9)) fun e w' => e = .returned (.bool true) ∧ Below ((w1.alloc (.cells #[.int .u8 k7, .complex .f64 (fl a1) (fl a2), .complex .f64 (fl a3) (fl a4), .string t7, .int .i64 n7] 68)).alloc (.cells #[.string ⟨#[43]⟩, .string ⟨#[45]⟩] 9)).heap.size ((w1.alloc (.cells #[.int .u8 k7, .complex .f64 (fl a1) (fl a2), .complex .f64 (fl a3) (fl a4), .string t7, .int .i64 n7] 68)).alloc (.cells #[.string ⟨#[43]⟩, .string ⟨#[45]⟩] 9)) w' from by
  have := ris_any HT.out (by omega) _ HA.out.1 [sPlu, sMin] (by decide) (hse ▸ Lx.Blk.new (w1.alloc (.cells #[.int .u8 k7, .complex .f64 (fl a1) (fl a2), .complex .f64 (fl a3) (fl a4), .string t7, .int .i64 n7] 68)) 9 #[.string ⟨#[43]⟩, .string ⟨#[45]⟩])
  rw [signed_is, HSG.out] at this
  exact this)
 clear hb N7
 go_wp2_with fail
 ((with_reducible refine IS.out.mono ?_); rintro e wi ⟨rfl, hb⟩)
 have H := qh (HA.out.below hb)
 have TB := qh ((TB.out.below ((Below.refl (w1.alloc (.cells #[.int .u8 k7, .complex .f64 (fl a1) (fl a2), .complex .f64 (fl a3) (fl a4), .string t7, .int .i64 n7] 68)).heap.size (w1.alloc (.cells #[.int .u8 k7, .complex .f64 (fl a1) (fl a2), .complex .f64 (fl a3) (fl a4), .string t7, .int .i64 n7] 68))).alloc (Nat.le_refl _) (.cells #[.string ⟨#[43]⟩, .string ⟨#[45]⟩] 9))).below hb)
 clear hb IS HA
 have hgs := Lx.grown_set wi br 1 (.int .i64 ((i + 1 : Nat) : Int))
 obtain ⟨m1, f1, m2, f2, hlt⟩ := H.out.1.at_
 have x0 : (0 : Int) ≤ (i : Int) := by omega
 have H2 := qh (H.out.set_ (i + 1))
 have TB := qh (TB.out.grown hgs hne)
 rw [show ((i + 1 : Nat) : Int) = (i : Int) + 1 by omega] at H2 TB
 clear H hgs
 have H := H2
 clear H2
 have d1 := HE.out (i + 1) (by omega) (by omega) (wi.setCell ⟨br, 1, none⟩ (.int .i64 ((i : Int) + 1))) H.out.1
 cases hy : levD L fac 1 (i + 1) with
 | error k =>
   rw [hy] at d1
   have HS := qh (show res = .error k by rw [HS0.out, hy])
   have hk8 := HME.out _ _ (by omega) hy
   have D1 := qh d1
   clear d1 hy HS0
   go_wp2_with fail
   ((with_reducible refine (D1.out).mono ?_); rintro e wx ⟨p9, rfl, hp, hg⟩)
   have H := qh (H.out.trans ⟨hp, hg⟩)
   have TB := qh (TB.out.grown hg hne)
   clear hp hg
   clear m1 f1 m2 f2
   have c1 := Lx.Blk.cell TB.out 1
   have c3 := Lx.Blk.cell TB.out 3
   simp only [List.getElem?_toArray, List.getElem?_cons_zero, List.getElem?_cons_succ] at c1 c3
   have NW := qh (node_un (w := wx) 12 12 rfl a1 a2 t7 p9 none)
   go_wp2_with fail
   ((with_reducible refine NW.out.mono ?_); rintro e wy ⟨b_, rfl, hb⟩)
   have H := qh (H.out.below hb)
   clear hb NW c1 c3
   go_wp2_with fail
   go_loopw [5] (fun xv wr => ∃ p, xv = .pointer p ∧ Hid (QG w0 w wr br A c L k true)) (fun _ _ => 0)
   case atStart => exact ⟨_, rfl, H⟩
   case round =>
    clear H TB
    obtain ⟨p, rfl, H⟩ := hrel
    have HA := qh (H.out.alloc (.cells #[.string ⟨#[43]⟩, .string ⟨#[45]⟩, .string ⟨#[79, 82]⟩] 9))
    have IS := qh (show Calls Try.prog 82 #[.pointer (some ⟨br, 0, none⟩), .slice (some ⟨wr.heap.size, 0, none⟩) 3 3] (wr.alloc (.cells #[.string ⟨#[43]⟩, .string ⟨#[45]⟩, .string ⟨#[79, 82]⟩] 9)) fun e w' => e = .returned (.bool false) ∧ Below (wr.alloc (.cells #[.string ⟨#[43]⟩, .string ⟨#[45]⟩, .string ⟨#[79, 82]⟩] 9)).heap.size (wr.alloc (.cells #[.string ⟨#[43]⟩, .string ⟨#[45]⟩, .string ⟨#[79, 82]⟩] 9)) w' from ris_any HT.out (by omega) _ HA.out.1 (ops 1) (by decide) (Lx.Blk.new wr 9 #[.string ⟨#[43]⟩, .string ⟨#[45]⟩, .string ⟨#[79, 82]⟩]))
    go_wp2_with fail
    ((with_reducible refine IS.out.mono ?_); rintro e wi ⟨rfl, hb⟩)
    have H := qh (HA.out.below hb)
    clear hb IS HA
    go_wp2
    go_ret
    rw [HS.out]
    exact ⟨_, rfl, H.out.1, H.out.2⟩
 | ok r =>
   obtain ⟨x, j⟩ := r
   rw [hy] at d1
   have hj := (HM.out _ _ _ hy).2
   have hij := (HM.out _ _ _ hy).1
   have HS := qh (show res = binsP L (levD L fac 1) 1 (L.length + 1) (mk 12 (a1, a2) t7 0 [x]) j by rw [HS0.out, hy, HP7.out, HX7.out])
   have D1 := qh d1
   clear d1 hy HS0
   go_wp2_with fail
   ((with_reducible refine (D1.out).mono ?_); rintro e wx ⟨bx, rfl, hp, hg, hr⟩)
   have HX := qh (hr.more (S' := fun y => w1.heap.size + 1 ≤ y) fun y hy _ => Nat.le_trans TB.out.lt hy)
   have H := qh (H.out.trans ⟨hp, hg⟩)
   have TB := qh (TB.out.grown hg hne)
   clear hp hg hr
   clear m1 f1 m2 f2
   have c1 := Lx.Blk.cell TB.out 1
   have c3 := Lx.Blk.cell TB.out 3
   simp only [List.getElem?_toArray, List.getElem?_cons_zero, List.getElem?_cons_succ] at c1 c3
   have NW := qh (node_1 (B := w1.heap.size + 1) (w := wx) TB.out.lt 12 12 rfl a1 a2 t7 HX.out)
   go_wp2_with fail
   ((with_reducible refine NW.out.mono ?_); rintro e wy ⟨bx, rfl, hb, hr⟩)
   have H := qh (H.out.below hb)
   have HX := qh hr
   have TB := qh (TB.out.below hb)
   clear hb NW c1 c3 hr
   go_wp2_with fail
   go_loopw [5] (fun xv wr => ∃ p, xv = .pointer p ∧ Hid (LSB (w1.heap.size + 1) w0 w br A c L res (fun x j => lo ≤ j ∧ res = binsP L (levD L fac 1) 1 (L.length + 1) x j) p wr) ∧ Hid (TBk wr w1.heap.size)) (fun _ wr => loopM L.length wr br)
   case atStart => exact ⟨_, rfl, qh (.inl ⟨_, _, _, rfl, by omega, H.out, HX.out, by omega, HS.out⟩), qh ⟨_, _, _, _, _, TB.out⟩⟩
   case round =>
    clear H HX TB HS
    obtain ⟨p, rfl, HL, TB⟩ := hrel
    rcases HL.out with ⟨x, bx, j, rfl, hj, hG, hR, hjl, hS⟩ | ⟨k, hk8, hG, hS⟩
    case' inr =>
     have H := qh hG
     have HS := qh hS
     clear HL hG hS
     have HA := qh (H.out.alloc (.cells #[.string ⟨#[43]⟩, .string ⟨#[45]⟩, .string ⟨#[79, 82]⟩] 9))
     have IS := qh (show Calls Try.prog 82 #[.pointer (some ⟨br, 0, none⟩), .slice (some ⟨wr.heap.size, 0, none⟩) 3 3] (wr.alloc (.cells #[.string ⟨#[43]⟩, .string ⟨#[45]⟩, .string ⟨#[79, 82]⟩] 9)) fun e w' => e = .returned (.bool false) ∧ Below (wr.alloc (.cells #[.string ⟨#[43]⟩, .string ⟨#[45]⟩, .string ⟨#[79, 82]⟩] 9)).heap.size (wr.alloc (.cells #[.string ⟨#[43]⟩, .string ⟨#[45]⟩, .string ⟨#[79, 82]⟩] 9)) w' from ris_any HT.out (by omega) _ HA.out.1 (ops 1) (by decide) (Lx.Blk.new wr 9 #[.string ⟨#[43]⟩, .string ⟨#[45]⟩, .string ⟨#[79, 82]⟩]))
     go_wp2_with fail
     ((with_reducible refine IS.out.mono ?_); rintro e wi ⟨rfl, hb⟩)
     have H := qh (HA.out.below hb)
     have TB := qh ((TB.out.below ((Below.refl wr.heap.size wr).alloc (Nat.le_refl _) (.cells #[.string ⟨#[43]⟩, .string ⟨#[45]⟩, .string ⟨#[79, 82]⟩] 9))).below hb)
     clear hb IS HA
     go_wp2
     go_ret
     rw [HS.out]
     exact ⟨_, rfl, H.out.1, H.out.2⟩
    obtain ⟨wo, rfl⟩ : ∃ wo : World, wo = wr := ⟨_, rfl⟩
    have H := qh hG
    have HO := qh hG
    have HX := qh hR
    have HS1 := qh (show res = _ from hS.trans (binsP_succ L (levD L fac 1) 1 L.length x j))
    clear HL hG hS hR
    have HA := qh (H.out.alloc (.cells #[.string ⟨#[43]⟩, .string ⟨#[45]⟩, .string ⟨#[79, 82]⟩] 9))
    have IS := qh (show Calls Try.prog 82 #[.pointer (some ⟨br, 0, none⟩), .slice (some ⟨wo.heap.size, 0, none⟩) 3 3] (wo.alloc (.cells #[.string ⟨#[43]⟩, .string ⟨#[45]⟩, .string ⟨#[79, 82]⟩] 9)) fun e w' => e = .returned (.bool (isSW (tk L j) && (ops 1).any (fun s => decide (s = (tk L j).1.text)))) ∧ Below (wo.alloc (.cells #[.string ⟨#[43]⟩, .string ⟨#[45]⟩, .string ⟨#[79, 82]⟩] 9)).heap.size (wo.alloc (.cells #[.string ⟨#[43]⟩, .string ⟨#[45]⟩, .string ⟨#[79, 82]⟩] 9)) w' from ris_any HT.out (by omega) _ HA.out.1 (ops 1) (by decide) (Lx.Blk.new wo 9 #[.string ⟨#[43]⟩, .string ⟨#[45]⟩, .string ⟨#[79, 82]⟩]))
    cases hop : isOp L j 1 with
    | false =>
      have IS := qh (show Calls Try.prog 82 #[.pointer (some ⟨br, 0, none⟩), .slice (some ⟨wo.heap.size, 0, none⟩) 3 3] (wo.alloc (.cells #[.string ⟨#[43]⟩, .string ⟨#[45]⟩, .string ⟨#[79, 82]⟩] 9)) fun e w' => e = .returned (.bool false) ∧ Below (wo.alloc (.cells #[.string ⟨#[43]⟩, .string ⟨#[45]⟩, .string ⟨#[79, 82]⟩] 9)).heap.size (wo.alloc (.cells #[.string ⟨#[43]⟩, .string ⟨#[45]⟩, .string ⟨#[79, 82]⟩] 9)) w' from hop ▸ IS.out)
      have HS := qh (HS1.out.trans (if_neg (by rw [hop]; simp)))
      clear hop HS1
      go_wp2_with fail
      ((with_reducible refine IS.out.mono ?_); rintro e wi ⟨rfl, hb⟩)
      have H := qh (HA.out.below hb)
      have HX := qh ((HX.out.below ((Below.refl wo.heap.size wo).alloc (Nat.le_refl _) (.cells #[.string ⟨#[43]⟩, .string ⟨#[45]⟩, .string ⟨#[79, 82]⟩] 9))).below hb)
      have TB := qh ((TB.out.below ((Below.refl wo.heap.size wo).alloc (Nat.le_refl _) (.cells #[.string ⟨#[43]⟩, .string ⟨#[45]⟩, .string ⟨#[79, 82]⟩] 9))).below hb)
      clear hb IS HA
      go_wp2
      go_ret
      rw [HS.out]
      exact ⟨bx, rfl, H.out.1, H.out.2, HX.out.more (S' := fun y => w.heap.size ≤ y) fun y hy _ => by omega⟩
    | true =>
      have IS := qh (show Calls Try.prog 82 #[.pointer (some ⟨br, 0, none⟩), .slice (some ⟨wo.heap.size, 0, none⟩) 3 3] (wo.alloc (.cells #[.string ⟨#[43]⟩, .string ⟨#[45]⟩, .string ⟨#[79, 82]⟩] 9)) fun e w' => e = .returned (.bool true) ∧ Below (wo.alloc (.cells #[.string ⟨#[43]⟩, .string ⟨#[45]⟩, .string ⟨#[79, 82]⟩] 9)).heap.size (wo.alloc (.cells #[.string ⟨#[43]⟩, .string ⟨#[45]⟩, .string ⟨#[79, 82]⟩] 9)) w' from hop ▸ IS.out)
      have HS4 := qh (HS1.out.trans (if_pos hop))
      have hjlt := op_lt hop
      clear hop HS1
      go_wp2_with fail
      ((with_reducible refine IS.out.mono ?_); rintro e wi ⟨rfl, hb⟩)
      have H := qh (HA.out.below hb)
      have HX := qh ((HX.out.below ((Below.refl wo.heap.size wo).alloc (Nat.le_refl _) (.cells #[.string ⟨#[43]⟩, .string ⟨#[45]⟩, .string ⟨#[79, 82]⟩] 9))).below hb)
      have TB := qh ((TB.out.below ((Below.refl wo.heap.size wo).alloc (Nat.le_refl _) (.cells #[.string ⟨#[43]⟩, .string ⟨#[45]⟩, .string ⟨#[79, 82]⟩] 9))).below hb)
      clear hb IS HA
      obtain ⟨k8, s1, s2, q3, q4, t8, n8, e1, e2⟩ := val_form (tk L j)
      have HP := qh (show pos L j = (s1, s2) by unfold pos; rw [e1])
      have HTX := qh (show (tk L j).1.text = t8 by rw [e1])
      have n1 := rnow_any HT.out (i := j) (by omega) _ H.out.1
      rw [e2] at n1
      have N1 := qh n1
      clear n1 e1 e2
      go_wp2_with fail
      ((with_reducible refine N1.out.mono ?_); rintro e w5 ⟨rfl, hb⟩)
      have H := qh (H.out.below hb)
      have HX := qh (HX.out.below hb)
      have TB := qh (TB.out.below hb)
      clear hb N1
      obtain ⟨v0, v1, v2, v3, v4, hT0⟩ := TB.out
      obtain ⟨z0, z1, z2, z3, z4, g0, g1, g2, g3, g4⟩ := hT0.tok
      have T1 := qh (Lx.tok_stored hT0 (.int .u8 k8) (.complex .f64 (fl s1) (fl s2)) (.complex .f64 (fl q3) (fl q4)) (.string t8) (.int .i64 n8))
      have H1 := qh (H.out.store5 HW0.out htb (.int .u8 k8) (.complex .f64 (fl s1) (fl s2)) (.complex .f64 (fl q3) (fl q4)) (.string t8) (.int .i64 n8))
      have HX1 := qh (rep_store5 HX.out w1.heap.size (fun y hy => by omega) (.int .u8 k8) (.complex .f64 (fl s1) (fl s2)) (.complex .f64 (fl q3) (fl q4)) (.string t8) (.int .i64 n8))
      have hlt := H.out.1.row.lt
      have htl := hT0.lt
      clear H HX TB hT0
      have m1 := (H1.out.1.at_).1
      have f1 := (H1.out.1.at_).2.1
      have hne2 : ¬ w1.heap.size = br := fun e => hne e.symm
      have x0 : (0 : Int) ≤ (j : Int) := by omega
      have H2 := qh (H1.out.set_ (j + 1))
      have HX := qh (repS_grown HX1.out (Lx.grown_set _ br 1 (.int .i64 ((j + 1 : Nat) : Int))) hbrt)
      have T2 := qh (T1.out.far (p := ⟨br, 1, none⟩) hne2 (.int .i64 ((j + 1 : Nat) : Int)))
      rw [show ((j + 1 : Nat) : Int) = (j : Int) + 1 by omega] at H2 HX T2
      have HB5 : ((((((w5.setCell ⟨w1.heap.size, 0, none⟩ (.int .u8 k8)).setCell ⟨w1.heap.size, 1, none⟩ (.complex .f64 (fl s1) (fl s2))).setCell ⟨w1.heap.size, 2, none⟩ (.complex .f64 (fl q3) (fl q4))).setCell ⟨w1.heap.size, 3, none⟩ (.string t8)).setCell ⟨w1.heap.size, 4, none⟩ (.int .i64 n8)).heap.size) = w5.heap.size := by simp [World.size_setCell]
      go_wp2
      generalize hwe : ((((((w5.setCell ⟨w1.heap.size, 0, none⟩ (.int .u8 k8)).setCell ⟨w1.heap.size, 1, none⟩ (.complex .f64 (fl s1) (fl s2))).setCell ⟨w1.heap.size, 2, none⟩ (.complex .f64 (fl q3) (fl q4))).setCell ⟨w1.heap.size, 3, none⟩ (.string t8)).setCell ⟨w1.heap.size, 4, none⟩ (.int .i64 n8)).setCell ⟨br, 1, none⟩ (.int .i64 ((j : Int) + 1))) = we at *
      clear hwe
      have hbd1 : Below we.heap.size we we.drew := (Below.refl _ _).drew
      have H := qh (H2.out.below hbd1)
      have HX := qh (HX.out.below hbd1)
      have TB := qh (show TBe we.drew w1.heap.size #[.int .u8 k8, .complex .f64 (fl s1) (fl s2), .complex .f64 (fl q3) (fl q4), .string t8, .int .i64 n8] from (show TBe we w1.heap.size #[.int .u8 k8, .complex .f64 (fl s1) (fl s2), .complex .f64 (fl q3) (fl q4), .string t8, .int .i64 n8] from T2.out).below hbd1)
      have c1 := Lx.Blk.cell TB.out 1
      have c3 := Lx.Blk.cell TB.out 3
      simp only [List.getElem?_toArray, List.getElem?_cons_zero, List.getElem?_cons_succ] at c1 c3
      have d2 := HE.out (j + 1) (by omega) (by omega) we.drew H.out.1
      have HD0 : we.drew.cell? ⟨w1.heap.size, 1, none⟩ = some (.complex .f64 (fl s1) (fl s2)) ∧ we.drew.cell? ⟨w1.heap.size, 3, none⟩ = some (.string t8) := ⟨c1, c3⟩
      have hlt9 : br < w1.heap.size := by omega
      have hsz9 := TB.out.lt
      clear c1 c3 T1 T2 H1 HX1 H2 hbd1 m1 f1 z0 z1 z2 z3 z4 g0 g1 g2 g3 g4 HB5
      cases hy : levD L fac 1 (j + 1) with
      | error k =>
        rw [hy] at d2
        have HS := qh (show res = .error k by rw [HS4.out, hy])
        have hk8 := HME.out _ _ (by omega) hy
        have D2 := qh d2
        clear d2 hy HS4
        go_region_held3 (fun w' => w'.cell? ⟨w1.heap.size, 1, none⟩ = some (.complex .f64 (fl s1) (fl s2)) ∧ w'.cell? ⟨w1.heap.size, 3, none⟩ = some (.string t8))
         ((first | (with_reducible exact HD0) | (with_reducible assumption) | exact held_tok HD0 (by assumption) hlt9 | (exact held_tok (br := br) (by assumption) (grown_of_below (by assumption) _) hlt9)))
         ((first
           | (go_at_call 93; (with_reducible refine D2.out.mono ?_); rintro e wg ⟨p9, rfl, hp, hg⟩)
           | (go_at_call 83; (with_reducible refine (node_un 11 11 rfl s1 s2 t8 (some ⟨bx, 0, none⟩) p9).mono ?_); rintro e wh ⟨b_, rfl, hb⟩)))
        clear HD0 D2
        have H := qh ((H.out.trans ⟨hp, hg⟩).below hb)
        have TB := qh (show TBk _ w1.heap.size from ⟨_, _, _, _, _, (TB.out.grown hg hne).below hb⟩)
        clear hp hg hb
        have HM0 := qh (loopM_bad (w := w) H.out HO.out hj)
        go_wp2
        go_roundw
        case rel => exact ⟨_, rfl, qh (.inr ⟨_, by omega, H.out, HS.out⟩), TB⟩
        case measure => exact HM0.out
      | ok r =>
        obtain ⟨y, j2⟩ := r
        rw [hy] at d2
        have hj2 := HM.out _ _ _ hy
        have HS := qh (show res = binsP L (levD L fac 1) 1 (L.length + 1) (mk 11 (s1, s2) t8 0 [x, y]) j2 by rw [HS4.out, hy, HTX.out, HP.out]; exact HBS.out _ _ _ (by omega))
        have D2 := qh d2
        clear d2 hy HS4
        go_region_held3 (fun w' => w'.cell? ⟨w1.heap.size, 1, none⟩ = some (.complex .f64 (fl s1) (fl s2)) ∧ w'.cell? ⟨w1.heap.size, 3, none⟩ = some (.string t8))
         ((first | (with_reducible exact HD0) | (with_reducible assumption) | exact held_tok HD0 (by assumption) hlt9 | (exact held_tok (br := br) (by assumption) (grown_of_below (by assumption) _) hlt9)))
         ((first
           | (go_at_call 93; (with_reducible refine D2.out.mono ?_); rintro e wg ⟨by_, rfl, hp, hg, hr⟩)
           | (go_at_call 83; (with_reducible refine (node_2 (B := w1.heap.size + 1) (by have := hg.size; omega) 11 11 rfl s1 s2 t8 (repS_grown HX.out hg hbrt) (hr.more (S' := fun y => w1.heap.size + 1 ≤ y) fun y hy _ => Nat.le_trans hsz9 hy)).mono ?_); rintro e wh ⟨b_, rfl, hb, hr2⟩)))
        clear HD0 D2
        have H := qh ((H.out.trans ⟨hp, hg⟩).below hb)
        have HX := qh hr2
        have TB := qh (show TBk _ w1.heap.size from ⟨_, _, _, _, _, (TB.out.grown hg hne).below hb⟩)
        clear hp hg hb hr hr2
        have HM0 := qh (loopM_good (w := w) H.out HO.out hj (by omega))
        go_wp2
        go_roundw
        case rel => exact ⟨_, rfl, qh (.inl ⟨_, _, _, rfl, by omega, H.out, HX.out, by omega, HS.out⟩), TB⟩
        case measure => exact HM0.out
theorem rsimple_any {fac : Nat → Except Nat (T1 × Nat)} {su : Par T1} (he : Good su) (hs : Strict su) {lo : Nat} {w0 : World} {br c : Nat} {A : Option Addr} {L : List PT} (ht : Toks w0 br A L) (ok : OKRow L) (hx : ∀ j, levD L fac 1 j = su L j) (hE : RnOK 93 (levD L fac 1) lo w0 br A c L) (hm : SpOK L (levD L fac 1)) :
 RnOK 81 (levD L fac 2) lo w0 br A c L := by
 intro i hlo hi w h
 cases hsg : signed L i 1 with
 | false => exact rsimple_n he hs ht ok hx hE hm i hlo hi w h hsg
 | true => exact rsimple_s he hs ht ok hx hE hm i hlo hi w h hsg
end Go.Proofs.Ytecmjhohniipoaa.Ex
end
