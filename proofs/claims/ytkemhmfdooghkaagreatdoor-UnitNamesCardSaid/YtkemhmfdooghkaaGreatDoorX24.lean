import Derived.Test.YtkemhmfdooghkaaGreatDoorX22
import Derived.Test.YtkemhmfdooghkaaGreatDoorX23
set_option linter.unusedSimpArgs false
set_option linter.unusedVariables false
set_option maxRecDepth 100000
set_option maxHeartbeats 6400000
namespace Go.Proofs.YtkemhmfdooghkaaGreatDoor
namespace De
open Go.RowKit
open Tr (Nd Fo RepS RepN Rep cellsN)
open Lx (Tk noTk Blk run_store_complexL TokAt)
open Fl
open Ex
open St (TkS g2_max g2_expr g2_labels Good2 isNm KG KN new_kg kid_facts one_ptr bind_ok bind_err need_y need_n tok_y tok_n ret_ add_block sSem sCol sEnd sOf sBar sElse sCase sTo armOut isWd6)
attribute [local go_sem] run_store_complexL run_field0 run_field1 run_field3
structure LG (B : Nat) (w : World) (sv : Value) (acc : List T1) (xs : List Value) : Prop where
 own : w.ownsRow B 31 1 sv xs.length xs
 rep : RepS (fun y => B ≤ y ∧ sv.ownBlock ≠ some y) w (forest acc) xs
 len : xs.length = acc.length
section
variable {B B' br : Nat} {w w1 W wr : World} {sv v : Value} {xs vs : List Value} {acc : List T1}
theorem LG.nil (B : Nat) (w : World) : LG B w (.slice none 0 0) [] [] := ⟨World.ownsRow_nil _ _ _ _, by unfold forest RepS; rfl, rfl⟩
theorem LG.below (h : LG B w sv acc xs) (hb : Below w.heap.size w w1) : LG B w1 sv acc xs :=
 ⟨h.own.kept (grown_of_below hb none) (by rcases h : sv.ownBlock with _ | g; exact .inl rfl; exact .inr (by simp)), h.rep.below hb, h.len⟩
theorem LG.grown (h : LG B w sv acc xs) (hg : w.grownBy w1 (some br)) (hbr : br < B) : LG B w1 sv acc xs :=
 ⟨h.own.kept hg (.inr fun e => by have := (h.own.lt _ e).1; omega), h.rep.keep hg.size (fun x hx hl => hg.block x hl (fun e => by injection e with e; have := hx.1; omega)) (fun x hx _ => hx), h.len⟩
theorem LG.lower (h : LG B w sv acc xs) (hB : B' ≤ B) : LG B' w sv acc xs := ⟨Lx.own_mono h.own hB, h.rep.more fun y hy _ => ⟨by omega, hy.2⟩, h.len⟩
theorem LG.new {f : Fo} (h : LG B wr sv acc xs) (hr : RepS (fun y => wr.heap.size ≤ y) w1 f vs) (hB : B ≤ wr.heap.size) : RepS (fun y => B ≤ y ∧ sv.ownBlock ≠ some y) w1 f vs :=
 hr.more fun y hy _ => ⟨by omega, fun e => by have := (h.own.lt _ e).2; omega⟩
theorem LG.step {g cap : Nat} {x : T1} (h : LG B W sv acc xs) (hx : RepS (fun y => B ≤ y ∧ sv.ownBlock ≠ some y) W (.node x.1 x.2 .no) [v])
 (hown : w1.ownsRow B 31 1 (.slice (some ⟨g, 0, none⟩) (xs.length + 1) cap) (xs.length + 1) (xs ++ [v])) (hg : W.grownBy w1 sv.ownBlock) (hor : sv.ownBlock = some g ∨ g = W.heap.size) :
 LG B w1 (.slice (some ⟨g, 0, none⟩) (xs.length + 1) cap) (acc ++ [x]) (xs ++ [v]) := by
 refine ⟨by rw [List.length_append, List.length_singleton]; exact hown, ?_, by rw [List.length_append, List.length_append, h.len]; rfl⟩
 have hS : ∀ y, (B ≤ y ∧ sv.ownBlock ≠ some y) → y < W.heap.size → (B ≤ y ∧ (Value.slice (some ⟨g, 0, none⟩) (xs.length + 1) cap).ownBlock ≠ some y) := by
  intro y hy hl
  refine ⟨hy.1, ?_⟩
  show some g ≠ some y
  intro e
  injection e with e
  subst e
  rcases hor with hor | hor
  ·exact hy.2 hor
  ·omega
 have hkeep : ∀ y, (B ≤ y ∧ sv.ownBlock ≠ some y) → y < W.heap.size → w1.heap[y]? = W.heap[y]? := fun y hy hl => hg.block y hl (fun e => hy.2 e.symm)
 rw [forest_snoc]
 exact RepS.snoc (hx.keep hg.size hkeep hS) (h.rep.keep hg.size hkeep hS)
def ListR (B : Nat) (w0 w : World) (br : Nat) (A : Option Addr) (c : Nat) (L : List PT) (r : Except Nat (List T1 × Nat)) (e : Ending) (w' : World) : Prop := match r with
 | .ok (l, j) => ∃ sv xs, e = .returned sv ∧ PInv w0 w' br A c L j ∧ w.grownBy w' (some br) ∧ LG B w' sv l xs
 | .error k => e = bad k ∧ w.grownBy w' (some br)
theorem LG.form (h : LG B w sv acc xs) : ∃ A c, sv = .slice A acc.length c ∧ Reads w w.heap.size 1 A xs.length xs := by
 obtain ⟨A, c, rfl, hr⟩ := own_form h.own
 exact ⟨A, c, by rw [h.len], hr⟩
theorem new_lg {B : Nat} {w : World} (hw : B ≤ w.heap.size) (kI : Int) (kind : Nat) (hkI : kI = (kind : Int)) (p1 p2 : Nat) (name : ByteArray) (n : Int) {sv : Value} {acc : List T1} {xs : List Value} (h : LG B w sv acc xs) (hl : acc.length ≤ 1000000) :
 Calls Tryz.prog 33 #[.int .u8 kI, .complex .f64 (fl p1) (fl p2), .string name, .int .i64 n, sv] w fun e w' =>
  ∃ b, e = .returned (.pointer (some ⟨b, 0, none⟩)) ∧ Below w.heap.size w w' ∧ RepS (fun y => B ≤ y) w' (.node (mk kind (p1, p2) name n acc).1 (mk kind (p1, p2) name n acc).2 .no) [.pointer (some ⟨b, 0, none⟩)] := by
 obtain ⟨A, c, rfl, hr⟩ := h.form
 refine (new_kg (B0 := B) hw kI kind hkI p1 p2 name n A c acc.length xs acc h.len h.len hl (by rw [← h.len]; exact hr) (repN_of (h.rep.more fun y hy _ => hy.1))).mono ?_
 rintro e w' ⟨b, sv, xs', rfl, hb, hk⟩
 exact ⟨b, rfl, hb, hk.done hw⟩
theorem new_leaf {w : World} (kI : Int) (kind : Nat) (hkI : kI = (kind : Int)) (p1 p2 : Nat) (name : ByteArray) (n : Int) :
 Calls Tryz.prog 33 #[.int .u8 kI, .complex .f64 (fl p1) (fl p2), .string name, .int .i64 n, .slice none 0 0] w fun e w' =>
  ∃ b, e = .returned (.pointer (some ⟨b, 0, none⟩)) ∧ Below w.heap.size w w' ∧ RepS (fun y => w.heap.size ≤ y) w' (.node (mk kind (p1, p2) name n []).1 (mk kind (p1, p2) name n []).2 .no) [.pointer (some ⟨b, 0, none⟩)] :=
 new_lg nl kI kind hkI p1 p2 name n (LG.nil _ _) (by decide)
end
theorem row_at {w0 w : World} {br c i : Nat} {A : Option Addr} {L : List PT} (ht : TkS w0 br A L) (h : PInv w0 w br A c L i) : RowAt w A L := by
 refine ⟨⟨ht.toks.reads.1, fun h0 => ?_⟩, fun ad e => Nat.lt_of_lt_of_le (ht.low ad e) h.grown.size, ht.toks.len⟩
 obtain ⟨ad, e, hlt, hc⟩ := ht.toks.reads.2 h0
 refine ⟨ad, e, Nat.lt_of_lt_of_le hlt h.grown.size, fun j u hu => ?_⟩
 rw [← hc j u hu]
 have hne := ht.toks.far _ e
 exact World.cell?_of_block (by rw [add_block]; exact h.grown.block ad.block hlt (fun e => hne (by simpa using e)))
theorem of_fn {F : Nat} (hev : ∀ args w, (callFunc F args).run Tryz.prog w = .ok (.enter F args) w) {w0 : World} {br c : Nat} {A : Option Addr} {L : List PT} (ht : TkS w0 br A L) {r : Except Nat (T1 × Nat)} (i : Nat) (hi : i ≤ L.length) (w : World) (h : PInv w0 w br A c L i)
 (d1 : RowAt w.drew A L → Calls Tryz.prog F #[.slice A L.length c, .int .i64 i] w.drew (ParR w.drew r)) :
 Calls Tryz.prog 77 #[.pointer (some ⟨br, 0, none⟩), .func (.func F) #[] #[]] w (TreeR w.heap.size w0 w br A c L r) := by
 have hbr0 := h.row.lt
 have hlen := ht.toks.len
 have d1 := d1 (row_at ht (h.below ((Below.refl _ _).drew)))
 have m0 : w.cell? ⟨br, 0, none⟩ = some (.slice A L.length c) := h.row.cell 0
 obtain ⟨m1, f1, hlt⟩ := h.at_
 have H := qh (PG.start h)
 have x0 : (0 : Int) ≤ (i : Int) := by omega
 cases r with
 | error k9 =>
   have D1 := qh d1
   clear d1 h ht
   go_enter Tryz.func77, Tryz.ntmps77
   go_wp2
   go_region_law (first
    | (go_simp; (with_reducible refine D1.out.mono ?_); rintro e x ⟨rfl, hb⟩; have HX := qh (H.out.below ((Below.refl _ _).drew.trans (hb.mono nl))); clear hb))
   all_goals
    go_wp2
    exact ⟨rfl, rfl, HX.out.2⟩
 | ok r =>
   obtain ⟨y, j⟩ := r
   have D1 := qh d1
   clear d1 h ht
   go_enter Tryz.func77, Tryz.ntmps77
   go_wp2
   go_region_law (first
    | (go_simp; (with_reducible refine D1.out.mono ?_); rintro e x ⟨b, rfl, hr, hb⟩; have HX := qh (H.out.below ((Below.refl _ _).drew.trans (hb.mono nl))); have HR := qh (show RepS (fun y => w.heap.size ≤ y) x _ _ from hr); clear hb hr; obtain ⟨z1, zf1, hzl⟩ := HX.out.1.at_))
   all_goals
    have H2 := qh (HX.out.set_ j)
    have HR2 := qh (HR.out.keep (by rw [World.size_setCell]; exact Nat.le_refl _) (fun y hy _ => Below.heap_setCell _ ⟨br, 1, none⟩ (.int .i64 j) y (show y ≠ br by omega)) (fun y h _ => h))
    go_wp2
    go_ret
    exact ⟨b, rfl, H2.out.1, H2.out.2, HR2.out⟩
section
variable {g : Nat} {w0 : World} {br c : Nat} {A : Option Addr} {L : List PT} (ht : TkS w0 br A L) (hg : L.length < g) (i : Nat) (hi : i ≤ L.length) (w : World) (h : PInv w0 w br A c L i)
include ht hg hi h
theorem of_E : Calls Tryz.prog 77 #[.pointer (some ⟨br, 0, none⟩), .func (.func 99) #[] #[]] w (TreeR w.heap.size w0 w br A c L (exprF g L i)) :=
 of_fn (by intro _ _; kernel_rfl) ht i hi w h fun hr => ExprY hr hg c hi
theorem of_Q : Calls Tryz.prog 77 #[.pointer (some ⟨br, 0, none⟩), .func (.func 163) #[] #[]] w (TreeR w.heap.size w0 w br A c L (qualF g L i)) :=
 of_fn (by intro _ _; kernel_rfl) ht i hi w h fun hr => QualY hr hg c hi
theorem of_L : Calls Tryz.prog 77 #[.pointer (some ⟨br, 0, none⟩), .func (.func 137) #[] #[]] w (TreeR w.heap.size w0 w br A c L (labelsF g L i)) :=
 of_fn (by intro _ _; kernel_rfl) ht i hi w h fun hr => LabelsY hr hg c hi
end
theorem names_any {g : Nat} {w0 : World} {br c : Nat} {A : Option Addr} {L : List PT} (ht : TkS w0 br A L) (hg : L.length < g) (i : Nat) (hi : i ≤ L.length) (w : World) (h : PInv w0 w br A c L i) :
 Calls Tryz.prog 101 #[.pointer (some ⟨br, 0, none⟩)] w (ListR w.heap.size w0 w br A c L (namesF g [] L i)) := by
 have hbr0 := h.row.lt
 have hlen := ht.toks.len
 have H0 := qh h
 have H := qh (PG.start h)
 have HT := qh ht
 obtain ⟨i0, hi0, hz0, hz1, hz2⟩ := info_parts infoN
 obtain ⟨res, hs0⟩ : ∃ r, r = namesF g [] L i := ⟨_, rfl⟩
 rw [← hs0]
 have HS := qh hs0
 clear h ht hs0
 go_enter Tryz.func101, Tryz.ntmps101
 go_wp2_with fail
 go_loopg [2] (L.length + 1) (fun gh sv wr => ∃ (lv : Value) (acc : List T1) (xs : List Value) (j f : Nat), lv = sv ∧ j ≤ L.length ∧ L.length + 1 - j ≤ gh ∧ L.length < j + f ∧ acc.length ≤ j ∧ Hid (res = namesF f acc L j) ∧ Hid (PG w0 w wr br A c L j) ∧ Hid (LG w.heap.size wr lv acc xs))
 case atStart => exact ⟨_, [], [], i, g, rfl, hi, by omega, by omega, Nat.zero_le _, HS, H, qh (LG.nil _ _)⟩
 case round =>
  clear H HS
  obtain ⟨lv, acc, xs, j, f, rfl, hj, hgh, hf, hac, HS, H, HG⟩ := hrel
  obtain ⟨f, rfl⟩ : ∃ f', f = f' + 1 := ⟨f - 1, by omega⟩
  obtain ⟨wo, hwo⟩ : ∃ wo : World, wo = wr := ⟨_, rfl⟩
  by_cases hk : (tk L j).1.kind = 1
  ·have hjl : j < L.length := by
    rcases Nat.lt_or_ge j L.length with h | h
    ·exact h
    ·rw [tk_end h] at hk; cases hk
   have D1 := name_ok HT.out.toks (i := j) (by omega) _ H.out.1 hk
   obtain ⟨k_, p1, p2, q1, q2, t_, n_, e1, e2⟩ := val_form (tk L j)
   rw [e2] at D1
   have HS := qh (show res = tokP (tT sCom) (fun _ => namesF f (acc ++ [mk 1 (p1, p2) t_ 0 []])) (retP (acc ++ [mk 1 (p1, p2) t_ 0 []])) L (j + 1) from by
    rw [HS.out, namesF, tok_y (t := isNm) (by simp [isNm, hk]), e1])
   have D1 := qh D1
   clear e1 e2 hk
   go_wp2_with fail
   ((with_reducible refine D1.out.mono ?_); rintro e wx ⟨rfl, hp, hgr⟩)
   have hxl : xs.length ≤ 1000000 := by have := HG.out.len; omega
   have HG := qh (HG.out.grown hgr hbr0)
   have H := qh (H.out.trans ⟨hp, hgr⟩)
   clear hp hgr D1
   have hB1 := Blk.new wx 40 #[.int .u8 k_, .complex .f64 (fl p1) (fl p2), .complex .f64 (fl q1) (fl q2), .string t_, .int .i64 n_]
   have z1 := hB1.cell 1
   have z3 := hB1.cell 3
   simp only [List.getElem?_toArray, List.getElem?_cons_zero, List.getElem?_cons_succ] at z1 z3
   have H := qh (H.out.alloc (.cells #[.int .u8 k_, .complex .f64 (fl p1) (fl p2), .complex .f64 (fl q1) (fl q2), .string t_, .int .i64 n_] 40))
   have HG := qh (HG.out.below ((Below.refl _ _).alloc nl (.cells #[.int .u8 k_, .complex .f64 (fl p1) (fl p2), .complex .f64 (fl q1) (fl q2), .string t_, .int .i64 n_] 40)))
   clear hB1
   have NW := qh (new_leaf (w := wx.alloc (.cells #[.int .u8 k_, .complex .f64 (fl p1) (fl p2), .complex .f64 (fl q1) (fl q2), .string t_, .int .i64 n_] 40)) 1 1 rfl p1 p2 t_ 0)
   go_wp2_with fail
   ((with_reducible refine NW.out.mono ?_); rintro e wy ⟨b, rfl, hb, hr⟩)
   have HR := qh (HG.out.new hr H.out.2.size)
   have HG := qh (HG.out.below hb)
   have H := qh (H.out.below hb)
   have HGO := qh (fun k e => HG.out.own.lt k e)
   clear hb hr NW z1 z3
   have Q := kid_facts (cs := #[.pointer (some ⟨b, 0, none⟩)]) wy.heap.size rfl H.out.2.size HG.out.own hxl (one_ptr (some ⟨b, 0, none⟩)) (by simp)
   go_wp2_with (at_builtin; refine wpList_append_lies _ rfl _ _ _ rfl w.heap.size 31 i0 _ 1 8 Tryz.underlying36 hi0 hz0 hz1 hz2 rfl (by omega) lv xs.length xs rfl Q.out.2.2.2.2 ⟨wy.heap.size, 0, none⟩ 1 1 #[.pointer (some ⟨b, 0, none⟩)].toList rfl rfl Q.out.1 Q.out.2.1 (by omega) Q.out.2.2.1 (by omega) Q.out.2.2.2.1 (wy.heap.size + 1) (by simp) ?_; intro g' cap w5 hown1 hgrow hor hlt5)
   have HG := qh (LG.step (HG.out.below ((Below.refl _ _).alloc nl (.cells #[.pointer (some ⟨b, 0, none⟩)] 31))) (HR.out.below ((Below.refl _ _).alloc nl (.cells #[.pointer (some ⟨b, 0, none⟩)] 31))) hown1 hgrow (hor.imp id fun e => e.trans (World.size_alloc _ _).symm))
   have H := qh ((H.out.alloc (.cells #[.pointer (some ⟨b, 0, none⟩)] 31)).gfar H0.out hgrow (fun k e => (HGO.out _ e).1))
   clear hown1 hgrow hor hlt5 HR HGO Q
   cases hT : isT L (j + 1) sCom with
   | true =>
     have hjn := isT_lt hT
     have D1 := qh (eat_yes HT.out.toks (i := j + 1) (by omega) sCom _ H.out.1 hT)
     have HS := qh (HS.out.trans (tok_y (t := tT sCom) hT))
     clear hT
     go_wp2_with fail
     ((with_reducible refine (D1.out).mono ?_); rintro e wz ⟨rfl, hb⟩)
     have H := qh (H.out.trans hb)
     have HG := qh (HG.out.grown hb.2 hbr0)
     clear hb D1
     go_wp2
     go_roundg (L.length + 1 - (j + 1 + 1))
     case rel => exact ⟨_, _, _, j + 1 + 1, f, rfl, by omega, by omega, by omega, by simp only [List.length_append, List.length_cons, List.length_nil]; omega, HS, H, HG⟩
     case measure => omega
   | false =>
     have D1 := qh (eat_no HT.out.toks (i := j + 1) (by omega) sCom _ H.out.1 hT)
     have HS := qh ((HS.out.trans (tok_n (t := tT sCom) hT)).trans ret_)
     clear hT
     go_wp2_with fail
     ((with_reducible refine (D1.out).mono ?_); rintro e wz ⟨rfl, hb⟩)
     have H := qh (H.out.trans hb)
     have HG := qh (HG.out.grown hb.2 hbr0)
     clear hb D1
     go_wp2
     go_ret
     rw [HS.out]
     exact ⟨_, _, rfl, H.out.1, H.out.2, HG.out⟩
  ·have D1 := qh (name_no HT.out.toks (i := j) (by omega) _ H.out.1 hk)
   have HS := qh (show res = .error j from by rw [HS.out, namesF, tok_n (t := isNm) (by simp [isNm, hk])]; rfl)
   go_wp2_with fail
   ((with_reducible refine D1.out.mono ?_); rintro e w1 ⟨rfl, hb⟩)
   have H3 := qh (grown_trans H.out.2 hb)
   clear hb
   go_wp2
   refine ⟨rfl, ?_⟩
   rw [HS.out]
   exact ⟨rfl, H3.out⟩
end De
namespace De
open Go.RowKit
open Tr (Nd Fo RepS RepN Rep cellsN)
open Lx (Tk noTk Blk run_store_complexL TokAt)
open Fl
open Ex
open St (TkS g2_max g2_expr g2_labels Good2 isNm KG KN new_kg new_0 kid_facts one_ptr bind_ok bind_err need_y need_n tok_y tok_n ret_ add_block sSem sCol sEnd sOf sBar sElse sCase sTo armOut isWd6)
attribute [local go_sem] run_store_complexL run_field0 run_field1 run_field3
def entsV (l : List (ByteArray × Value)) : List (Value × Value) := l.map fun x => (.string x.1, x.2)
theorem find_ents (t : ByteArray) : ∀ (l : List (ByteArray × Value)) (i b : Nat), (∀ v, (l.find? (fun x => decide (x.1 = t))).map (·.2) = some v → ∃ j, Instr.findNow .string (.string t) (esF b (entsV l)) i = some (some (j, v))) ∧ ((∀ x ∈ l, x.1 ≠ t) → Instr.findNow .string (.string t) (esF b (entsV l)) i = some none)
 | [], i, b => ⟨(fun v h => by cases h), fun _ => rfl⟩
 | (s, u) :: l, i, b => by
   have ih := find_ents t l (i + 1) (b + 1)
   have e : Instr.findNow .string (.string t) (esF b (entsV ((s, u) :: l))) i = if (t == s) = true then some (some (i, u)) else Instr.findNow .string (.string t) (esF (b + 1) (entsV l)) (i + 1) := by
    show (match Instr.sameNow .string (.string t) (.string s) with | some true => _ | some false => _ | none => _) = _
    simp only [Instr.sameNow]
    all_goals (cases h : t == s <;> rfl)
   have hb : (t == s) = decide (s = t) := by
    rw [Bool.eq_iff_iff, decide_eq_true_eq]
    constructor
    ·intro h; exact ((MapKept.bytes_beq _ _).1 h).symm
    ·intro h; exact (MapKept.bytes_beq _ _).2 h.symm
   rw [e, hb]
   by_cases h : s = t
   ·simp [h]
   ·simp only [List.find?_cons, decide_eq_false h, Bool.false_eq_true, if_false]
    exact ⟨ih.1, fun hx => ih.2 fun x hxm => hx x (List.mem_cons_of_mem _ hxm)⟩
theorem ents_snoc (l : List (ByteArray × Value)) (s : ByteArray) (v : Value) : entsV l ++ [(.string s, v)] = entsV (l ++ [(s, v)]) := by simp [entsV]
def wordD (br : Nat) : List (ByteArray × Value) := [(sConst, .func (.func 81) #[.pointer (some ⟨br, 0, none⟩)] #[]), (sType, .func (.func 82) #[.pointer (some ⟨br, 0, none⟩)] #[]), (sVar, .func (.func 83) #[.pointer (some ⟨br, 0, none⟩)] #[])]
theorem ins_w (l : List (ByteArray × Value)) (s : ByteArray) (v : Value) (hn : ∀ x ∈ l, x.1 ≠ s) (W : World) (m : Nat) (hm : W.heap.size = m) : (Instr.mapUpdate 123 (.map (some m)) (.string s) v).run Tryz.prog (W.alloc (mapO (entsV l))) = .ok () (W.alloc (mapO (entsV (l ++ [(s, v)])))) := by
 rw [← ents_snoc]
 exact run_ins Tryz.underlying123 Tryz.underlying9 (entsV l) (.string s) v (by simp [MapKept.IsKey]) ((find_ents _ _ 0 0).2 hn) W m hm
theorem ins_0 (br : Nat) (W : World) (m : Nat) (hm : W.heap.size = m) : (Instr.mapUpdate 123 (.map (some m)) (.string sConst) (.func (.func 81) #[.pointer (some ⟨br, 0, none⟩)] #[])).run Tryz.prog (W.alloc (.map #[] 0)) = .ok () (W.alloc (mapO (entsV [(sConst, .func (.func 81) #[.pointer (some ⟨br, 0, none⟩)] #[])]))) :=
 ins_w [] sConst _ (by simp) W m hm
theorem ins_1 (br : Nat) (W : World) (m : Nat) (hm : W.heap.size = m) : (Instr.mapUpdate 123 (.map (some m)) (.string sType) (.func (.func 82) #[.pointer (some ⟨br, 0, none⟩)] #[])).run Tryz.prog (W.alloc (mapO (entsV [(sConst, .func (.func 81) #[.pointer (some ⟨br, 0, none⟩)] #[])]))) = .ok () (W.alloc (mapO (entsV [(sConst, .func (.func 81) #[.pointer (some ⟨br, 0, none⟩)] #[]), (sType, .func (.func 82) #[.pointer (some ⟨br, 0, none⟩)] #[])]))) :=
 ins_w [_] sType _ (by simp) W m hm
theorem ins_2 (br : Nat) (W : World) (m : Nat) (hm : W.heap.size = m) : (Instr.mapUpdate 123 (.map (some m)) (.string sVar) (.func (.func 83) #[.pointer (some ⟨br, 0, none⟩)] #[])).run Tryz.prog (W.alloc (mapO (entsV [(sConst, .func (.func 81) #[.pointer (some ⟨br, 0, none⟩)] #[]), (sType, .func (.func 82) #[.pointer (some ⟨br, 0, none⟩)] #[])]))) = .ok () (W.alloc (mapO (entsV (wordD br)))) :=
 ins_w [_, _] sVar _ (by simp) W m hm
theorem look_no {br : Nat} {t : ByteArray} (h : ∀ x ∈ wordD br, x.1 ≠ t) (w : World) (m : Nat) (hm : w.heap[m]? = some (mapO (entsV (wordD br)))) : (Instr.lookup 123 (.map (some m)) (.string t) true).run Tryz.prog w = .ok (.tuple #[.nilFunc, .bool false]) w :=
 run_look_no Tryz.underlying123 Tryz.underlying9 (entsV (wordD br)) (.string t) (by simp [MapKept.IsKey]) ((find_ents _ _ 0 0).2 h) true w (by kernel_rfl) m hm
section
variable {br b c i i' : Nat} {w0 w wr w1 : World} {A : Option Addr} {L : List PT} {u : Value}
theorem PG.hung {row : Option Nat} (h : PG w0 w wr br A c L i) (hw : PInv w0 w br A c L i') (o : Obj) (hg : (wr.alloc o).grownBy w1 row) (hr : ∀ k, row = some k → w.heap.size ≤ k) (hb : w.heap.size ≤ b) : PG w0 w (w1.setCell ⟨b, 4, none⟩ u) br A c L i :=
 ((h.alloc o).gfar hw hg hr).far hw hb 4 u
end
theorem new_kgl {B : Nat} {w : World} (hw : B ≤ w.heap.size) (kI : Int) (kind : Nat) (hkI : kI = (kind : Int)) (p1 p2 : Nat) (name : ByteArray) (n : Int) {sv : Value} {acc : List T1} {xs : List Value} (h : LG B w sv acc xs) (hl : acc.length ≤ 1000000) :
 Calls Tryz.prog 33 #[.int .u8 kI, .complex .f64 (fl p1) (fl p2), .string name, .int .i64 n, sv] w fun e w' =>
  ∃ b sv' xs', e = .returned (.pointer (some ⟨b, 0, none⟩)) ∧ Below w.heap.size w w' ∧ KG B w.heap.size w' b ⟨kind, (p1, p2), name, n⟩ sv' acc xs' := by
 obtain ⟨A, c, rfl, hr⟩ := h.form
 exact new_kg (B0 := B) hw kI kind hkI p1 p2 name n A c acc.length xs acc h.len h.len hl (by rw [← h.len]; exact hr) (repN_of (h.rep.more fun y hy _ => hy.1))
theorem catch_idle (p q : Addr) (w : World) :
 CallsD Tryz.prog 80 #[.pointer (some p), .pointer (some q)] .returning w fun e u' w' => e = .returned (.tuple #[]) ∧ u' = .returning ∧ w' = w := by
 refine callsD_of_wpS Tryz.func80 rfl fun c₀ cs hu => ?_
 apply wpS_seq
 apply wpS_region
 simp [wpOpsS, go_sem, recoverD, hu, Tryz.ntmps80, Exit.thenS]
 apply wpS_seq
 apply wpS_region
 simp [wpOpsS, go_sem, Exit.thenS, Array.replicate]
 refine wpS_cond (t := false) (by simp [Act.eval, Array.replicate]) ?_
 simp only [Bool.false_eq_true, if_false]
 refine wpS_of_wp (wp_skip ?_)
 cases c₀
 simp_all [bodyPostS, results, Tryz.results80]
theorem run_bad (k : Int) (w : World) : (Instr.typeAssert (.iface 121 (.int .i64 k)) 20 121 false).run Tryz.prog w = .ok (.int .i64 k) w := by
 kernel_rfl
theorem catch_bad (b2 b3 : Nat) (k : Nat) (w : World)
 (h2 : w.cell? ⟨b2, 0, none⟩ = some (.int .i64 0)) (h3 : w.cell? ⟨b3, 0, none⟩ = some (.int .i64 0)) (f2 : w.frozen? ⟨b2, 0, none⟩ = false) (f3 : w.frozen? ⟨b3, 0, none⟩ = false)
 (n23 : b2 < b3) :
 CallsD Tryz.prog 80 #[.pointer (some ⟨b2, 0, none⟩), .pointer (some ⟨b3, 0, none⟩)] (.panicking [{ v := .iface 121 (.int .i64 k), recovered := false }]) w fun e u' w' =>
  e = .returned (.tuple #[]) ∧ u' = .panicking [{ v := .iface 121 (.int .i64 k), recovered := true }] ∧ w' = ((w.setCell ⟨b2, 0, none⟩ (.int .i64 k)).setCell ⟨b3, 0, none⟩ (.int .i64 60)) := by
 refine callsD_of_wpS Tryz.func80 rfl fun c₀ cs hu => ?_
 apply wpS_seq
 apply wpS_region
 simp [wpOpsS, go_sem, recoverD, hu, Tryz.ntmps80, Exit.thenS]
 apply wpS_seq
 apply wpS_region
 simp [wpOpsS, go_sem, Exit.thenS, Array.replicate]
 refine wpS_cond (t := true) (by simp [Act.eval, Array.replicate]) ?_
 simp only [if_true]
 refine wpS_of_wp ?_
 have hne23 : ¬ b2 = b3 := by omega
 have hne32 : ¬ b3 = b2 := by omega
 have hta := run_bad k
 go_wp2
 simp [bodyPostS, results, Tryz.results80]
def OneR (w0 w : World) (br b2 : Nat) (A : Option Addr) (c : Nat) (L : List PT) (r : Except Nat (T1 × Nat)) (e : Ending) (w' : World) : Prop := match r with
 | .ok (x, j) => ∃ b w1, e = .returned (.tuple #[]) ∧ w' = w1.setCell ⟨b2, 0, none⟩ (.pointer (some ⟨b, 0, none⟩)) ∧ PInv w0 w1 br A c L j ∧ w.grownBy w1 (some br) ∧ RepS (fun y => w.heap.size ≤ y) w1 (.node x.1 x.2 .no) [.pointer (some ⟨b, 0, none⟩)]
 | .error k => e = bad k ∧ w.grownBy w' (some br)
def ParseR (w : World) (b2 : Nat) (r : Except Nat (T1 × Nat)) (e : Ending) (w' : World) : Prop := match r with
 | .ok (x, j) => ∃ b, e = .returned (.tuple #[.int .i64 j, .int .i64 0]) ∧ w.grownBy w' (some b2) ∧ Blk w' b2 31 #[.pointer (some ⟨b, 0, none⟩)] ∧ RepS (fun y => w.heap.size ≤ y) w' (.node x.1 x.2 .no) [.pointer (some ⟨b, 0, none⟩)]
 | .error k => e = .returned (.tuple #[.int .i64 k, .int .i64 60]) ∧ Below w.heap.size w w'
theorem one1_any {w0 w : World} {br c b1 b2 : Nat} {A : Option Addr} {L : List PT} {r : Except Nat (T1 × Nat)} (HF : Calls Tryz.prog 59 #[.pointer (some ⟨br, 0, none⟩)] w (TreeR w.heap.size w0 w br A c L r))
 (h1 : w.cell? ⟨b1, 0, none⟩ = some (.func (.func 59) #[] #[])) (h2 : w.cell? ⟨b2, 0, none⟩ = some (.pointer none)) (f2 : w.frozen? ⟨b2, 0, none⟩ = false) (hn : b2 ≠ br) :
 Calls Tryz.prog 74 #[.pointer (some ⟨br, 0, none⟩), .pointer (some ⟨b1, 0, none⟩), .pointer (some ⟨b2, 0, none⟩)] w (OneR w0 w br b2 A c L r) := by
 have l1 := World.block_lt_of_cell? w _ h1
 have l2 := World.block_lt_of_cell? w _ h2
 have HF := qh HF
 cases r with
 | error k =>
   go_enter Tryz.func74, Tryz.ntmps74
   go_wp2_with fail
   ((with_reducible refine HF.out.mono ?_); rintro e w1 ⟨rfl, hb⟩)
   have HB := qh hb
   clear hb
   go_wp2
   exact ⟨rfl, rfl, HB.out⟩
 | ok x =>
   obtain ⟨x, j⟩ := x
   go_enter Tryz.func74, Tryz.ntmps74
   go_wp2_with fail
   ((with_reducible refine HF.out.mono ?_); rintro e w1 ⟨b, rfl, hp, hg, hr⟩)
   have z2 : w1.cell? ⟨b2, 0, none⟩ = some (.pointer none) := (World.cell?_of_block (a := ⟨b2, 0, none⟩) (hg.block b2 l2 (fun e => hn (by injection e)))).trans h2
   have zf : w1.frozen? ⟨b2, 0, none⟩ = false := (World.frozen?_of_block (a := ⟨b2, 0, none⟩) (hg.block b2 l2 (fun e => hn (by injection e)))).trans f2
   have HR := qh (And.intro hp (And.intro hg hr))
   clear hp hg hr
   go_wp2
   go_end0
   exact ⟨b, w1, rfl, rfl, HR.out.1, HR.out.2.1, HR.out.2.2⟩
end De
end Go.Proofs.YtkemhmfdooghkaaGreatDoor
