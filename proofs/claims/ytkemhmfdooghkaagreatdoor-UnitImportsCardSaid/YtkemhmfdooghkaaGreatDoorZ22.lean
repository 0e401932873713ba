/- A part of the proof: D3, D4, D5. -/
import Derived.Test.YtkemhmfdooghkaaGreatDoorZ1
import Derived.Test.YtkemhmfdooghkaaGreatDoorZ19
import Derived.Test.YtkemhmfdooghkaaGreatDoorZ21
set_option linter.unusedSimpArgs false
set_option linter.unusedVariables false

section
namespace Go.Proofs.YtkemhmfdooghkaaGreatDoor.De
open Go.RowKit
open Tr (Nd Fo RepS RepN Rep cellsN)
open Lx (Tk noTk Blk run_store_complexL TokAt)
open Fl
open Ex
open St (TkS g2_max g2_expr g2_labels Good2 isNm KG KN new_kg kid_facts one_ptr bind_ok bind_err need_y need_n tok_y tok_n ret_ add_block sSem sCol sEnd sOf sBar sElse sCase sTo armOut isWd6)
attribute [local go_sem] run_store_complexL run_field0 run_field1 run_field3
structure LG (B : Nat) (w : World) (sv : Value) (acc : List T1) (xs : List Value) : Prop where
 own : w.ownsRow B 31 1 sv xs.length xs
 rep : RepS (fun y => B ≤ y ∧ sv.ownBlock ≠ some y) w (forest acc) xs
 len : xs.length = acc.length
section
variable {B B' br : Nat} {w w1 W wr : World} {sv v : Value} {xs vs : List Value} {acc : List T1}
theorem LG.nil (B : Nat) (w : World) : LG B w (.slice none 0 0) [] [] := ⟨World.ownsRow_nil _ _ _ _, by unfold forest RepS; rfl, rfl⟩
theorem LG.below (h : LG B w sv acc xs) (hb : Below w.heap.size w w1) : LG B w1 sv acc xs :=
 ⟨h.own.kept (grown_of_below hb none) (by rcases h : sv.ownBlock with _ | g; exact .inl rfl; exact .inr (by simp)), h.rep.below hb, h.len⟩
theorem LG.grown (h : LG B w sv acc xs) (hg : w.grownBy w1 (some br)) (hbr : br < B) : LG B w1 sv acc xs :=
 ⟨h.own.kept hg (.inr fun e => by have := (h.own.lt _ e).1; omega), h.rep.keep hg.size (fun x hx hl => hg.block x hl (fun e => by injection e with e; have := hx.1; omega)) (fun x hx _ => hx), h.len⟩
theorem LG.lower (h : LG B w sv acc xs) (hB : B' ≤ B) : LG B' w sv acc xs := ⟨Lx.own_mono h.own hB, h.rep.more fun y hy _ => ⟨by omega, hy.2⟩, h.len⟩
theorem LG.new {f : Fo} (h : LG B wr sv acc xs) (hr : RepS (fun y => wr.heap.size ≤ y) w1 f vs) (hB : B ≤ wr.heap.size) : RepS (fun y => B ≤ y ∧ sv.ownBlock ≠ some y) w1 f vs :=
 hr.more fun y hy _ => ⟨by omega, fun e => by have := (h.own.lt _ e).2; omega⟩
theorem LG.step {g cap : Nat} {x : T1} (h : LG B W sv acc xs) (hx : RepS (fun y => B ≤ y ∧ sv.ownBlock ≠ some y) W (.node x.1 x.2 .no) [v])
 (hown : w1.ownsRow B 31 1 (.slice (some ⟨g, 0, none⟩) (xs.length + 1) cap) (xs.length + 1) (xs ++ [v])) (hg : W.grownBy w1 sv.ownBlock) (hor : sv.ownBlock = some g ∨ g = W.heap.size) :
 LG B w1 (.slice (some ⟨g, 0, none⟩) (xs.length + 1) cap) (acc ++ [x]) (xs ++ [v]) := by
 refine ⟨by rw [List.length_append, List.length_singleton]; exact hown, ?_, by rw [List.length_append, List.length_append, h.len]; rfl⟩
 have hS : ∀ y, (B ≤ y ∧ sv.ownBlock ≠ some y) → y < W.heap.size → (B ≤ y ∧ (Value.slice (some ⟨g, 0, none⟩) (xs.length + 1) cap).ownBlock ≠ some y) := by
  intro y hy hl
  refine ⟨hy.1, ?_⟩
  show some g ≠ some y
  intro e
  injection e with e
  subst e
  rcases hor with hor | hor
  ·exact hy.2 hor
  ·omega
 have hkeep : ∀ y, (B ≤ y ∧ sv.ownBlock ≠ some y) → y < W.heap.size → w1.heap[y]? = W.heap[y]? := fun y hy hl => hg.block y hl (fun e => hy.2 e.symm)
 rw [forest_snoc]
 exact RepS.snoc (hx.keep hg.size hkeep hS) (h.rep.keep hg.size hkeep hS)
def ListR (B : Nat) (w0 w : World) (br : Nat) (A : Option Addr) (c : Nat) (L : List PT) (r : Except Nat (List T1 × Nat)) (e : Ending) (w' : World) : Prop := match r with
 | .ok (l, j) => ∃ sv xs, e = .returned sv ∧ PInv w0 w' br A c L j ∧ w.grownBy w' (some br) ∧ LG B w' sv l xs
 | .error k => e = bad k ∧ w.grownBy w' (some br)
theorem LG.form (h : LG B w sv acc xs) : ∃ A c, sv = .slice A acc.length c ∧ Reads w w.heap.size 1 A xs.length xs := by
 obtain ⟨A, c, rfl, hr⟩ := own_form h.own
 exact ⟨A, c, by rw [h.len], hr⟩
theorem new_lg {B : Nat} {w : World} (hw : B ≤ w.heap.size) (kI : Int) (kind : Nat) (hkI : kI = (kind : Int)) (p1 p2 : Nat) (name : ByteArray) (n : Int) {sv : Value} {acc : List T1} {xs : List Value} (h : LG B w sv acc xs) (hl : acc.length ≤ 1000000) :
 Calls Tryz.prog 33 #[.int .u8 kI, .complex .f64 (fl p1) (fl p2), .string name, .int .i64 n, sv] w fun e w' =>
  ∃ b, e = .returned (.pointer (some ⟨b, 0, none⟩)) ∧ Below w.heap.size w w' ∧ RepS (fun y => B ≤ y) w' (.node (mk kind (p1, p2) name n acc).1 (mk kind (p1, p2) name n acc).2 .no) [.pointer (some ⟨b, 0, none⟩)] := by
 obtain ⟨A, c, rfl, hr⟩ := h.form
 refine (new_kg (B0 := B) hw kI kind hkI p1 p2 name n A c acc.length xs acc h.len h.len hl (by rw [← h.len]; exact hr) (repN_of (h.rep.more fun y hy _ => hy.1))).mono ?_
 rintro e w' ⟨b, sv, xs', rfl, hb, hk⟩
 exact ⟨b, rfl, hb, hk.done hw⟩
theorem new_leaf {w : World} (kI : Int) (kind : Nat) (hkI : kI = (kind : Int)) (p1 p2 : Nat) (name : ByteArray) (n : Int) :
 Calls Tryz.prog 33 #[.int .u8 kI, .complex .f64 (fl p1) (fl p2), .string name, .int .i64 n, .slice none 0 0] w fun e w' =>
  ∃ b, e = .returned (.pointer (some ⟨b, 0, none⟩)) ∧ Below w.heap.size w w' ∧ RepS (fun y => w.heap.size ≤ y) w' (.node (mk kind (p1, p2) name n []).1 (mk kind (p1, p2) name n []).2 .no) [.pointer (some ⟨b, 0, none⟩)] :=
 new_lg (Nat.le_refl _) kI kind hkI p1 p2 name n (LG.nil _ _) (by decide)
end
theorem row_at {w0 w : World} {br c i : Nat} {A : Option Addr} {L : List PT} (ht : TkS w0 br A L) (h : PInv w0 w br A c L i) : RowAt w A L := by
 refine ⟨⟨ht.toks.reads.1, fun h0 => ?_⟩, fun ad e => Nat.lt_of_lt_of_le (ht.low ad e) h.grown.size, ht.toks.len⟩
 obtain ⟨ad, e, hlt, hc⟩ := ht.toks.reads.2 h0
 refine ⟨ad, e, Nat.lt_of_lt_of_le hlt h.grown.size, fun j u hu => ?_⟩
 rw [← hc j u hu]
 have hne := ht.toks.far _ e
 exact World.cell?_of_block (by rw [add_block]; exact h.grown.block ad.block hlt (fun e => hne (by simpa using e)))
set_option maxRecDepth 100000 in set_option maxHeartbeats 6400000 in
theorem of_E {g : Nat} {w0 : World} {br c : Nat} {A : Option Addr} {L : List PT} (ht : TkS w0 br A L) (hg : L.length < g) (i : Nat) (hi : i ≤ 60000) (w : World) (h : PInv w0 w br A c L i) :
 Calls Tryz.prog 77 #[.pointer (some ⟨br, 0, none⟩), .func (.func 99) #[] #[]] w (TreeR w.heap.size w0 w br A c L (exprF g L i)) := by
 have hbr0 := h.row.lt
 have hlen := ht.toks.len
 have hw := h.below ((Below.refl _ _).drew)
 have d1 := Expr_any (row_at ht hw) c hi
 rw [show exprP L i = exprF g L i from expr_fuel hg i] at d1
 have m0 : w.cell? ⟨br, 0, none⟩ = some (.slice A L.length c) := h.row.cell 0
 obtain ⟨m1, f1, hlt⟩ := h.at_
 have H := qh (PG.start h)
 have x0 : (0 : Int) ≤ (i : Int) := by omega
 clear hw
 cases hx : exprF g L i with
 | error k9 =>
   rw [hx] at d1
   have D1 := qh d1
   clear d1 hx h ht
   go_enter Tryz.func77, Tryz.ntmps77
   go_wp2
   go_region_law (first
    | (go_simp; go_at_call 99; (with_reducible refine D1.out.mono ?_); rintro e x ⟨rfl, hb⟩; have HX := qh (H.out.below ((Below.refl _ _).drew.trans (hb.mono (Nat.le_refl _)))); clear hb))
   all_goals
    go_wp2
    exact ⟨rfl, rfl, HX.out.2⟩
 | ok r =>
   obtain ⟨y, j⟩ := r
   rw [hx] at d1
   have D1 := qh d1
   clear d1 hx h ht
   go_enter Tryz.func77, Tryz.ntmps77
   go_wp2
   go_region_law (first
    | (go_simp; go_at_call 99; (with_reducible refine D1.out.mono ?_); rintro e x ⟨b, rfl, hr, hb⟩; have HX := qh (H.out.below ((Below.refl _ _).drew.trans (hb.mono (Nat.le_refl _)))); have HR := qh (show RepS (fun y => w.heap.size ≤ y) x _ _ from hr); clear hb hr; obtain ⟨z1, zf1, hzl⟩ := HX.out.1.at_))
   all_goals
    have H2 := qh (HX.out.set_ j)
    have HR2 := qh (HR.out.keep (by rw [World.size_setCell]; exact Nat.le_refl _) (fun y hy _ => Below.heap_setCell _ ⟨br, 1, none⟩ (.int .i64 j) y (show y ≠ br by omega)) (fun y h _ => h))
    go_wp2
    go_ret
    exact ⟨b, rfl, H2.out.1, H2.out.2, HR2.out⟩
set_option maxRecDepth 100000 in set_option maxHeartbeats 6400000 in
theorem of_Q {g : Nat} {w0 : World} {br c : Nat} {A : Option Addr} {L : List PT} (ht : TkS w0 br A L) (hg : L.length < g) (i : Nat) (hi : i ≤ 60000) (w : World) (h : PInv w0 w br A c L i) :
 Calls Tryz.prog 77 #[.pointer (some ⟨br, 0, none⟩), .func (.func 163) #[] #[]] w (TreeR w.heap.size w0 w br A c L (qualF g L i)) := by
 have hbr0 := h.row.lt
 have hlen := ht.toks.len
 have hw := h.below ((Below.refl _ _).drew)
 have d1 := Qual_any (row_at ht hw) c hi
 rw [show qualP L i = qualF g L i from qual_fuel hg i] at d1
 have m0 : w.cell? ⟨br, 0, none⟩ = some (.slice A L.length c) := h.row.cell 0
 obtain ⟨m1, f1, hlt⟩ := h.at_
 have H := qh (PG.start h)
 have x0 : (0 : Int) ≤ (i : Int) := by omega
 clear hw
 cases hx : qualF g L i with
 | error k9 =>
   rw [hx] at d1
   have D1 := qh d1
   clear d1 hx h ht
   go_enter Tryz.func77, Tryz.ntmps77
   go_wp2
   go_region_law (first
    | (go_simp; go_at_call 163; (with_reducible refine D1.out.mono ?_); rintro e x ⟨rfl, hb⟩; have HX := qh (H.out.below ((Below.refl _ _).drew.trans (hb.mono (Nat.le_refl _)))); clear hb))
   all_goals
    go_wp2
    exact ⟨rfl, rfl, HX.out.2⟩
 | ok r =>
   obtain ⟨y, j⟩ := r
   rw [hx] at d1
   have D1 := qh d1
   clear d1 hx h ht
   go_enter Tryz.func77, Tryz.ntmps77
   go_wp2
   go_region_law (first
    | (go_simp; go_at_call 163; (with_reducible refine D1.out.mono ?_); rintro e x ⟨b, rfl, hr, hb⟩; have HX := qh (H.out.below ((Below.refl _ _).drew.trans (hb.mono (Nat.le_refl _)))); have HR := qh (show RepS (fun y => w.heap.size ≤ y) x _ _ from hr); clear hb hr; obtain ⟨z1, zf1, hzl⟩ := HX.out.1.at_))
   all_goals
    have H2 := qh (HX.out.set_ j)
    have HR2 := qh (HR.out.keep (by rw [World.size_setCell]; exact Nat.le_refl _) (fun y hy _ => Below.heap_setCell _ ⟨br, 1, none⟩ (.int .i64 j) y (show y ≠ br by omega)) (fun y h _ => h))
    go_wp2
    go_ret
    exact ⟨b, rfl, H2.out.1, H2.out.2, HR2.out⟩
set_option maxRecDepth 100000 in set_option maxHeartbeats 6400000 in
theorem of_L {g : Nat} {w0 : World} {br c : Nat} {A : Option Addr} {L : List PT} (ht : TkS w0 br A L) (hg : L.length < g) (i : Nat) (hi : i ≤ 60000) (w : World) (h : PInv w0 w br A c L i) :
 Calls Tryz.prog 77 #[.pointer (some ⟨br, 0, none⟩), .func (.func 137) #[] #[]] w (TreeR w.heap.size w0 w br A c L (labelsF g L i)) := by
 have hbr0 := h.row.lt
 have hlen := ht.toks.len
 have hw := h.below ((Below.refl _ _).drew)
 have d1 := Labels_any (row_at ht hw) c hi
 rw [show labelsP L i = labelsF g L i from labels_fuel hg i] at d1
 have m0 : w.cell? ⟨br, 0, none⟩ = some (.slice A L.length c) := h.row.cell 0
 obtain ⟨m1, f1, hlt⟩ := h.at_
 have H := qh (PG.start h)
 have x0 : (0 : Int) ≤ (i : Int) := by omega
 clear hw
 cases hx : labelsF g L i with
 | error k9 =>
   rw [hx] at d1
   have D1 := qh d1
   clear d1 hx h ht
   go_enter Tryz.func77, Tryz.ntmps77
   go_wp2
   go_region_law (first
    | (go_simp; go_at_call 137; (with_reducible refine D1.out.mono ?_); rintro e x ⟨rfl, hb⟩; have HX := qh (H.out.below ((Below.refl _ _).drew.trans (hb.mono (Nat.le_refl _)))); clear hb))
   all_goals
    go_wp2
    exact ⟨rfl, rfl, HX.out.2⟩
 | ok r =>
   obtain ⟨y, j⟩ := r
   rw [hx] at d1
   have D1 := qh d1
   clear d1 hx h ht
   go_enter Tryz.func77, Tryz.ntmps77
   go_wp2
   go_region_law (first
    | (go_simp; go_at_call 137; (with_reducible refine D1.out.mono ?_); rintro e x ⟨b, rfl, hr, hb⟩; have HX := qh (H.out.below ((Below.refl _ _).drew.trans (hb.mono (Nat.le_refl _)))); have HR := qh (show RepS (fun y => w.heap.size ≤ y) x _ _ from hr); clear hb hr; obtain ⟨z1, zf1, hzl⟩ := HX.out.1.at_))
   all_goals
    have H2 := qh (HX.out.set_ j)
    have HR2 := qh (HR.out.keep (by rw [World.size_setCell]; exact Nat.le_refl _) (fun y hy _ => Below.heap_setCell _ ⟨br, 1, none⟩ (.int .i64 j) y (show y ≠ br by omega)) (fun y h _ => h))
    go_wp2
    go_ret
    exact ⟨b, rfl, H2.out.1, H2.out.2, HR2.out⟩
end Go.Proofs.YtkemhmfdooghkaaGreatDoor.De
end

section
namespace Go.Proofs.YtkemhmfdooghkaaGreatDoor.De
open Go.RowKit
open Tr (Nd Fo RepS RepN Rep cellsN)
open Lx (Tk noTk Blk run_store_complexL TokAt)
open Fl
open Ex
open St (TkS g2_max g2_expr g2_labels Good2 isNm KG KN new_kg kid_facts one_ptr bind_ok bind_err need_y need_n tok_y tok_n ret_ add_block sSem sCol sEnd sOf sBar sElse sCase sTo armOut isWd6)
attribute [local go_sem] run_store_complexL run_field0 run_field1 run_field3
set_option maxRecDepth 100000 in set_option maxHeartbeats 6400000 in
theorem names_any {g : Nat} {w0 : World} {br c : Nat} {A : Option Addr} {L : List PT} (ht : TkS w0 br A L) (hg : L.length < g) (i : Nat) (hi : i ≤ L.length) (w : World) (h : PInv w0 w br A c L i) :
 Calls Tryz.prog 101 #[.pointer (some ⟨br, 0, none⟩)] w (ListR w.heap.size w0 w br A c L (namesF g [] L i)) := by
 have hbr0 := h.row.lt
 have hlen := ht.toks.len
 have H0 := qh h
 have H := qh (PG.start h)
 have HT := qh ht
 obtain ⟨i0, hi0, hz0, hz1, hz2⟩ := info_parts infoN
 obtain ⟨res, hs0⟩ : ∃ r, r = namesF g [] L i := ⟨_, rfl⟩
 rw [← hs0]
 have HS := qh hs0
 clear h ht hs0
 go_enter Tryz.func101, Tryz.ntmps101
 go_wp2_with fail
 go_loopg [2] (L.length + 1) (fun gh sv wr => ∃ (lv : Value) (acc : List T1) (xs : List Value) (j f : Nat), lv = sv ∧ j ≤ L.length ∧ L.length + 1 - j ≤ gh ∧ L.length < j + f ∧ acc.length ≤ j ∧ Hid (res = namesF f acc L j) ∧ Hid (PG w0 w wr br A c L j) ∧ Hid (LG w.heap.size wr lv acc xs))
 case atStart => exact ⟨_, [], [], i, g, rfl, hi, by omega, by omega, Nat.zero_le _, HS, H, qh (LG.nil _ _)⟩
 case round =>
  clear H HS
  obtain ⟨lv, acc, xs, j, f, rfl, hj, hgh, hf, hac, HS, H, HG⟩ := hrel
  obtain ⟨f, rfl⟩ : ∃ f', f = f' + 1 := ⟨f - 1, by omega⟩
  obtain ⟨wo, hwo⟩ : ∃ wo : World, wo = wr := ⟨_, rfl⟩
  by_cases hk : (tk L j).1.kind = 1
  ·have hjl : j < L.length := by
    rcases Nat.lt_or_ge j L.length with h | h
    ·exact h
    ·rw [tk_end h] at hk; cases hk
   have D1 := name_ok HT.out.toks (i := j) (by omega) _ H.out.1 hk
   obtain ⟨k_, p1, p2, q1, q2, t_, n_, e1, e2⟩ := val_form (tk L j)
   rw [e2] at D1
   have HS := qh (show res = tokP (tT sCom) (fun _ => namesF f (acc ++ [mk 1 (p1, p2) t_ 0 []])) (retP (acc ++ [mk 1 (p1, p2) t_ 0 []])) L (j + 1) from by
    rw [HS.out, namesF, tok_y (t := isNm) (by simp [isNm, hk]), e1])
   have D1 := qh D1
   clear e1 e2 hk
   go_wp2_with fail
   ((with_reducible refine D1.out.mono ?_); rintro e wx ⟨rfl, hp, hgr⟩)
   have hxl : xs.length ≤ 1000000 := by have := HG.out.len; omega
   have HG := qh (HG.out.grown hgr hbr0)
   have H := qh (H.out.trans ⟨hp, hgr⟩)
   clear hp hgr D1
   have hB1 := Blk.new wx 40 #[.int .u8 k_, .complex .f64 (fl p1) (fl p2), .complex .f64 (fl q1) (fl q2), .string t_, .int .i64 n_]
   have z1 := hB1.cell 1
   have z3 := hB1.cell 3
   simp only [List.getElem?_toArray, List.getElem?_cons_zero, List.getElem?_cons_succ] at z1 z3
   have H := qh (H.out.alloc (.cells #[.int .u8 k_, .complex .f64 (fl p1) (fl p2), .complex .f64 (fl q1) (fl q2), .string t_, .int .i64 n_] 40))
   have HG := qh (HG.out.below ((Below.refl _ _).alloc (Nat.le_refl _) (.cells #[.int .u8 k_, .complex .f64 (fl p1) (fl p2), .complex .f64 (fl q1) (fl q2), .string t_, .int .i64 n_] 40)))
   clear hB1
   have NW := qh (new_leaf (w := wx.alloc (.cells #[.int .u8 k_, .complex .f64 (fl p1) (fl p2), .complex .f64 (fl q1) (fl q2), .string t_, .int .i64 n_] 40)) 1 1 rfl p1 p2 t_ 0)
   go_wp2_with fail
   ((with_reducible refine NW.out.mono ?_); rintro e wy ⟨b, rfl, hb, hr⟩)
   have HR := qh (HG.out.new hr H.out.2.size)
   have HG := qh (HG.out.below hb)
   have H := qh (H.out.below hb)
   have HGO := qh (fun k e => HG.out.own.lt k e)
   clear hb hr NW z1 z3
   have Q := kid_facts (cs := #[.pointer (some ⟨b, 0, none⟩)]) wy.heap.size rfl H.out.2.size HG.out.own hxl (one_ptr (some ⟨b, 0, none⟩)) (by simp)
   go_wp2_with (at_builtin; refine wpList_append_lies _ rfl _ _ _ rfl w.heap.size 31 i0 _ 1 8 Tryz.underlying36 hi0 hz0 hz1 hz2 rfl (by omega) lv xs.length xs rfl Q.out.2.2.2.2 ⟨wy.heap.size, 0, none⟩ 1 1 #[.pointer (some ⟨b, 0, none⟩)].toList rfl rfl Q.out.1 Q.out.2.1 (by omega) Q.out.2.2.1 (by omega) Q.out.2.2.2.1 (wy.heap.size + 1) (by simp) ?_; intro g' cap w5 hown1 hgrow hor hlt5)
   have HG := qh (LG.step (HG.out.below ((Below.refl _ _).alloc (Nat.le_refl _) (.cells #[.pointer (some ⟨b, 0, none⟩)] 31))) (HR.out.below ((Below.refl _ _).alloc (Nat.le_refl _) (.cells #[.pointer (some ⟨b, 0, none⟩)] 31))) hown1 hgrow (hor.imp id fun e => e.trans (World.size_alloc _ _).symm))
   have H := qh ((H.out.alloc (.cells #[.pointer (some ⟨b, 0, none⟩)] 31)).gfar H0.out hgrow (fun k e => (HGO.out _ e).1))
   clear hown1 hgrow hor hlt5 HR HGO Q
   cases hT : isT L (j + 1) sCom with
   | true =>
     have hjn := isT_lt hT
     have D1 := qh (eat_yes HT.out.toks (i := j + 1) (by omega) sCom _ H.out.1 hT)
     have HS := qh (HS.out.trans (tok_y (t := tT sCom) hT))
     clear hT
     go_wp2_with fail
     ((with_reducible refine (D1.out).mono ?_); rintro e wz ⟨rfl, hb⟩)
     have H := qh (H.out.trans hb)
     have HG := qh (HG.out.grown hb.2 hbr0)
     clear hb D1
     go_wp2
     go_roundg (L.length + 1 - (j + 1 + 1))
     case rel => exact ⟨_, _, _, j + 1 + 1, f, rfl, by omega, by omega, by omega, by simp only [List.length_append, List.length_cons, List.length_nil]; omega, HS, H, HG⟩
     case measure => omega
   | false =>
     have D1 := qh (eat_no HT.out.toks (i := j + 1) (by omega) sCom _ H.out.1 hT)
     have HS := qh ((HS.out.trans (tok_n (t := tT sCom) hT)).trans ret_)
     clear hT
     go_wp2_with fail
     ((with_reducible refine (D1.out).mono ?_); rintro e wz ⟨rfl, hb⟩)
     have H := qh (H.out.trans hb)
     have HG := qh (HG.out.grown hb.2 hbr0)
     clear hb D1
     go_wp2
     go_ret
     rw [HS.out]
     exact ⟨_, _, rfl, H.out.1, H.out.2, HG.out⟩
  ·have D1 := qh (name_no HT.out.toks (i := j) (by omega) _ H.out.1 hk)
   have HS := qh (show res = .error j from by rw [HS.out, namesF, tok_n (t := isNm) (by simp [isNm, hk])]; rfl)
   go_wp2_with fail
   ((with_reducible refine D1.out.mono ?_); rintro e w1 ⟨rfl, hb⟩)
   have H3 := qh (grown_trans H.out.2 hb)
   clear hb
   go_wp2
   refine ⟨rfl, ?_⟩
   rw [HS.out]
   exact ⟨rfl, H3.out⟩
end Go.Proofs.YtkemhmfdooghkaaGreatDoor.De
end

section
namespace Go.Proofs.YtkemhmfdooghkaaGreatDoor.De
open Go.RowKit
open Tr (Nd Fo RepS RepN Rep cellsN)
open Lx (Tk noTk Blk run_store_complexL TokAt)
open Fl
open Ex
open St (TkS g2_max g2_expr g2_labels Good2 isNm KG KN new_kg new_0 kid_facts one_ptr bind_ok bind_err need_y need_n tok_y tok_n ret_ add_block sSem sCol sEnd sOf sBar sElse sCase sTo armOut isWd6)
attribute [local go_sem] run_store_complexL run_field0 run_field1 run_field3
def entsV (l : List (ByteArray × Value)) : List (Value × Value) := l.map fun x => (.string x.1, x.2)
theorem find_ents (t : ByteArray) : ∀ (l : List (ByteArray × Value)) (i b : Nat), (∀ v, (l.find? (fun x => decide (x.1 = t))).map (·.2) = some v → ∃ j, Instr.findNow .string (.string t) (esF b (entsV l)) i = some (some (j, v))) ∧ ((∀ x ∈ l, x.1 ≠ t) → Instr.findNow .string (.string t) (esF b (entsV l)) i = some none)
 | [], i, b => ⟨(fun v h => by cases h), fun _ => rfl⟩
 | (s, u) :: l, i, b => by
   have ih := find_ents t l (i + 1) (b + 1)
   have e : Instr.findNow .string (.string t) (esF b (entsV ((s, u) :: l))) i = if (t == s) = true then some (some (i, u)) else Instr.findNow .string (.string t) (esF (b + 1) (entsV l)) (i + 1) := by
    show (match Instr.sameNow .string (.string t) (.string s) with | some true => _ | some false => _ | none => _) = _
    simp only [Instr.sameNow]
    all_goals (cases h : t == s <;> rfl)
   have hb : (t == s) = decide (s = t) := by
    rw [Bool.eq_iff_iff, decide_eq_true_eq]
    constructor
    ·intro h; exact ((MapKept.bytes_beq _ _).1 h).symm
    ·intro h; exact (MapKept.bytes_beq _ _).2 h.symm
   rw [e, hb]
   by_cases h : s = t
   ·simp [h]
   ·simp only [List.find?_cons, decide_eq_false h, Bool.false_eq_true, if_false]
    exact ⟨ih.1, fun hx => ih.2 fun x hxm => hx x (List.mem_cons_of_mem _ hxm)⟩
theorem ents_snoc (l : List (ByteArray × Value)) (s : ByteArray) (v : Value) : entsV l ++ [(.string s, v)] = entsV (l ++ [(s, v)]) := by simp [entsV]
def wordD (br : Nat) : List (ByteArray × Value) := [(sConst, .func (.func 81) #[.pointer (some ⟨br, 0, none⟩)] #[]), (sType, .func (.func 82) #[.pointer (some ⟨br, 0, none⟩)] #[]), (sVar, .func (.func 83) #[.pointer (some ⟨br, 0, none⟩)] #[])]
theorem ins_w (l : List (ByteArray × Value)) (s : ByteArray) (v : Value) (hn : ∀ x ∈ l, x.1 ≠ s) (W : World) (m : Nat) (hm : W.heap.size = m) : (Instr.mapUpdate 123 (.map (some m)) (.string s) v).run Tryz.prog (W.alloc (mapO (entsV l))) = .ok () (W.alloc (mapO (entsV (l ++ [(s, v)])))) := by
 rw [← ents_snoc]
 exact run_ins Tryz.underlying123 Tryz.underlying9 (entsV l) (.string s) v (by simp [MapKept.IsKey]) ((find_ents _ _ 0 0).2 hn) W m hm
theorem ins_0 (br : Nat) (W : World) (m : Nat) (hm : W.heap.size = m) : (Instr.mapUpdate 123 (.map (some m)) (.string sConst) (.func (.func 81) #[.pointer (some ⟨br, 0, none⟩)] #[])).run Tryz.prog (W.alloc (.map #[] 0)) = .ok () (W.alloc (mapO (entsV [(sConst, .func (.func 81) #[.pointer (some ⟨br, 0, none⟩)] #[])]))) :=
 ins_w [] sConst _ (by simp) W m hm
theorem ins_1 (br : Nat) (W : World) (m : Nat) (hm : W.heap.size = m) : (Instr.mapUpdate 123 (.map (some m)) (.string sType) (.func (.func 82) #[.pointer (some ⟨br, 0, none⟩)] #[])).run Tryz.prog (W.alloc (mapO (entsV [(sConst, .func (.func 81) #[.pointer (some ⟨br, 0, none⟩)] #[])]))) = .ok () (W.alloc (mapO (entsV [(sConst, .func (.func 81) #[.pointer (some ⟨br, 0, none⟩)] #[]), (sType, .func (.func 82) #[.pointer (some ⟨br, 0, none⟩)] #[])]))) :=
 ins_w [_] sType _ (by simp) W m hm
theorem ins_2 (br : Nat) (W : World) (m : Nat) (hm : W.heap.size = m) : (Instr.mapUpdate 123 (.map (some m)) (.string sVar) (.func (.func 83) #[.pointer (some ⟨br, 0, none⟩)] #[])).run Tryz.prog (W.alloc (mapO (entsV [(sConst, .func (.func 81) #[.pointer (some ⟨br, 0, none⟩)] #[]), (sType, .func (.func 82) #[.pointer (some ⟨br, 0, none⟩)] #[])]))) = .ok () (W.alloc (mapO (entsV (wordD br)))) :=
 ins_w [_, _] sVar _ (by simp) W m hm
theorem look_no {br : Nat} {t : ByteArray} (h : ∀ x ∈ wordD br, x.1 ≠ t) (w : World) (m : Nat) (hm : w.heap[m]? = some (mapO (entsV (wordD br)))) : (Instr.lookup 123 (.map (some m)) (.string t) true).run Tryz.prog w = .ok (.tuple #[.nilFunc, .bool false]) w :=
 run_look_no Tryz.underlying123 Tryz.underlying9 (entsV (wordD br)) (.string t) (by simp [MapKept.IsKey]) ((find_ents _ _ 0 0).2 h) true w (by kernel_rfl) m hm
set_option maxRecDepth 100000 in set_option maxHeartbeats 6400000 in
theorem decls_none {w0 : World} {br c : Nat} {A : Option Addr} {L : List PT} (ht : TkS w0 br A L) (i : Nat) (hi : i ≤ L.length) (w : World) (h : PInv w0 w br A c L i) (hn : ∀ x ∈ wordD br, x.1 ≠ (tk L i).1.text) (hp : isT L i sProc = false) (hm : isT L i sModule = false) :
 Calls Tryz.prog 62 #[.pointer (some ⟨br, 0, none⟩), .bool false] w (ListR w.heap.size w0 w br A c L (.ok ([], i))) := by
 have hbr0 := h.row.lt
 have hlen := ht.toks.len
 have H := qh (PG.start h)
 have HT := qh ht
 have HP := qh hp
 have HM := qh hm
 obtain ⟨k_, p1, p2, q1, q2, t_, n_, e1, e2⟩ := val_form (tk L i)
 rw [show (tk L i).1.text = t_ by rw [e1]] at hn
 have HN := qh hn
 have NW := qh (fun (wx : World) (hx : PInv w0 wx br A c L i) => e2 ▸ now_any ht.toks (i := i) (by omega) wx hx)
 have hmm := @run_makeMap Tryz.prog
 have hmf : ∀ (fn : Fn) (first cap : Array Value) (w : World), (Instr.makeFunc fn first cap).run Tryz.prog w = .ok (.func fn first cap) w := fun _ _ _ _ => rfl
 have hi0 := ins_0 br
 have hi1 := ins_1 br
 have hi2 := ins_2 br
 clear h ht hn hp hm e1 e2
 go_enter Tryz.func62, Tryz.ntmps62
 go_wp2_with fail
 have H := qh (H.out.alloc (mapO (entsV (wordD br))))
 have HMP := qh (show (w.alloc (mapO (entsV (wordD br)))).heap[w.heap.size]? = some (mapO (entsV (wordD br))) from heap_alloc_new w _)
 have hms : w.heap.size < (w.alloc (mapO (entsV (wordD br)))).heap.size := by rw [World.size_alloc]; exact Nat.lt_succ_self _
 generalize w.alloc (mapO (entsV (wordD br))) = wm at *
 clear hi0 hi1 hi2 hmm
 go_loopg [4] 0 (fun gh sv wr => sv = .slice none 0 0 ∧ wr = wm)
 case atStart => exact ⟨rfl, rfl⟩
 case round =>
  obtain ⟨rfl, rfl⟩ := hrel
  go_wp2_with fail
  ((with_reducible refine (NW.out _ H.out.1).mono ?_); rintro e w1 ⟨rfl, hb⟩)
  have hB1 := Blk.new w1 40 #[.int .u8 k_, .complex .f64 (fl p1) (fl p2), .complex .f64 (fl q1) (fl q2), .string t_, .int .i64 n_]
  have z0 := hB1.cell 0
  have z3 := hB1.cell 3
  simp only [List.getElem?_toArray, List.getElem?_cons_zero, List.getElem?_cons_succ] at z0 z3
  have H1 := qh ((H.out.below hb).alloc (.cells #[.int .u8 k_, .complex .f64 (fl p1) (fl p2), .complex .f64 (fl q1) (fl q2), .string t_, .int .i64 n_] 40))
  have hlk := look_no HN.out (w1.alloc (.cells #[.int .u8 k_, .complex .f64 (fl p1) (fl p2), .complex .f64 (fl q1) (fl q2), .string t_, .int .i64 n_] 40)) w.heap.size ((Below.heap_alloc _ _ _ (Nat.lt_of_lt_of_le hms hb.size)).trans ((hb.block _ hms).trans HMP.out))
  have k6 : ((k_ : Int) == 6) = decide (k_ = 6) := by rw [Bool.eq_iff_iff, beq_iff_eq, decide_eq_true_eq]; omega
  have I1 := is_1 HT.out.toks (by omega) sProc _ H1.out.1 (w1.heap.size + 1) (by simp)
  rw [HP.out] at I1
  have I1 := qh I1
  clear hb hB1
  generalize decide (k_ = 6) = b6 at *
  rcases b6 with _ | _
  all_goals
   go_wp2_with fail
   ((with_reducible refine I1.out.mono ?_); rintro e w2 ⟨rfl, hb⟩)
   have H2 := qh (H1.out.below hb)
   have I2 := is_1 HT.out.toks (by omega) sModule _ H2.out.1 _ rfl
   rw [HM.out] at I2
   have I2 := qh I2
   clear hb
   go_wp2_with fail
   ((with_reducible refine I2.out.mono ?_); rintro e w3 ⟨rfl, hb⟩)
   have H3 := qh (H2.out.below hb)
   clear hb
   go_wp2
   go_ret
   exact ⟨_, _, rfl, H3.out.1, H3.out.2, LG.nil _ _⟩
end Go.Proofs.YtkemhmfdooghkaaGreatDoor.De
end
