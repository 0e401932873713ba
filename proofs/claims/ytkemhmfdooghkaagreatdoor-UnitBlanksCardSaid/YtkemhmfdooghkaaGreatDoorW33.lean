/- A part of the proof: K8, K9. -/
import Derived.Test.YtkemhmfdooghkaaGreatDoorW1
import Derived.Test.YtkemhmfdooghkaaGreatDoorW32
import Derived.Deep.CutBlock
import Derived.Deep.DeepCutAuto
set_option linter.unusedSimpArgs false
set_option linter.unusedVariables false
set_option maxRecDepth 100000
set_option maxHeartbeats 6400000
namespace Go.Proofs.YtkemhmfdooghkaaGreatDoor.De
open Go.RowKit
open Tr (Nd Fo RepS RepN Rep cellsN)
open Lx (Tk noTk Blk run_store_complexL TokAt)
open Fl
open Ex
open St (TkS g2_max g2_expr g2_labels Good2 isNm KG KN new_kg new_0 kid_facts one_ptr bind_ok bind_err need_y need_n tok_y tok_n ret_ add_block sSem sCol sEnd sOf sBar sElse sCase sTo armOut isWd6)
attribute [local go_sem] run_store_complexL run_field0 run_field1 run_field3
theorem array_step {g : Nat} {w0 : World} {br c : Nat} {A : Option Addr} {L : List PT} (ht : TkS w0 br A L) (hgL : L.length < g) {lo : Nat} {ty : Par T1} (hty : Good2 ty) (HTy : Hid (TyOK 100 ty lo w0 br A c L)) (f p1 p2 i : Nat) (HAr : Hid (∀ j, i < j → j ≤ L.length → ∀ q1 q2 w, PInv w0 w br A c L j → Calls Tryz.prog 121 #[.pointer (some ⟨br, 0, none⟩), .complex .f64 (fl q1) (fl q2)] w (TreeR w.heap.size w0 w br A c L (arrayR g ty f (q1, q2) L j)))) (hlo : lo ≤ i + 1) (hi : i ≤ L.length) (w : World) (h : PInv w0 w br A c L i) :
 Calls Tryz.prog 121 #[.pointer (some ⟨br, 0, none⟩), .complex .f64 (fl p1) (fl p2)] w (TreeR w.heap.size w0 w br A c L (arrayR g ty (f + 1) (p1, p2) L i)) := by
 have hbr := h.row.lt
 have H0 := qh h
 have HT := qh ht
 obtain ⟨res, hs0⟩ : ∃ r, r = arrayR g ty (f + 1) (p1, p2) L i := ⟨_, rfl⟩
 rw [← hs0]
 have S := qh (S1.start h hi hs0)
 clear h ht hs0 hi
 go_enter Tryz.func121, Tryz.ntmps121
 unfold arrayR at S
 have HZ := qh S.out.pg.2.size
 go_wp2_with fail
 (with_reducible refine S.out.tree (simple_any HT.out hgL _ S.out.le _ S.out.pg.1) (g2_simple (g := g)) ?_ ?_)
 ·intro k w1 h hg; go_wp2; exact ⟨rfl, S1.errT h.out hg.out _⟩
 clear S
 intro x bx j1 wx hj1 S hg Hx
 have Hx := qh (Hx.out.more (S' := fun y => w.heap.size ≤ y) fun y hy _ => Nat.le_trans HZ.out hy)
 clear HZ
 go_wp2_with fail
 (with_reducible refine S.out.now' HT.out ?_)
 clear S
 intro k_s s1 s2 q3_s q4_s t_s n_s wx HPs S hg
 have Hx := qh (repS_grown Hx.out hg.out hbr)
 go_wp2_with fail
 (with_reducible refine S.out.eat HT.out ?_ ?_)
 ·clear S
  intro wx S hg hT
  have Hx := qh (repS_grown Hx.out hg.out hbr)
  have S := qh (show S1 w0 w wx br c A L res (bindP (arrayR g ty f (s1, s2)) fun y => retP (mk 23 (p1, p2) sNil 0 [x, y])) (j1 + 1) from by have h := S.out; rw [HPs.out] at h; exact h)
  have HZ := qh S.out.pg.2.size
  go_wp2_with fail
  (with_reducible refine S.out.tree (HAr.out _ (by omega) S.out.le _ _ _ S.out.pg.1) (g2_array hty _ _) ?_ ?_)
  ·intro k w1 h hg; go_wp2; exact ⟨rfl, S1.errT h.out hg.out _⟩
  clear S
  intro y b_y j2 wx hj2 S hg Hy
  have Hx := qh (repS_grown Hx.out hg.out hbr)
  have Hy := qh (Hy.out.more (S' := fun y => w.heap.size ≤ y) fun y hy _ => Nat.le_trans HZ.out hy)
  clear HZ
  have NW := qh (St.new_lit (B := w.heap.size) (w := wx) S.out.pg.2.size 23 23 rfl p1 p2 sNil [.pointer (some ⟨bx, 0, none⟩), .pointer (some ⟨b_y, 0, none⟩)] [x, y] wx.heap.size rfl 2 rfl (by decide) (repN_of (repS_cons Hx.out Hy.out)))
  go_wp2_with fail
  ((with_reducible refine NW.out.mono ?_); rintro e wy ⟨b, rfl, hb, hr⟩)
  have Hb := qh hr
  have S := qh (S.out.below hb)
  clear hb hr NW
  go_wp2
  go_ret
  exact S.out.doneT Hb.out
 ·clear S
  intro wx S hg hT
  have Hx := qh (repS_grown Hx.out hg.out hbr)
  go_wp2_with fail
  (with_reducible refine S.out.need HT.out rfl ?_ ?_)
  ·intro k w1 h hg; go_wp2; exact ⟨rfl, S1.errT h.out hg.out _⟩
  clear S
  intro wx S hg
  have Hx := qh (repS_grown Hx.out hg.out hbr)
  have HZ := qh S.out.pg.2.size
  go_wp2_with fail
  (with_reducible refine S.out.tree (HTy.out _ (by omega) S.out.le _ S.out.pg.1) (hty) ?_ ?_)
  ·intro k w1 h hg; go_wp2; exact ⟨rfl, S1.errT h.out hg.out _⟩
  clear S
  intro y b_y j2 wx hj2 S hg Hy
  have Hx := qh (repS_grown Hx.out hg.out hbr)
  have Hy := qh (Hy.out.more (S' := fun y => w.heap.size ≤ y) fun y hy _ => Nat.le_trans HZ.out hy)
  clear HZ
  have NW := qh (St.new_lit (B := w.heap.size) (w := wx) S.out.pg.2.size 23 23 rfl p1 p2 sNil [.pointer (some ⟨bx, 0, none⟩), .pointer (some ⟨b_y, 0, none⟩)] [x, y] wx.heap.size rfl 2 rfl (by decide) (repN_of (repS_cons Hx.out Hy.out)))
  go_wp2_with fail
  ((with_reducible refine NW.out.mono ?_); rintro e wy ⟨b, rfl, hb, hr⟩)
  have Hb := qh hr
  have S := qh (S.out.below hb)
  clear hb hr NW
  go_wp2
  go_ret
  exact S.out.doneT Hb.out
theorem array_any {g : Nat} {w0 : World} {br c : Nat} {A : Option Addr} {L : List PT} (ht : TkS w0 br A L) (hgL : L.length < g) {lo : Nat} {ty : Par T1} (hty : Good2 ty) (HTy : Hid (TyOK 100 ty lo w0 br A c L)) : ∀ (f i : Nat), lo ≤ i + 1 → i ≤ L.length → L.length < i + f → ∀ p1 p2 w, PInv w0 w br A c L i →
 Calls Tryz.prog 121 #[.pointer (some ⟨br, 0, none⟩), .complex .f64 (fl p1) (fl p2)] w (TreeR w.heap.size w0 w br A c L (arrayR g ty f (p1, p2) L i)) := by
 intro f
 induction f with
 | zero => intro i hlo hi hf; omega
 | succ f ih =>
   intro i hlo hi hf p1 p2 w h
   exact array_step ht hgL hty HTy f p1 p2 i (qh fun j hj hjl q1 q2 w h => ih j (by omega) hjl (by omega) q1 q2 w h) hlo hi w h
theorem typ_step {g : Nat} {w0 : World} {br c : Nat} {A : Option Addr} {L : List PT} (ht : TkS w0 br A L) (hgL : L.length < g) {ty : Par T1} (hty : Good2 ty) (i : Nat) (HTy : Hid (TyOK 100 ty (i + 1) w0 br A c L)) (hi : i ≤ L.length) (w : World) (h : PInv w0 w br A c L i) :
 Calls Tryz.prog 100 #[.pointer (some ⟨br, 0, none⟩)] w (TreeR w.heap.size w0 w br A c L (typG g ty L i)) := by
 have hbr := h.row.lt
 have H0 := qh h
 have HT := qh ht
 have HPt := qh (show PartOK true 145 (partF g ty) (i + 1) w0 br A c L from fun _ j hlj hj w h => part_any ht hgL hty HTy j (by omega) hj w h)
 have HFt := qh (fun (j : Nat) (hlo : i + 1 ≤ j) (hj : j ≤ L.length) (w : World) (h : PInv w0 w br A c L j) => (show Calls _ _ _ w (ListB w.heap.size w0 w br A c L (fieldsR g ty (partF g ty) true g [] L j)) from fields_any ht hgL hty (g2_part hty) true HTy HPt j hlo hj w h))
 clear HPt
 obtain ⟨res, hs0⟩ : ∃ r, r = typG g ty L i := ⟨_, rfl⟩
 rw [← hs0]
 have S := qh (S1.start h hi hs0)
 clear h ht hs0 hi
 go_enter Tryz.func100, Tryz.ntmps100
 unfold typG at S
 go_wp2_with fail
 (with_reducible refine S.out.now HT.out ?_)
 clear S
 intro k_p p1 p2 q3_p q4_p t_p n_p wx HPp S hg
 go_wp2_with fail
 (with_reducible refine S.out.eat HT.out ?_ ?_)
 ·clear S
  intro wx S hg hT
  have S := qh (S.out.of (bind_pure _ _ _))
  have HZ := qh S.out.pg.2.size
  go_wp2_with fail
  (with_reducible refine S.out.tree (array_any HT.out hgL hty HTy g _ (by omega) S.out.le (by omega) _ _ _ S.out.pg.1) (g2_array hty _ _) ?_ ?_)
  ·intro k w1 h hg; go_wp2; exact ⟨rfl, S1.errT h.out hg.out _⟩
  clear S
  intro x bx j9 wx hj9 S hg Hx
  have Hx := qh (Hx.out.more (S' := fun y => w.heap.size ≤ y) fun y hy _ => Nat.le_trans HZ.out hy)
  clear HZ
  go_wp2
  go_ret
  exact S.out.doneT Hx.out
 ·clear S
  intro wx S hg hT
  go_wp2_with fail
  (with_reducible refine S.out.eat HT.out ?_ ?_)
  ·clear S
   intro wx S hg hT
   unfold recF at S
   have HZ := qh S.out.pg.2.size
   go_wp2_with fail
   (with_reducible refine S.out.listB (HFt.out _ (by omega) S.out.le _ S.out.pg.1) (g2_fields hty (g2_part hty) _ _) ?_ ?_)
   ·intro k w1 h hg; go_wp2; exact ⟨rfl, S1.errT h.out hg.out _⟩
   clear S
   intro l A' c' xsl j1 wx hln hj1 S hg Hl
   have Hl := qh (Hl.out.lower HZ.out)
   clear HZ
   have NW := qh (new_lg (B := w.heap.size) (w := wx) S.out.pg.2.size 25 25 rfl p1 p2 sNil 0 Hl.out (by omega))
   go_wp2_with fail
   ((with_reducible refine NW.out.mono ?_); rintro e wy ⟨b, rfl, hb, hr⟩)
   have Hb := qh hr
   have S := qh (S.out.below hb)
   clear hb hr NW
   go_wp2_with fail
   (with_reducible refine S.out.need HT.out rfl ?_ ?_)
   ·intro k w1 h hg; go_wp2; exact ⟨rfl, S1.errT h.out hg.out _⟩
   clear S
   intro wx S hg
   have Hb := qh (repS_grown Hb.out hg.out hbr)
   go_wp2
   go_ret
   exact S.out.doneT Hb.out
  ·clear S
   intro wx S hg hT
   go_wp2_with fail
   (with_reducible refine S.out.eat HT.out ?_ ?_)
   ·clear S
    intro wx S hg hT
    unfold setF at S
    go_wp2_with fail
    (with_reducible refine S.out.need HT.out rfl ?_ ?_)
    ·intro k w1 h hg; go_wp2; exact ⟨rfl, S1.errT h.out hg.out _⟩
    clear S
    intro wx S hg
    have HZ := qh S.out.pg.2.size
    go_wp2_with fail
    (with_reducible refine S.out.tree (simple_any HT.out hgL _ S.out.le _ S.out.pg.1) (g2_simple (g := g)) ?_ ?_)
    ·intro k w1 h hg; go_wp2; exact ⟨rfl, S1.errT h.out hg.out _⟩
    clear S
    intro x bx j1 wx hj1 S hg Hx
    have Hx := qh (Hx.out.more (S' := fun y => w.heap.size ≤ y) fun y hy _ => Nat.le_trans HZ.out hy)
    clear HZ
    have NW := qh (St.new_lit (B := w.heap.size) (w := wx) S.out.pg.2.size 31 31 rfl p1 p2 sNil [.pointer (some ⟨bx, 0, none⟩)] [x] wx.heap.size rfl 1 rfl (by decide) (repN_of Hx.out))
    go_wp2_with fail
    ((with_reducible refine NW.out.mono ?_); rintro e wy ⟨b, rfl, hb, hr⟩)
    have Hb := qh hr
    have S := qh (S.out.below hb)
    clear hb hr NW
    go_wp2
    go_ret
    exact S.out.doneT Hb.out
   ·clear S
    intro wx S hg hT
    go_wp2_with fail
    (with_reducible refine S.out.eat HT.out ?_ ?_)
    ·clear S
     intro wx S hg hT
     unfold ptrF at S
     go_wp2_with fail
     (with_reducible refine S.out.need HT.out rfl ?_ ?_)
     ·intro k w1 h hg; go_wp2; exact ⟨rfl, S1.errT h.out hg.out _⟩
     clear S
     intro wx S hg
     have HZ := qh S.out.pg.2.size
     go_wp2_with fail
     (with_reducible refine S.out.tree (HTy.out _ (by omega) S.out.le _ S.out.pg.1) (hty) ?_ ?_)
     ·intro k w1 h hg; go_wp2; exact ⟨rfl, S1.errT h.out hg.out _⟩
     clear S
     intro x bx j1 wx hj1 S hg Hx
     have Hx := qh (Hx.out.more (S' := fun y => w.heap.size ≤ y) fun y hy _ => Nat.le_trans HZ.out hy)
     clear HZ
     have NW := qh (St.new_lit (B := w.heap.size) (w := wx) S.out.pg.2.size 32 32 rfl p1 p2 sNil [.pointer (some ⟨bx, 0, none⟩)] [x] wx.heap.size rfl 1 rfl (by decide) (repN_of Hx.out))
     go_wp2_with fail
     ((with_reducible refine NW.out.mono ?_); rintro e wy ⟨b, rfl, hb, hr⟩)
     have Hb := qh hr
     have S := qh (S.out.below hb)
     clear hb hr NW
     go_wp2
     go_ret
     exact S.out.doneT Hb.out
    ·clear S
     intro wx S hg hT
     go_wp2_with fail
     (with_reducible refine S.out.eat HT.out ?_ ?_)
     ·clear S
      intro wx S hg hT
      unfold prcF at S
      have HZ := qh S.out.pg.2.size
      go_wp2_with fail
      (with_reducible refine S.out.nilr (formals_any HT.out hgL _ S.out.le _ S.out.pg.1) (g2_params (g := g)) ?_ ?_)
      ·intro k w1 h hg; go_wp2; exact ⟨rfl, S1.errT h.out hg.out _⟩
      clear S
      intro l A' c' xsl j1 wx hj1 S hg HN
      have NW := qh (new_nr (c' := c') (B := w.heap.size) (w := wx) S.out.pg.2.size 33 33 rfl p1 p2 sNil 0 HN.out HZ.out)
      go_wp2_with fail
      ((with_reducible refine NW.out.mono ?_); rintro e wy ⟨b, rfl, hb, hr⟩)
      have Hb := qh hr
      have S := qh (S.out.below hb)
      clear hb hr NW
      go_wp2
      go_ret
      exact S.out.doneT Hb.out
     ·clear S
      intro wx S hg hT
      have S := qh (S.out.of (bind_pure _ _ _))
      have HZ := qh S.out.pg.2.size
      go_wp2_with fail
      (with_reducible refine S.out.tree (simple_any HT.out hgL _ S.out.le _ S.out.pg.1) (g2_simple (g := g)) ?_ ?_)
      ·intro k w1 h hg; go_wp2; exact ⟨rfl, S1.errT h.out hg.out _⟩
      clear S
      intro x bx j9 wx hj9 S hg Hx
      have Hx := qh (Hx.out.more (S' := fun y => w.heap.size ≤ y) fun y hy _ => Nat.le_trans HZ.out hy)
      clear HZ
      go_wp2
      go_ret
      exact S.out.doneT Hx.out
theorem typ_any {g : Nat} {w0 : World} {br c : Nat} {A : Option Addr} {L : List PT} (ht : TkS w0 br A L) (hgL : L.length < g) : ∀ (f i : Nat), L.length < i + f → i ≤ L.length → ∀ w, PInv w0 w br A c L i →
 Calls Tryz.prog 100 #[.pointer (some ⟨br, 0, none⟩)] w (TreeR w.heap.size w0 w br A c L (typF g f L i)) := by
 intro f
 induction f with
 | zero => intro i hf hi; omega
 | succ f ih =>
   intro i hf hi w h
   exact typ_step (ty := typF g f) ht hgL (g2_typF f) i (qh fun j hj hjl w h => ih j (by omega) hjl w h) hi w h
theorem consts_any {g : Nat} (df : Bool) {w0 : World} {br c : Nat} {A : Option Addr} {L : List PT} (ht : TkS w0 br A L) (hgL : L.length < g) (i : Nat) (hi : i ≤ L.length) (w : World) (h : PInv w0 w br A c L i) :
 Calls Tryz.prog 81 #[.pointer (some ⟨br, 0, none⟩), .bool df] w (TreeR w.heap.size w0 w br A c L (constF g L i)) := by
 have hbr := h.row.lt
 have H0 := qh h
 have HT := qh ht
 obtain ⟨res, hs0⟩ : ∃ r, r = constF g L i := ⟨_, rfl⟩
 rw [← hs0]
 have S := qh (S1.start h hi hs0)
 clear h ht hs0 hi
 go_enter Tryz.func81, Tryz.ntmps81
 unfold constF at S
 go_wp2_with fail
 (with_reducible refine S.out.name HT.out ?_ ?_)
 ·intro k w1 h hg; go_wp2; exact ⟨rfl, S1.errT h.out hg.out _⟩
 clear S
 intro k_n n1 n2 q3_n q4_n t_n n_n wx S hg
 have hbt := S.out.pg.1.row.lt
 have HBt := qh (Blk.new wx 40 #[.int .u8 k_n, .complex .f64 (fl n1) (fl n2), .complex .f64 (fl q3_n) (fl q4_n), .string t_n, .int .i64 n_n])
 have S := qh (S.out.below ((Below.refl _ _).alloc (Nat.le_refl _) (.cells #[.int .u8 k_n, .complex .f64 (fl n1) (fl n2), .complex .f64 (fl q3_n) (fl q4_n), .string t_n, .int .i64 n_n] 40)))
 go_upto_region 2 with fail
 generalize wx.heap.size = bt at *
 generalize wx.alloc (.cells #[.int .u8 k_n, .complex .f64 (fl n1) (fl n2), .complex .f64 (fl q3_n) (fl q4_n), .string t_n, .int .i64 n_n] 40) = wy at *
 go_wp2_with fail
 (with_reducible refine S.out.need HT.out rfl ?_ ?_)
 ·intro k w1 h hg; go_wp2; exact ⟨rfl, S1.errT h.out hg.out _⟩
 clear S
 intro wx S hg
 have HBt := qh (HBt.out.grown hg.out (by intro e; injection e with e; omega))
 go_upto_region 3 with fail
 have S := qh (S.out.below ((Below.refl _ _).drew))
 have HBt := qh (HBt.out.drewN 1)
 have t1 : wx.drew.cell? ⟨bt, 1, none⟩ = some (.complex .f64 (fl n1) (fl n2)) := HBt.out.cell 1
 have t3 : wx.drew.cell? ⟨bt, 3, none⟩ = some (.string t_n) := HBt.out.cell 3
 have HZ := qh S.out.pg.2.size
 have D1 := qh (S.out.treeD (of_E HT.out hgL _ (by have := S.out.le; have := HT.out.toks.len; omega) _ S.out.pg.1) (g2_expr (g := g)))
 clear S
 go_region_law (first
  | (go_simp; go_at_call 77; (with_reducible refine D1.out.mono ?_); rintro e x (⟨k, rfl, h, hgr⟩ | ⟨y, by_, j2, rfl, hj2, S, hgr, hr⟩); (case' inl => exact ⟨rfl, S1.errT h.out hgr.out _⟩); have HB2 := qh (HBt.out.grown hgr.out (by intro e; injection e with e; omega)); have t1 : x.cell? ⟨bt, 1, none⟩ = some (.complex .f64 (fl n1) (fl n2)) := HB2.out.cell 1; have t3 : x.cell? ⟨bt, 3, none⟩ = some (.string t_n) := HB2.out.cell 3; have HB3 := qh (HB2.out.below ((Below.refl _ _).alloc (Nat.le_refl _) (.cells #[.pointer (some ⟨by_, 0, none⟩)] 31)) HB2.out.lt); have t1b : (x.alloc (.cells #[.pointer (some ⟨by_, 0, none⟩)] 31)).cell? ⟨bt, 1, none⟩ = some (.complex .f64 (fl n1) (fl n2)) := HB3.out.cell 1; have t3b : (x.alloc (.cells #[.pointer (some ⟨by_, 0, none⟩)] 31)).cell? ⟨bt, 3, none⟩ = some (.string t_n) := HB3.out.cell 3; have HR := qh (one1 (hr.out.more (S' := fun y => w.heap.size ≤ y) fun y hy _ => Nat.le_trans HZ.out hy)))
  | (go_simp; go_at_call 33; (with_reducible refine (St.new_lit (B := w.heap.size) (w := x) S.out.pg.2.size 40 40 rfl n1 n2 t_n [.pointer (some ⟨by_, 0, none⟩)] [y] x.heap.size rfl 1 rfl (by decide) HR.out).mono ?_); rintro e x2 ⟨b2, rfl, hb, hr⟩; have S := qh (S.out.below hb); have HR := qh hr; clear hb hr))
 all_goals
  go_wp2
  go_ret
  exact S.out.doneT HR.out
theorem types_any {g : Nat} (df : Bool) {w0 : World} {br c : Nat} {A : Option Addr} {L : List PT} (ht : TkS w0 br A L) (hgL : L.length < g) {lo : Nat} {ty : Par T1} (hty : Good2 ty) (HTy : Hid (TyOK 100 ty lo w0 br A c L)) (i : Nat) (hlo : lo ≤ i) (hi : i ≤ L.length) (w : World) (h : PInv w0 w br A c L i) :
 Calls Tryz.prog 82 #[.pointer (some ⟨br, 0, none⟩), .bool df] w (TreeR w.heap.size w0 w br A c L (typeF ty df L i)) := by
 have hbr := h.row.lt
 have H0 := qh h
 have HT := qh ht
 obtain ⟨res, hs0⟩ : ∃ r, r = typeF ty df L i := ⟨_, rfl⟩
 rw [← hs0]
 have S := qh (S1.start h hi hs0)
 clear h ht hs0 hi
 go_enter Tryz.func82, Tryz.ntmps82
 unfold typeF at S
 go_wp2_with fail
 (with_reducible refine S.out.name HT.out ?_ ?_)
 ·intro k w1 h hg; go_wp2; exact ⟨rfl, S1.errT h.out hg.out _⟩
 clear S
 intro k_n n1 n2 q3_n q4_n t_n n_n wx S hg
 have hbt := S.out.pg.1.row.lt
 have HBt := qh (Blk.new wx 40 #[.int .u8 k_n, .complex .f64 (fl n1) (fl n2), .complex .f64 (fl q3_n) (fl q4_n), .string t_n, .int .i64 n_n])
 have S := qh (S.out.below ((Below.refl _ _).alloc (Nat.le_refl _) (.cells #[.int .u8 k_n, .complex .f64 (fl n1) (fl n2), .complex .f64 (fl q3_n) (fl q4_n), .string t_n, .int .i64 n_n] 40)))
 go_upto_region 2 with fail
 generalize wx.heap.size = bt at *
 generalize wx.alloc (.cells #[.int .u8 k_n, .complex .f64 (fl n1) (fl n2), .complex .f64 (fl q3_n) (fl q4_n), .string t_n, .int .i64 n_n] 40) = wy at *
 have S := qh (S.out.of (q := if (df && tT sSem (tk L (i + 1))) = true then retP (mk 41 (n1, n2) t_n 0 [zeroT]) else needF sEqu (bindP ty fun x => retP (mk 41 (n1, n2) t_n 0 [x]))) rfl)
 go_upto_region 2 with fail
 go_cut [13] (fun cv wc => Hid (∃ bv, cv = .bool bv ∧ bv = (df && tT sSem (tk L (i + 1))) ∧ S1 w0 w wc br c A L res (if (df && tT sSem (tk L (i + 1))) = true then retP (mk 41 (n1, n2) t_n 0 [zeroT]) else needF sEqu (bindP ty fun x => retP (mk 41 (n1, n2) t_n 0 [x]))) (i + 1) ∧ Blk wc bt 40 #[.int .u8 k_n, .complex .f64 (fl n1) (fl n2), .complex .f64 (fl q3_n) (fl q4_n), .string t_n, .int .i64 n_n]))
 case first =>
  cases df with
  | false =>
    go_wp2_with fail
    go_meet
    exact qh ⟨false, rfl, rfl, S.out, HBt.out⟩
  | true =>
    go_wp2_with fail
    (with_reducible refine S.out.is HT.out rfl ?_)
    clear S
    intro wx S hg
    have HBt := qh (HBt.out.grown hg.out (by intro e; injection e with e; omega))
    generalize hv : isT L (i + 1) sSem = v
    go_wp2_with fail
    go_meet
    exact qh ⟨v, rfl, by rw [← hv]; rfl, S.out, HBt.out⟩
 case rest =>
  obtain ⟨bv, rfl, hbv, hc1, hc2⟩ := hcut.out
  clear S HBt
  clear hcut
  have S := qh hc1
  have HBt := qh hc2
  clear hc1 hc2
  have HBV := qh hbv
  clear hbv
  cases bv with
  | true =>
    have S := qh (S.out.yes HBV.out.symm)
    go_upto_region 3 with fail
    have t1 : wc.cell? ⟨bt, 1, none⟩ = some (.complex .f64 (fl n1) (fl n2)) := HBt.out.cell 1
    have t3 : wc.cell? ⟨bt, 3, none⟩ = some (.string t_n) := HBt.out.cell 3
    have hbl := HBt.out.lt
    have NW := qh (St.new_lit (B := w.heap.size) (w := wc) S.out.pg.2.size 41 41 rfl n1 n2 t_n [.pointer none] [zeroT] wc.heap.size rfl 1 rfl (by decide) (zero1))
    go_wp2_with fail
    ((with_reducible refine NW.out.mono ?_); rintro e wy ⟨b, rfl, hb, hr⟩)
    have Hb := qh hr
    have S := qh (S.out.below hb)
    clear hb hr NW
    go_wp2
    go_ret
    exact S.out.doneT Hb.out
  | false =>
    have S := qh (S.out.no (by rw [← HBV.out]; simp))
    go_wp2_with fail
    (with_reducible refine S.out.need HT.out rfl ?_ ?_)
    ·intro k w1 h hg; go_wp2; exact ⟨rfl, S1.errT h.out hg.out _⟩
    clear S
    intro wx S hg
    have HBt := qh (HBt.out.grown hg.out (by intro e; injection e with e; omega))
    go_upto_region 5 with fail
    have S := qh (S.out.below ((Below.refl _ _).drew))
    have HBt := qh (HBt.out.drewN 1)
    have t1 : wx.drew.cell? ⟨bt, 1, none⟩ = some (.complex .f64 (fl n1) (fl n2)) := HBt.out.cell 1
    have t3 : wx.drew.cell? ⟨bt, 3, none⟩ = some (.string t_n) := HBt.out.cell 3
    have HZ := qh S.out.pg.2.size
    have D1 := qh (S.out.treeD (HTy.out _ (by omega) S.out.le _ S.out.pg.1) (hty))
    clear S
    go_region_law (first
     | (go_simp; go_at_call 100; (with_reducible refine D1.out.mono ?_); rintro e x (⟨k, rfl, h, hgr⟩ | ⟨y, by_, j2, rfl, hj2, S, hgr, hr⟩); (case' inl => exact ⟨rfl, S1.errT h.out hgr.out _⟩); have HB2 := qh (HBt.out.grown hgr.out (by intro e; injection e with e; omega)); have t1 : x.cell? ⟨bt, 1, none⟩ = some (.complex .f64 (fl n1) (fl n2)) := HB2.out.cell 1; have t3 : x.cell? ⟨bt, 3, none⟩ = some (.string t_n) := HB2.out.cell 3; have HB3 := qh (HB2.out.below ((Below.refl _ _).alloc (Nat.le_refl _) (.cells #[.pointer (some ⟨by_, 0, none⟩)] 31)) HB2.out.lt); have t1b : (x.alloc (.cells #[.pointer (some ⟨by_, 0, none⟩)] 31)).cell? ⟨bt, 1, none⟩ = some (.complex .f64 (fl n1) (fl n2)) := HB3.out.cell 1; have t3b : (x.alloc (.cells #[.pointer (some ⟨by_, 0, none⟩)] 31)).cell? ⟨bt, 3, none⟩ = some (.string t_n) := HB3.out.cell 3; have HR := qh (one1 (hr.out.more (S' := fun y => w.heap.size ≤ y) fun y hy _ => Nat.le_trans HZ.out hy)))
     | (go_simp; go_at_call 33; (with_reducible refine (St.new_lit (B := w.heap.size) (w := x) S.out.pg.2.size 41 41 rfl n1 n2 t_n [.pointer (some ⟨by_, 0, none⟩)] [y] x.heap.size rfl 1 rfl (by decide) HR.out).mono ?_); rintro e x2 ⟨b2, rfl, hb, hr⟩; have S := qh (S.out.below hb); have HR := qh hr; clear hb hr))
    all_goals
     go_wp2
     go_ret
     exact S.out.doneT HR.out
theorem vars_any {g : Nat} (df : Bool) {w0 : World} {br c : Nat} {A : Option Addr} {L : List PT} (ht : TkS w0 br A L) (hgL : L.length < g) {lo : Nat} {ty : Par T1} (hty : Good2 ty) (HTy : Hid (TyOK 100 ty lo w0 br A c L)) (i : Nat) (hlo : lo ≤ i) (hi : i ≤ L.length) (w : World) (h : PInv w0 w br A c L i) :
 Calls Tryz.prog 83 #[.pointer (some ⟨br, 0, none⟩), .bool df] w (TreeR w.heap.size w0 w br A c L (varF g ty L i)) := by
 have hbr := h.row.lt
 have H0 := qh h
 have HT := qh ht
 obtain ⟨res, hs0⟩ : ∃ r, r = varF g ty L i := ⟨_, rfl⟩
 rw [← hs0]
 have S := qh (S1.start h hi hs0)
 clear h ht hs0 hi
 go_enter Tryz.func83, Tryz.ntmps83
 unfold varF at S
 go_wp2_with fail
 (with_reducible refine S.out.now HT.out ?_)
 clear S
 intro k_p p1 p2 q3_p q4_p t_p n_p wx HPp S hg
 have HZ := qh S.out.pg.2.size
 go_wp2_with fail
 (with_reducible refine S.out.list (names_any HT.out hgL _ S.out.le _ S.out.pg.1) (g2_names g []) ?_ ?_)
 ·intro k w1 h hg; go_wp2; exact ⟨rfl, S1.errT h.out hg.out _⟩
 clear S
 intro l svl xsl j1 wx HEl hj1 S hg Hl
 have Hl := qh (Hl.out.lower HZ.out)
 clear HZ
 have hll := names_len HEl.out
 have hjl := S.out.le
 have hlen := HT.out.toks.len
 have NW := qh (new_kgl (B := w.heap.size) (w := wx) S.out.pg.2.size 42 42 rfl p1 p2 sNil 0 Hl.out (by simp at hll; omega))
 go_wp2_with fail
 ((with_reducible refine NW.out.mono ?_); rintro e wy ⟨b, sv0, xs0, rfl, hb, hk⟩)
 have HK := qh (hk.lower S.out.pg.2.size)
 have S := qh (S.out.below hb)
 clear hb hk NW
 go_wp2_with fail
 (with_reducible refine S.out.need HT.out rfl ?_ ?_)
 ·intro k w1 h hg; go_wp2; exact ⟨rfl, S1.errT h.out hg.out _⟩
 clear S
 intro wx S hg
 have HK := qh (HK.out.grown hg.out hbr (Nat.le_refl _))
 go_upto_region 3 with fail
 go_cut [] (fun wc => Hid (∃ x sv xs j2, S1 w0 w wc br c A L res (retP (mk 42 (p1, p2) sNil 0 (l ++ [x]))) j2 ∧ KG w.heap.size w.heap.size wc b ⟨42, (p1, p2), sNil, 0⟩ sv (l ++ [x]) xs))
 case first =>
  have hll2 : l.length ≤ 1000000 := by simp at hll; omega
  have D1 := qh ((S.out.below ((Below.refl _ _).drew)).treeD (HTy.out _ (by omega) S.out.le _ (S.out.pg.1.below ((Below.refl _ _).drew))) (hty))
  have HKD := qh (HK.out.below ((Below.refl _ _).drew))
  have HKL := qh HK.out.len
  obtain ⟨m4, m4f, hbl4⟩ := HK.out.kn.facts
  clear S HK
  go_region_law (first
   | (go_simp; go_at_call 100; (with_reducible refine D1.out.mono ?_); rintro e x (⟨k, rfl, h, hgr⟩ | ⟨y, by_, j2, rfl, hj2, S, hgr, hr⟩); (case' inl => exact ⟨rfl, S1.errT h.out hgr.out _⟩); have HK := qh (HKD.out.grown hgr.out hbr (Nat.le_refl _)); have HY := qh (HKD.out.new hr.out (Nat.le_refl _)); obtain ⟨t4, t4f, hbx⟩ := HK.out.kn.facts)
   | (refine step_pushK (by rfl) _ _ (by rfl) (m := x.heap.size) (bY := by_) (t := y) S.out H0.out HK.out (by omega) HY.out (by rfl) (by rfl) (by rfl) ?_; clear S HK; intro g' cap xs' w5 s4 s4f hb5 S HK))
  all_goals
   go_wp2_with fail
   go_meet
   exact qh ⟨y, _, _, j2, S.out, HK.out⟩
 case rest =>
  obtain ⟨x, sv, xs, j2, hc1, hc2⟩ := hcut.out
  clear S HK
  clear hcut
  have S := qh hc1
  have HK := qh hc2
  clear hc1 hc2
  have Hb := qh (HK.out.done (Nat.le_refl _))
  go_wp2
  go_ret
  exact S.out.doneT Hb.out
end Go.Proofs.YtkemhmfdooghkaaGreatDoor.De
