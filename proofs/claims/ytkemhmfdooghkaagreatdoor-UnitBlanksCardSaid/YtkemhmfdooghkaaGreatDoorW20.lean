/- A part of the proof: E15. -/
import Derived.Test.YtkemhmfdooghkaaGreatDoorW1
import Derived.Test.YtkemhmfdooghkaaGreatDoorW19
import Derived.Deep.DrawnRows
import Derived.Deep.RegionHeld3
import Derived.Deep.RegionHeldLaw
import Derived.Deep.CutBlock
import Derived.Deep.DeepCutAuto
set_option linter.unusedSimpArgs false
set_option linter.unusedVariables false
set_option maxRecDepth 100000
set_option maxHeartbeats 6400000
namespace Go.Proofs.YtkemhmfdooghkaaGreatDoor.Ex
open Go.RowKit
open Tr (Nd Fo RepS RepN Rep)
open Lx (Tk noTk Blk run_store_complexL TokAt)
open Fl
attribute [local go_sem] run_store_complexL run_field1 run_field3
attribute [local go_sem ↓] Go.wp_at_zero Go.wp_at_succ
structure Lv (W : World) (bl bs m0 m1 m2 b2 b3 br : Nat) : Prop where
 lev : Blk W bl 155 #[.slice (some ⟨bs, 0, none⟩) 3 3]
 row : Blk W bs 154 #[.map (some m0), .map (some m1), .map (some m2)]
 e0 : W.heap[m0]? = some (mapO (trues (ops 0)))
 e1 : W.heap[m1]? = some (mapO (trues (ops 1)))
 e2 : W.heap[m2]? = some (mapO (trues (ops 2)))
 rb : Blk W b2 143 #[.pointer (some ⟨br, 0, none⟩)]
 fb : Blk W b3 156 #[.func (.func 141) #[] #[.pointer (some ⟨bl, 0, none⟩), .pointer (some ⟨b2, 0, none⟩), .pointer (some ⟨b3, 0, none⟩)]]
 ne : br < bl ∧ br < bs ∧ br < m0 ∧ br < m1 ∧ br < m2 ∧ br < b2 ∧ br < b3
theorem obj_lt {W : World} {m : Nat} {o : Obj} (h : W.heap[m]? = some o) : m < W.heap.size := (Array.getElem?_eq_some_iff.1 h).1
theorem Lv.grown {W W' : World} {bl bs m0 m1 m2 b2 b3 br : Nat} (h : Lv W bl bs m0 m1 m2 b2 b3 br) (hg : W.grownBy W' (some br)) : Lv W' bl bs m0 m1 m2 b2 b3 br := by
 obtain ⟨n1, n2, n3, n4, n5, n6, n7⟩ := h.ne
 have hk : ∀ {x : Nat} {o : Obj}, W.heap[x]? = some o → br < x → W'.heap[x]? = some o := fun {x o} hx hn => (hg.block x (obj_lt hx) (fun e => by injection e with e; omega)).trans hx
 exact ⟨hk h.lev n1, hk h.row n2, hk h.e0 n3, hk h.e1 n4, hk h.e2 n5, hk h.rb n6, hk h.fb n7, h.ne⟩
theorem Lv.below {W W' : World} {bl bs m0 m1 m2 b2 b3 br : Nat} (h : Lv W bl bs m0 m1 m2 b2 b3 br) (hb : Below W.heap.size W W') : Lv W' bl bs m0 m1 m2 b2 b3 br := h.grown (grown_of_below hb _)
theorem Lv.facts {W : World} {bl bs m0 m1 m2 b2 b3 br : Nat} (h : Lv W bl bs m0 m1 m2 b2 b3 br) :
 W.cell? ⟨bl, 0, none⟩ = some (.slice (some ⟨bs, 0, none⟩) 3 3) ∧ W.cell? ⟨bs, 0, none⟩ = some (.map (some m0)) ∧ W.cell? ⟨bs, 1, none⟩ = some (.map (some m1)) ∧ W.cell? ⟨bs, 2, none⟩ = some (.map (some m2)) ∧ W.cell? ⟨b2, 0, none⟩ = some (.pointer (some ⟨br, 0, none⟩)) ∧
 W.cell? ⟨b3, 0, none⟩ = some (.func (.func 141) #[] #[.pointer (some ⟨bl, 0, none⟩), .pointer (some ⟨b2, 0, none⟩), .pointer (some ⟨b3, 0, none⟩)]) :=
 ⟨h.lev.cell 0, h.row.cell 0, h.row.cell 1, h.row.cell 2, h.rb.cell 0, h.fb.cell 0⟩
theorem Lv.lts {W : World} {bl bs m0 m1 m2 b2 b3 br : Nat} (h : Lv W bl bs m0 m1 m2 b2 b3 br) : bl < W.heap.size ∧ bs < W.heap.size ∧ b2 < W.heap.size ∧ b3 < W.heap.size := ⟨h.lev.lt, h.row.lt, h.rb.lt, h.fb.lt⟩
theorem held_grown {b9 b3 br s1 s2 : Nat} {t8 : ByteArray} {fv : Value} {x y : World} (h : x.cell? ⟨b9, 1, none⟩ = some (.complex .f64 (fl s1) (fl s2)) ∧ x.cell? ⟨b9, 3, none⟩ = some (.string t8) ∧ x.cell? ⟨b3, 0, none⟩ = some fv) (hg : x.grownBy y (some br)) (h9 : br < b9) (h3 : br < b3) :
 y.cell? ⟨b9, 1, none⟩ = some (.complex .f64 (fl s1) (fl s2)) ∧ y.cell? ⟨b9, 3, none⟩ = some (.string t8) ∧ y.cell? ⟨b3, 0, none⟩ = some fv :=
 ⟨hg.cell h.1 (fun e => by injection e with e; simp at e; omega), hg.cell h.2.1 (fun e => by injection e with e; simp at e; omega), hg.cell h.2.2 (fun e => by injection e with e; simp at e; omega)⟩
theorem look_op {W : World} {k m : Nat} (h : W.heap[m]? = some (mapO (trues (ops k)))) (t : ByteArray) :
 (Instr.lookup 154 (.map (some m)) (.string t) false).run Tryz.prog W = .ok (.bool ((ops k).any fun s => decide (s = t))) W := by
 obtain ⟨h1, h2⟩ := find_trues t (ops k) 0 0
 cases hb : (ops k).any fun s => decide (s = t)
 ·exact run_look_no Tryz.underlying154 Tryz.underlying9 _ _ (by simp [MapKept.IsKey]) (h2 hb) false W (by kernel_rfl) m h
 ·obtain ⟨j, hj⟩ := h1 hb
  exact run_look Tryz.underlying154 Tryz.underlying9 _ _ (by simp [MapKept.IsKey]) hj false W m h
theorem binsP_succ (L : List PT) (sub : Nat → Except Nat (T1 × Nat)) (k f : Nat) (x : T1) (i : Nat) : binsP L sub k (f + 1) x i = if isOp L i k = true then (match sub (i + 1) with
 | .error e => .error e
 | .ok (y, j) => if k = 0 then .ok (mk 11 (pos L i) (tk L i).1.text 0 [x, y], j) else binsP L sub k f (mk 11 (pos L i) (tk L i).1.text 0 [x, y]) j) else .ok (x, i) := rfl
theorem isOp_lt {L : List PT} {i k : Nat} (h : isOp L i k = true) : i < L.length := by
 rcases Nat.lt_or_ge i L.length with h1 | h1
 ·exact h1
 ·unfold isOp tk at h
  rw [List.getElem?_eq_none h1] at h
  simp [isSW, noPT, noTk] at h
theorem binsP_ok {L : List PT} {sub : Nat → Except Nat (T1 × Nat)} (hm : SpOK L sub) (k : Nat) : ∀ (f : Nat) (x : T1) (i : Nat) (y : T1) (j : Nat), binsP L sub k f x i = .ok (y, j) → i ≤ L.length → i ≤ j ∧ j ≤ L.length := by
 intro f
 induction f with
 | zero => intro x i y j h hi; injection h with h; injection h with h1 h2; omega
 | succ f ih =>
   intro x i y j h hi
   rw [binsP_succ] at h
   split at h
   ·split at h
    ·cases h
    ·rename_i y1 j1 h1
     have g := hm _ _ _ h1
     split at h
     ·injection h with h; injection h with h3 h4; omega
     ·have := ih _ _ _ _ h g.2
      omega
   ·injection h with h; injection h with h1 h2; omega
theorem levD_ok {L : List PT} {fac : Nat → Except Nat (T1 × Nat)} (hm : SpOK L fac) : ∀ d, SpOK L (levD L fac d) := by
 intro d
 induction d with
 | zero => exact hm
 | succ d ih =>
   intro i y j h
   unfold levD at h
   split at h
   ·cases h
   ·rename_i x j1 h1
    have g := ih _ _ _ h1
    have g2 := binsP_ok ih _ _ _ _ _ _ h g.2
    split at g <;> omega
theorem lev2_any {fac : Nat → Except Nat (T1 × Nat)} {lo : Nat} {w0 : World} {br c : Nat} {A : Option Addr} {L : List PT} {bl bs m0 m1 m2 b2 b3 : Nat} (ht : Toks w0 br A L) (hm : SpOK L fac)
 (hS : ∀ j, lo ≤ j → j ≤ 60000 → ∀ w, PInv w0 w br A c L j → Lv w bl bs m0 m1 m2 b2 b3 br → Calls Tryz.prog 141 #[.int .i64 3, .pointer (some ⟨bl, 0, none⟩), .pointer (some ⟨b2, 0, none⟩), .pointer (some ⟨b3, 0, none⟩)] w (TreeR w.heap.size w0 w br A c L (levD L fac 0 j)))
 (i : Nat) (hlo : lo ≤ i) (hi : i ≤ 60000) (w : World) (h : PInv w0 w br A c L i) (hv : Lv w bl bs m0 m1 m2 b2 b3 br) :
 Calls Tryz.prog 141 #[.int .i64 2, .pointer (some ⟨bl, 0, none⟩), .pointer (some ⟨b2, 0, none⟩), .pointer (some ⟨b3, 0, none⟩)] w (TreeR w.heap.size w0 w br A c L (levD L fac 1 i)) := by
 have hbr0 := h.row.lt
 have hlen := ht.len
 have H := qh (PG.start h)
 have HT := qh ht
 have HM := qh (levD_ok hm 0)
 have HSUB := qh hS
 have HV := qh hv
 obtain ⟨v1, v2, v3, v4, v5, v6⟩ := hv.facts
 obtain ⟨l1, l2, l3, l4⟩ := hv.lts
 obtain ⟨k9, p1, p2, q1, q2, t9, n9, e1, e2⟩ := val_form (tk L i)
 have hp : pos L i = (p1, p2) := by unfold pos; rw [e1]
 have htx : (tk L i).1.text = t9 := by rw [e1]
 have n1 := now_any ht (by omega) w h
 rw [e2] at n1
 have N1 := qh n1
 have HS0 := qh (show levD L fac 1 i = (match levD L fac 0 (if signed L i 2 = true then i + 1 else i) with
  | .error e => .error e
  | .ok (x, j) => binsP L (levD L fac 0) 2 (L.length + 1) (if signed L i 2 = true then mk 12 (p1, p2) t9 0 [x] else x) j) by rw [← hp, ← htx]; rfl)
 clear hS h ht hm hv n1 e1 e2 hp htx
 generalize levD L fac 1 i = res at *
 go_enter Tryz.func141, Tryz.ntmps141
 go_wp2_with fail
 ((with_reducible refine (N1.out).mono ?_); rintro e w1 ⟨rfl, hb⟩)
 have H := qh ((H.out.below hb).alloc (.cells #[.int .u8 k9, .complex .f64 (fl p1) (fl p2), .complex .f64 (fl q1) (fl q2), .string t9, .int .i64 n9] 40))
 have HV1 := HV.out.below hb
 have hw1 := hb.size
 have HB6 := qh (Blk.new w1 40 #[.int .u8 k9, .complex .f64 (fl p1) (fl p2), .complex .f64 (fl q1) (fl q2), .string t9, .int .i64 n9])
 have HV := qh (HV1.below ((Below.refl _ _).alloc (Nat.le_refl _) (.cells #[.int .u8 k9, .complex .f64 (fl p1) (fl p2), .complex .f64 (fl q1) (fl q2), .string t9, .int .i64 n9] 40)))
 clear hb N1 v1 v2 v3 v4 v5 v6 l1 l2 l3 l4
 obtain ⟨v1, v2, v3, v4, v5, v6⟩ := HV1.facts
 obtain ⟨l1, l2, l3, l4⟩ := HV1.lts
 clear HV1
 have hsg : signed L i 2 = false := rfl
 rw [hsg] at HS0
 have HS1 := qh (show res = (match levD L fac 0 i with
  | .error e => .error e
  | .ok (x, j) => binsP L (levD L fac 0) 2 (L.length + 1) x j) from HS0.out)
 clear hsg HS0
 have d1 := HSUB.out i hlo hi _ H.out.1 HV.out
 go_wp2_with fail
 cases hx : levD L fac 0 i with
 | error k =>
   rw [hx] at d1
   have HS := qh (show res = .error k by rw [HS1.out, hx])
   have D1 := qh d1
   clear d1 hx HS1
   ((with_reducible refine (D1.out).mono ?_); rintro e w1 ⟨rfl, hb⟩)
   have H3 := qh (grown_trans H.out.2 hb)
   clear hb
   go_wp2
   refine ⟨rfl, ?_⟩
   rw [HS.out]
   exact ⟨rfl, H3.out⟩
 | ok r =>
   obtain ⟨x, j⟩ := r
   rw [hx] at d1
   have hj := HM.out _ _ _ hx
   have HS2 := qh (show res = binsP L (levD L fac 0) 2 (L.length + 1) x j by rw [HS1.out, hx])
   have D1 := qh d1
   clear d1 hx HS1
   ((with_reducible refine D1.out.mono ?_); rintro e w2 ⟨bx, rfl, hp, hg, hr⟩)
   have HX := qh (hr.more (S' := fun y => w.heap.size ≤ y) fun y hy _ => Nat.le_trans H.out.2.size hy)
   have H := qh (H.out.trans ⟨hp, hg⟩)
   have HV := qh (HV.out.grown hg)
   clear hp hg hr D1
   clear v1 v2 v3 v4 v5 v6 l1 l2 l3 l4
   obtain ⟨v1, v2, v3, v4, v5, v6⟩ := HV.out.facts
   obtain ⟨l1, l2, l3, l4⟩ := HV.out.lts
   obtain ⟨k8, s1, s2, q3, q4, t8, n8, e1, e2⟩ := val_form (tk L j)
   have htk : tk L j = (⟨k8, t8, n8⟩, (s1, s2), (q3, q4)) := e1
   have n1 := now_any HT.out (i := j) (by omega) _ H.out.1
   rw [e2] at n1
   have N1 := qh n1
   have HTK := qh htk
   clear n1 e1 e2 htk
   go_wp2_with fail
   ((with_reducible refine (N1.out).mono ?_); rintro e w3 ⟨rfl, hb⟩)
   have hw3 := Nat.le_trans H.out.2.size hb.size
   have HB9 := qh (Blk.new w3 40 #[.int .u8 k8, .complex .f64 (fl s1) (fl s2), .complex .f64 (fl q3) (fl q4), .string t8, .int .i64 n8])
   have H := qh ((H.out.below hb).alloc (.cells #[.int .u8 k8, .complex .f64 (fl s1) (fl s2), .complex .f64 (fl q3) (fl q4), .string t8, .int .i64 n8] 40))
   have hba : Below w3.heap.size w3 (w3.alloc (.cells #[.int .u8 k8, .complex .f64 (fl s1) (fl s2), .complex .f64 (fl q3) (fl q4), .string t8, .int .i64 n8] 40)) := (Below.refl _ _).alloc (Nat.le_refl _) _
   have HX := qh ((HX.out.below hb).below hba)
   have HV := qh ((HV.out.below hb).below hba)
   clear hb hba N1
   go_wp2_with fail
   go_loopw [8, 9] (fun xv tv wr => ∃ (x : T1) (bx b9 j f : Nat), xv = .pointer (some ⟨bx, 0, none⟩) ∧ tv = .pointer (some ⟨b9, 0, none⟩) ∧ br < b9 ∧ lo ≤ j ∧ j ≤ L.length ∧ L.length < j + f ∧ Hid (PG w0 w wr br A c L j) ∧ Hid (RepS (fun y => w.heap.size ≤ y) wr (.node x.1 x.2 .no) [.pointer (some ⟨bx, 0, none⟩)]) ∧ Hid (Lv wr bl bs m0 m1 m2 b2 b3 br) ∧ Hid (Blk wr b9 40 (PT.vals (tk L j)).toArray) ∧ Hid (res = binsP L (levD L fac 0) 2 f x j)) (fun _ _ wr => L.length + 1 - atW wr br)
   case atStart => exact ⟨x, bx, w3.heap.size, j, L.length + 1, rfl, rfl, by omega, by omega, by omega, by omega, H, HX, HV, qh (by rw [HTK.out]; exact HB9.out), HS2⟩
   case round =>
    clear H HX HV HB9 HTK HS2 hj v1 v2 v3 v4 v5 v6 l1 l2 l3 l4
    obtain ⟨x, bx, b9, j, f, rfl, rfl, hb9, hjl, hj, hf, H, HX, HV, HB9, HS2⟩ := hrel
    obtain ⟨wo, rfl⟩ : ∃ wo : World, wo = wr := ⟨_, rfl⟩
    obtain ⟨v1, v2, v3, v4, v5, v6⟩ := HV.out.facts
    obtain ⟨l1, l2, l3, l4⟩ := HV.out.lts
    have HW := qh H.out.1.atW
    obtain ⟨f, rfl⟩ : ∃ f', f = f' + 1 := ⟨f - 1, by omega⟩
    have HS3 := qh (HS2.out.trans (binsP_succ L _ 2 f x j))
    obtain ⟨k8, s1, s2, q3, q4, t8, n8, e1, e2⟩ := val_form (tk L j)
    have HTK := qh e1
    have hps : pos L j = (s1, s2) := by unfold pos; rw [e1]
    have htx : (tk L j).1.text = t8 := by rw [e1]
    rw [hps, htx] at HS3
    have HB9 := qh (show Blk wo b9 40 #[.int .u8 k8, .complex .f64 (fl s1) (fl s2), .complex .f64 (fl q3) (fl q4), .string t8, .int .i64 n8] by have := HB9.out; rw [e1] at this; exact this)
    obtain ⟨c0, c1, c2, c3, c4, f0, f1, f2, f3, f4⟩ := HB9.out.tok
    have HOP := qh (show isOp L j 2 = ((decide (k8 = 5) || decide (k8 = 6)) && (ops 2).any (fun s => decide (s = t8))) by unfold isOp isSW; rw [e1])
    have hlk := fun n => look_op (W := wo.drewN n) (k := 2) (m := m2) HV.out.e2 t8
    have k5 : ((k8 : Int) == 5) = decide (k8 = 5) := by rw [Bool.eq_iff_iff, beq_iff_eq, decide_eq_true_eq]; omega
    have k6 : ((k8 : Int) == 6) = decide (k8 = 6) := by rw [Bool.eq_iff_iff, beq_iff_eq, decide_eq_true_eq]; omega
    clear e1 e2 hps htx HS2
    generalize (ops 2).any (fun s => decide (s = t8)) = bo at *
    generalize decide (k8 = 5) = b5 at *
    generalize decide (k8 = 6) = b6 at *
    rcases b5 with _ | _ <;> rcases b6 with _ | _ <;> rcases bo with _ | _
    all_goals
     go_wp2
     go_quiet (fail)
     have hbd : Below wo.heap.size wo (wo.drewN nq) := Lx.below_drewN (Below.refl _ _) nq
     have H := qh (H.out.below hbd)
     have HX := qh (HX.out.below hbd)
     have HV := qh (HV.out.below hbd)
     have HB9 := qh (HB9.out.drewN nq)
     have hnz : (wo.drewN nq).heap.size = wo.heap.size := rfl
     clear hbd hlk v1 v2 v3 v4 v5 v6 l1 l2 l3 l4 c0 c1 c2 c3 c4 f0 f1 f2 f3 f4
     generalize wo.drewN nq = wd at *
     first
      | (have hop : isOp L j 2 = false := HOP.out
         have HS := qh (HS3.out.trans (if_neg (by rw [hop]; simp)))
         clear HS3 hop HOP
         go_wp2
         go_ret
         rw [HS.out]
         exact ⟨bx, rfl, H.out.1, H.out.2, HX.out⟩)
      | (have hop : isOp L j 2 = true := HOP.out
         have hjlt := isOp_lt hop
         have HS4 := qh (HS3.out.trans (if_pos hop))
         clear HS3 hop HOP
         obtain ⟨v1, v2, v3, v4, v5, v6⟩ := HV.out.facts
         obtain ⟨a1, a2, a3⟩ := H.out.1.at_
         have x0 : (0 : Int) ≤ (j : Int) := by omega
         have hgs := Lx.grown_set wd br 1 (.int .i64 ((j + 1 : Nat) : Int))
         have H := qh (H.out.set_ (j + 1))
         have HX := qh (repS_grown HX.out hgs hbr0)
         have HV := qh (HV.out.grown hgs)
         have HB9 := qh (HB9.out.far (p := ⟨br, 1, none⟩) (Nat.ne_of_gt hb9) (.int .i64 ((j + 1 : Nat) : Int)))
         rw [show (((j + 1 : Nat) : Int)) = (j : Int) + 1 from by omega] at H HX HV HB9
         clear hgs hnz
         go_wp2
         generalize wd.setCell ⟨br, 1, none⟩ (.int .i64 ((j : Int) + 1)) = we at *
         clear v1 v2 v3 v4 v5 v6 a1 a2 a3
         obtain ⟨v1, v2, v3, v4, v5, v6⟩ := HV.out.facts
         obtain ⟨c0, c1, c2, c3, c4, f0, f1, f2, f3, f4⟩ := HB9.out.tok
         have hbd1 : Below we.heap.size we we.drew := (Below.refl _ _).drew
         have H := qh (H.out.below hbd1)
         have HX := qh (HX.out.below hbd1)
         have HV := qh (HV.out.below hbd1)
         have HB9 := qh (HB9.out.below hbd1 HB9.out.lt)
         have d2 := HSUB.out (j + 1) (by omega) (by omega) we.drew H.out.1 HV.out
         have hb3 : br < b3 := HV.out.ne.2.2.2.2.2.2
         have HD0 : we.drew.cell? ⟨b9, 1, none⟩ = some (.complex .f64 (fl s1) (fl s2)) ∧ we.drew.cell? ⟨b9, 3, none⟩ = some (.string t8) ∧ we.drew.cell? ⟨b3, 0, none⟩ = some (.func (.func 141) #[] #[.pointer (some ⟨bl, 0, none⟩), .pointer (some ⟨b2, 0, none⟩), .pointer (some ⟨b3, 0, none⟩)]) := ⟨c1, c3, v6⟩
         clear hbd1 c0 c1 c2 c3 c4 f0 f1 f2 f3 f4 v1 v2 v3 v4 v5 v6
         have hwr : IntKind.i64.wrap 3 = 3 := IntWalk.i64_in _ (by omega)
         cases hy : levD L fac 0 (j + 1) with
         | error e0 =>
           rw [hy] at d2
           have HS := qh (show res = .error e0 by rw [HS4.out, hy])
           have D2 := qh (d2.mono (R' := fun e w' => (∃ b, e = .returned (.pointer (some ⟨b, 0, none⟩)) ∧ Hid False ∧ we.drew.grownBy w' (some br)) ∨ (e = bad e0 ∧ we.drew.grownBy w' (some br))) fun e w' h => .inr h)
           clear d2 hy HS4
           go_region_held_law (fun w' => w'.cell? ⟨b9, 1, none⟩ = some (.complex .f64 (fl s1) (fl s2)) ∧ w'.cell? ⟨b9, 3, none⟩ = some (.string t8) ∧ w'.cell? ⟨b3, 0, none⟩ = some (.func (.func 141) #[] #[.pointer (some ⟨bl, 0, none⟩), .pointer (some ⟨b2, 0, none⟩), .pointer (some ⟨b3, 0, none⟩)]))
            ((first | (with_reducible exact HD0) | (with_reducible assumption) | (exact hF.out.elim)))
            ((first | (go_at_call 141; (with_reducible refine D2.out.mono ?_); rintro e wg (⟨by_, rfl, hF, hg⟩ | ⟨rfl, hb⟩); case' inr => exact ⟨rfl, by rw [HS.out]; exact ⟨rfl, grown_trans H.out.2 hb⟩⟩) | (go_at_call 33; refine Calls.mono (R := fun e w' => e = .returned (.pointer none) ∧ Below 0 w' w') hF.out.elim ?_; rintro e wh ⟨rfl, hb⟩)))
           exact hF.out.elim
         | ok r =>
           obtain ⟨y, j2⟩ := r
           rw [hy] at d2
           have hj2 := HM.out _ _ _ hy
           have HS5 := qh (show res = if 2 = 0 then .ok (mk 11 (s1, s2) t8 0 [x, y], j2) else binsP L (levD L fac 0) 2 f (mk 11 (s1, s2) t8 0 [x, y]) j2 by rw [HS4.out, hy])
           have D2 := qh d2
           clear d2 hy HS4
           go_region_held3 (fun w' => w'.cell? ⟨b9, 1, none⟩ = some (.complex .f64 (fl s1) (fl s2)) ∧ w'.cell? ⟨b9, 3, none⟩ = some (.string t8) ∧ w'.cell? ⟨b3, 0, none⟩ = some (.func (.func 141) #[] #[.pointer (some ⟨bl, 0, none⟩), .pointer (some ⟨b2, 0, none⟩), .pointer (some ⟨b3, 0, none⟩)]))
            ((first | (with_reducible exact HD0) | (with_reducible assumption) | exact held_grown HD0 (by assumption) hb9 hb3 | (exact held_grown (br := br) (by assumption) (grown_of_below ((Below.refl _ _).alloc (Nat.le_refl _) _) _) hb9 hb3) | (exact held_grown (br := br) (by assumption) (grown_of_below (by assumption) _) hb9 hb3)))
            ((first
              | (go_at_call 141; (with_reducible refine D2.out.mono ?_); rintro e wg ⟨by_, rfl, hp, hg, hr⟩)
              | (go_at_call 33; (with_reducible refine (new_at (B := w.heap.size) (by have := H.out.2.size; have := hg.size; rw [World.size_alloc]; omega) 11 11 rfl s1 s2 t8 0 (some ⟨wg.heap.size, 0, none⟩) 2 2 [.pointer (some ⟨bx, 0, none⟩), .pointer (some ⟨by_, 0, none⟩)] (.node x.1 x.2 (.node y.1 y.2 .no)) rfl (by omega) (reads_lit wg #[.pointer (some ⟨bx, 0, none⟩), .pointer (some ⟨by_, 0, none⟩)] _) (kids2 (repS_grown HX.out hg hbr0) (hr.more (S' := fun y => w.heap.size ≤ y) fun y hy _ => Nat.le_trans H.out.2.size hy) _)).mono ?_); rintro e wh ⟨b, rfl, hb, hr2⟩)))
           clear HD0 hwr D2
           have H2 := qh (((H.out.trans ⟨hp, hg⟩).alloc (.cells #[.pointer (some ⟨bx, 0, none⟩), .pointer (some ⟨by_, 0, none⟩)] 31)).below hb)
           have hba : Below wg.heap.size wg (wg.alloc (.cells #[.pointer (some ⟨bx, 0, none⟩), .pointer (some ⟨by_, 0, none⟩)] 31)) := (Below.refl _ _).alloc (Nat.le_refl _) _
           have HX := qh hr2
           have HV := qh (((HV.out.grown hg).below hba).below hb)
           have HB9 := qh (((HB9.out.grown hg (fun e => by injection e with e; omega)).below hba (Nat.lt_of_lt_of_le HB9.out.lt hg.size)).below hb (by rw [World.size_alloc]; exact Nat.lt_succ_of_lt (Nat.lt_of_lt_of_le HB9.out.lt hg.size)))
           clear hp hg hr hb hr2 hba H
           have HS6 := qh (HS5.out.trans (if_neg (by omega)))
           obtain ⟨c0, c1, c2, c3, c4, f0, f1, f2, f3, f4⟩ := HB9.out.tok
           obtain ⟨v1, v2, v3, v4, v5, v6⟩ := HV.out.facts
           obtain ⟨l1, l2, l3, l4⟩ := HV.out.lts
           have hbz : Below wh.heap.size wh (wh.alloc (.cells #[.int .u8 k8, .complex .f64 (fl s1) (fl s2), .complex .f64 (fl q3) (fl q4), .string t8, .int .i64 n8] 40)) := (Below.refl _ _).alloc (Nat.le_refl _) _
           obtain ⟨k7, r1, r2, q5, q6, t7, n7, e1, e2⟩ := val_form (tk L j2)
           have n1 := now_any HT.out (i := j2) (by omega) _ (H2.out.1.below hbz)
           rw [e2] at n1
           have N1 := qh n1
           have HTK2 := qh e1
           have HBZ := qh hbz
           have HBN := qh (Blk.new wh 40 #[.int .u8 k8, .complex .f64 (fl s1) (fl s2), .complex .f64 (fl q3) (fl q4), .string t8, .int .i64 n8])
           have halz : wh.heap.size < (wh.alloc (.cells #[.int .u8 k8, .complex .f64 (fl s1) (fl s2), .complex .f64 (fl q3) (fl q4), .string t8, .int .i64 n8] 40)).heap.size := by rw [World.size_alloc]; exact Nat.lt_succ_self _
           clear n1 e1 e2 hbz
           go_wp2_with fail
           ((with_reducible refine (N1.out).mono ?_); rintro e wi ⟨rfl, hb⟩)
           have hpg := ((PG.start H2.out.1).below HBZ.out).below hb
           have hbn := HBN.out.below hb halz
           have HPG := qh (hpg.store5 H2.out.1 (Nat.le_refl _) (.int .u8 k7) (.complex .f64 (fl r1) (fl r2)) (.complex .f64 (fl q5) (fl q6)) (.string t7) (.int .i64 n7))
           have HBF := qh (Lx.tok_stored hbn (.int .u8 k7) (.complex .f64 (fl r1) (fl r2)) (.complex .f64 (fl q5) (fl q6)) (.string t7) (.int .i64 n7))
           obtain ⟨y0, y1, y2, y3, y4, g0, g1, g2, g3, g4⟩ := hbn.tok
           have hbrz := H2.out.1.row.lt
           clear hpg hbn hb c0 c1 c2 c3 c4 f0 f1 f2 f3 f4 v1 v2 v3 v4 v5 v6 l1 l2 l3 l4 N1 HBN HBZ halz
           go_wp2
           have HF := qh (H2.out.trans ⟨HPG.out.1, HPG.out.2⟩)
           go_roundw
           case rel => exact ⟨mk 11 (s1, s2) t8 0 [x, y], b, wh.heap.size, j2, f, rfl, rfl, by omega, by omega, by omega, by omega, HF, qh (repS_grown HX.out HPG.out.2 hbr0), qh (HV.out.grown HPG.out.2), qh (by rw [HTK2.out]; exact HBF.out), HS6⟩
           case measure => rw [HF.out.1.atW, HW.out]; omega)
theorem lev0_any {fac : Nat → Except Nat (T1 × Nat)} {lo : Nat} {w0 : World} {br c : Nat} {A : Option Addr} {L : List PT} {bl bs m0 m1 m2 b2 b3 : Nat} (ht : Toks w0 br A L) (hm : SpOK L fac)
 (hS : ∀ j, lo ≤ j → j ≤ 60000 → ∀ w, PInv w0 w br A c L j → Lv w bl bs m0 m1 m2 b2 b3 br → Calls Tryz.prog 141 #[.int .i64 1, .pointer (some ⟨bl, 0, none⟩), .pointer (some ⟨b2, 0, none⟩), .pointer (some ⟨b3, 0, none⟩)] w (TreeR w.heap.size w0 w br A c L (levD L fac 2 j)))
 (i : Nat) (hlo : lo ≤ i) (hi : i ≤ 60000) (w : World) (h : PInv w0 w br A c L i) (hv : Lv w bl bs m0 m1 m2 b2 b3 br) :
 Calls Tryz.prog 141 #[.int .i64 0, .pointer (some ⟨bl, 0, none⟩), .pointer (some ⟨b2, 0, none⟩), .pointer (some ⟨b3, 0, none⟩)] w (TreeR w.heap.size w0 w br A c L (levD L fac 3 i)) := by
 have hbr0 := h.row.lt
 have hlen := ht.len
 have H := qh (PG.start h)
 have HT := qh ht
 have HM := qh (levD_ok hm 2)
 have HSUB := qh hS
 have HV := qh hv
 obtain ⟨v1, v2, v3, v4, v5, v6⟩ := hv.facts
 obtain ⟨l1, l2, l3, l4⟩ := hv.lts
 obtain ⟨k9, p1, p2, q1, q2, t9, n9, e1, e2⟩ := val_form (tk L i)
 have hp : pos L i = (p1, p2) := by unfold pos; rw [e1]
 have htx : (tk L i).1.text = t9 := by rw [e1]
 have n1 := now_any ht (by omega) w h
 rw [e2] at n1
 have N1 := qh n1
 have HS0 := qh (show levD L fac 3 i = (match levD L fac 2 (if signed L i 0 = true then i + 1 else i) with
  | .error e => .error e
  | .ok (x, j) => binsP L (levD L fac 2) 0 (L.length + 1) (if signed L i 0 = true then mk 12 (p1, p2) t9 0 [x] else x) j) by rw [← hp, ← htx]; rfl)
 clear hS h ht hm hv n1 e1 e2 hp htx
 generalize levD L fac 3 i = res at *
 go_enter Tryz.func141, Tryz.ntmps141
 go_wp2_with fail
 ((with_reducible refine (N1.out).mono ?_); rintro e w1 ⟨rfl, hb⟩)
 have H := qh ((H.out.below hb).alloc (.cells #[.int .u8 k9, .complex .f64 (fl p1) (fl p2), .complex .f64 (fl q1) (fl q2), .string t9, .int .i64 n9] 40))
 have HV1 := HV.out.below hb
 have hw1 := hb.size
 have HB6 := qh (Blk.new w1 40 #[.int .u8 k9, .complex .f64 (fl p1) (fl p2), .complex .f64 (fl q1) (fl q2), .string t9, .int .i64 n9])
 have HV := qh (HV1.below ((Below.refl _ _).alloc (Nat.le_refl _) (.cells #[.int .u8 k9, .complex .f64 (fl p1) (fl p2), .complex .f64 (fl q1) (fl q2), .string t9, .int .i64 n9] 40)))
 clear hb N1 v1 v2 v3 v4 v5 v6 l1 l2 l3 l4
 obtain ⟨v1, v2, v3, v4, v5, v6⟩ := HV1.facts
 obtain ⟨l1, l2, l3, l4⟩ := HV1.lts
 clear HV1
 have hsg : signed L i 0 = false := rfl
 rw [hsg] at HS0
 have HS1 := qh (show res = (match levD L fac 2 i with
  | .error e => .error e
  | .ok (x, j) => binsP L (levD L fac 2) 0 (L.length + 1) x j) from HS0.out)
 clear hsg HS0
 have d1 := HSUB.out i hlo hi _ H.out.1 HV.out
 go_wp2_with fail
 cases hx : levD L fac 2 i with
 | error k =>
   rw [hx] at d1
   have HS := qh (show res = .error k by rw [HS1.out, hx])
   have D1 := qh d1
   clear d1 hx HS1
   ((with_reducible refine (D1.out).mono ?_); rintro e w1 ⟨rfl, hb⟩)
   have H3 := qh (grown_trans H.out.2 hb)
   clear hb
   go_wp2
   refine ⟨rfl, ?_⟩
   rw [HS.out]
   exact ⟨rfl, H3.out⟩
 | ok r =>
   obtain ⟨x, j⟩ := r
   rw [hx] at d1
   have hj := HM.out _ _ _ hx
   have HS2 := qh (show res = binsP L (levD L fac 2) 0 (L.length + 1) x j by rw [HS1.out, hx])
   have D1 := qh d1
   clear d1 hx HS1
   ((with_reducible refine D1.out.mono ?_); rintro e w2 ⟨bx, rfl, hp, hg, hr⟩)
   have HX := qh (hr.more (S' := fun y => w.heap.size ≤ y) fun y hy _ => Nat.le_trans H.out.2.size hy)
   have H := qh (H.out.trans ⟨hp, hg⟩)
   have HV := qh (HV.out.grown hg)
   clear hp hg hr D1
   clear v1 v2 v3 v4 v5 v6 l1 l2 l3 l4
   obtain ⟨v1, v2, v3, v4, v5, v6⟩ := HV.out.facts
   obtain ⟨l1, l2, l3, l4⟩ := HV.out.lts
   obtain ⟨k8, s1, s2, q3, q4, t8, n8, e1, e2⟩ := val_form (tk L j)
   have htk : tk L j = (⟨k8, t8, n8⟩, (s1, s2), (q3, q4)) := e1
   have n1 := now_any HT.out (i := j) (by omega) _ H.out.1
   rw [e2] at n1
   have N1 := qh n1
   have HTK := qh htk
   clear n1 e1 e2 htk
   go_wp2_with fail
   ((with_reducible refine (N1.out).mono ?_); rintro e w3 ⟨rfl, hb⟩)
   have hw3 := Nat.le_trans H.out.2.size hb.size
   have HB9 := qh (Blk.new w3 40 #[.int .u8 k8, .complex .f64 (fl s1) (fl s2), .complex .f64 (fl q3) (fl q4), .string t8, .int .i64 n8])
   have H := qh ((H.out.below hb).alloc (.cells #[.int .u8 k8, .complex .f64 (fl s1) (fl s2), .complex .f64 (fl q3) (fl q4), .string t8, .int .i64 n8] 40))
   have hba : Below w3.heap.size w3 (w3.alloc (.cells #[.int .u8 k8, .complex .f64 (fl s1) (fl s2), .complex .f64 (fl q3) (fl q4), .string t8, .int .i64 n8] 40)) := (Below.refl _ _).alloc (Nat.le_refl _) _
   have HX := qh ((HX.out.below hb).below hba)
   have HV := qh ((HV.out.below hb).below hba)
   clear hb hba N1
   go_wp2_with fail
   go_loopw [8, 9] (fun xv tv wr => ∃ (x : T1) (bx b9 j f : Nat), xv = .pointer (some ⟨bx, 0, none⟩) ∧ tv = .pointer (some ⟨b9, 0, none⟩) ∧ br < b9 ∧ lo ≤ j ∧ j ≤ L.length ∧ L.length < j + f ∧ Hid (PG w0 w wr br A c L j) ∧ Hid (RepS (fun y => w.heap.size ≤ y) wr (.node x.1 x.2 .no) [.pointer (some ⟨bx, 0, none⟩)]) ∧ Hid (Lv wr bl bs m0 m1 m2 b2 b3 br) ∧ Hid (Blk wr b9 40 (PT.vals (tk L j)).toArray) ∧ Hid (res = binsP L (levD L fac 2) 0 f x j)) (fun _ _ wr => L.length + 1 - atW wr br)
   case atStart => exact ⟨x, bx, w3.heap.size, j, L.length + 1, rfl, rfl, by omega, by omega, by omega, by omega, H, HX, HV, qh (by rw [HTK.out]; exact HB9.out), HS2⟩
   case round =>
    clear H HX HV HB9 HTK HS2 hj v1 v2 v3 v4 v5 v6 l1 l2 l3 l4
    obtain ⟨x, bx, b9, j, f, rfl, rfl, hb9, hjl, hj, hf, H, HX, HV, HB9, HS2⟩ := hrel
    obtain ⟨wo, rfl⟩ : ∃ wo : World, wo = wr := ⟨_, rfl⟩
    obtain ⟨v1, v2, v3, v4, v5, v6⟩ := HV.out.facts
    obtain ⟨l1, l2, l3, l4⟩ := HV.out.lts
    have HW := qh H.out.1.atW
    obtain ⟨f, rfl⟩ : ∃ f', f = f' + 1 := ⟨f - 1, by omega⟩
    have HS3 := qh (HS2.out.trans (binsP_succ L _ 0 f x j))
    obtain ⟨k8, s1, s2, q3, q4, t8, n8, e1, e2⟩ := val_form (tk L j)
    have HTK := qh e1
    have hps : pos L j = (s1, s2) := by unfold pos; rw [e1]
    have htx : (tk L j).1.text = t8 := by rw [e1]
    rw [hps, htx] at HS3
    have HB9 := qh (show Blk wo b9 40 #[.int .u8 k8, .complex .f64 (fl s1) (fl s2), .complex .f64 (fl q3) (fl q4), .string t8, .int .i64 n8] by have := HB9.out; rw [e1] at this; exact this)
    obtain ⟨c0, c1, c2, c3, c4, f0, f1, f2, f3, f4⟩ := HB9.out.tok
    have HOP := qh (show isOp L j 0 = ((decide (k8 = 5) || decide (k8 = 6)) && (ops 0).any (fun s => decide (s = t8))) by unfold isOp isSW; rw [e1])
    have hlk := fun n => look_op (W := wo.drewN n) (k := 0) (m := m0) HV.out.e0 t8
    have k5 : ((k8 : Int) == 5) = decide (k8 = 5) := by rw [Bool.eq_iff_iff, beq_iff_eq, decide_eq_true_eq]; omega
    have k6 : ((k8 : Int) == 6) = decide (k8 = 6) := by rw [Bool.eq_iff_iff, beq_iff_eq, decide_eq_true_eq]; omega
    clear e1 e2 hps htx HS2
    generalize (ops 0).any (fun s => decide (s = t8)) = bo at *
    generalize decide (k8 = 5) = b5 at *
    generalize decide (k8 = 6) = b6 at *
    rcases b5 with _ | _ <;> rcases b6 with _ | _ <;> rcases bo with _ | _
    all_goals
     go_wp2
     go_quiet (fail)
     have hbd : Below wo.heap.size wo (wo.drewN nq) := Lx.below_drewN (Below.refl _ _) nq
     have H := qh (H.out.below hbd)
     have HX := qh (HX.out.below hbd)
     have HV := qh (HV.out.below hbd)
     have HB9 := qh (HB9.out.drewN nq)
     have hnz : (wo.drewN nq).heap.size = wo.heap.size := rfl
     clear hbd hlk v1 v2 v3 v4 v5 v6 l1 l2 l3 l4 c0 c1 c2 c3 c4 f0 f1 f2 f3 f4
     generalize wo.drewN nq = wd at *
     first
      | (have hop : isOp L j 0 = false := HOP.out
         have HS := qh (HS3.out.trans (if_neg (by rw [hop]; simp)))
         clear HS3 hop HOP
         go_wp2
         go_ret
         rw [HS.out]
         exact ⟨bx, rfl, H.out.1, H.out.2, HX.out⟩)
      | (have hop : isOp L j 0 = true := HOP.out
         have hjlt := isOp_lt hop
         have HS4 := qh (HS3.out.trans (if_pos hop))
         clear HS3 hop HOP
         obtain ⟨v1, v2, v3, v4, v5, v6⟩ := HV.out.facts
         obtain ⟨a1, a2, a3⟩ := H.out.1.at_
         have x0 : (0 : Int) ≤ (j : Int) := by omega
         have hgs := Lx.grown_set wd br 1 (.int .i64 ((j + 1 : Nat) : Int))
         have H := qh (H.out.set_ (j + 1))
         have HX := qh (repS_grown HX.out hgs hbr0)
         have HV := qh (HV.out.grown hgs)
         have HB9 := qh (HB9.out.far (p := ⟨br, 1, none⟩) (Nat.ne_of_gt hb9) (.int .i64 ((j + 1 : Nat) : Int)))
         rw [show (((j + 1 : Nat) : Int)) = (j : Int) + 1 from by omega] at H HX HV HB9
         clear hgs hnz
         go_wp2
         generalize wd.setCell ⟨br, 1, none⟩ (.int .i64 ((j : Int) + 1)) = we at *
         clear v1 v2 v3 v4 v5 v6 a1 a2 a3
         obtain ⟨v1, v2, v3, v4, v5, v6⟩ := HV.out.facts
         obtain ⟨c0, c1, c2, c3, c4, f0, f1, f2, f3, f4⟩ := HB9.out.tok
         have hbd1 : Below we.heap.size we we.drew := (Below.refl _ _).drew
         have H := qh (H.out.below hbd1)
         have HX := qh (HX.out.below hbd1)
         have HV := qh (HV.out.below hbd1)
         have HB9 := qh (HB9.out.below hbd1 HB9.out.lt)
         have d2 := HSUB.out (j + 1) (by omega) (by omega) we.drew H.out.1 HV.out
         have hb3 : br < b3 := HV.out.ne.2.2.2.2.2.2
         have HD0 : we.drew.cell? ⟨b9, 1, none⟩ = some (.complex .f64 (fl s1) (fl s2)) ∧ we.drew.cell? ⟨b9, 3, none⟩ = some (.string t8) ∧ we.drew.cell? ⟨b3, 0, none⟩ = some (.func (.func 141) #[] #[.pointer (some ⟨bl, 0, none⟩), .pointer (some ⟨b2, 0, none⟩), .pointer (some ⟨b3, 0, none⟩)]) := ⟨c1, c3, v6⟩
         clear hbd1 c0 c1 c2 c3 c4 f0 f1 f2 f3 f4 v1 v2 v3 v4 v5 v6
         have hwr : IntKind.i64.wrap 1 = 1 := IntWalk.i64_in _ (by omega)
         cases hy : levD L fac 2 (j + 1) with
         | error e0 =>
           rw [hy] at d2
           have HS := qh (show res = .error e0 by rw [HS4.out, hy])
           have D2 := qh (d2.mono (R' := fun e w' => (∃ b, e = .returned (.pointer (some ⟨b, 0, none⟩)) ∧ Hid False ∧ we.drew.grownBy w' (some br)) ∨ (e = bad e0 ∧ we.drew.grownBy w' (some br))) fun e w' h => .inr h)
           clear d2 hy HS4
           go_region_held_law (fun w' => w'.cell? ⟨b9, 1, none⟩ = some (.complex .f64 (fl s1) (fl s2)) ∧ w'.cell? ⟨b9, 3, none⟩ = some (.string t8) ∧ w'.cell? ⟨b3, 0, none⟩ = some (.func (.func 141) #[] #[.pointer (some ⟨bl, 0, none⟩), .pointer (some ⟨b2, 0, none⟩), .pointer (some ⟨b3, 0, none⟩)]))
            ((first | (with_reducible exact HD0) | (with_reducible assumption) | (exact hF.out.elim)))
            ((first | (go_at_call 141; (with_reducible refine D2.out.mono ?_); rintro e wg (⟨by_, rfl, hF, hg⟩ | ⟨rfl, hb⟩); case' inr => exact ⟨rfl, by rw [HS.out]; exact ⟨rfl, grown_trans H.out.2 hb⟩⟩) | (go_at_call 33; refine Calls.mono (R := fun e w' => e = .returned (.pointer none) ∧ Below 0 w' w') hF.out.elim ?_; rintro e wh ⟨rfl, hb⟩)))
           exact hF.out.elim
         | ok r =>
           obtain ⟨y, j2⟩ := r
           rw [hy] at d2
           have hj2 := HM.out _ _ _ hy
           have HS5 := qh (show res = .ok (mk 11 (s1, s2) t8 0 [x, y], j2) by rw [HS4.out, hy]; rfl)
           have D2 := qh d2
           clear d2 hy HS4
           go_region_held3 (fun w' => w'.cell? ⟨b9, 1, none⟩ = some (.complex .f64 (fl s1) (fl s2)) ∧ w'.cell? ⟨b9, 3, none⟩ = some (.string t8) ∧ w'.cell? ⟨b3, 0, none⟩ = some (.func (.func 141) #[] #[.pointer (some ⟨bl, 0, none⟩), .pointer (some ⟨b2, 0, none⟩), .pointer (some ⟨b3, 0, none⟩)]))
            ((first | (with_reducible exact HD0) | (with_reducible assumption) | exact held_grown HD0 (by assumption) hb9 hb3 | (exact held_grown (br := br) (by assumption) (grown_of_below ((Below.refl _ _).alloc (Nat.le_refl _) _) _) hb9 hb3) | (exact held_grown (br := br) (by assumption) (grown_of_below (by assumption) _) hb9 hb3)))
            ((first
              | (go_at_call 141; (with_reducible refine D2.out.mono ?_); rintro e wg ⟨by_, rfl, hp, hg, hr⟩)
              | (go_at_call 33; (with_reducible refine (new_at (B := w.heap.size) (by have := H.out.2.size; have := hg.size; rw [World.size_alloc]; omega) 11 11 rfl s1 s2 t8 0 (some ⟨wg.heap.size, 0, none⟩) 2 2 [.pointer (some ⟨bx, 0, none⟩), .pointer (some ⟨by_, 0, none⟩)] (.node x.1 x.2 (.node y.1 y.2 .no)) rfl (by omega) (reads_lit wg #[.pointer (some ⟨bx, 0, none⟩), .pointer (some ⟨by_, 0, none⟩)] _) (kids2 (repS_grown HX.out hg hbr0) (hr.more (S' := fun y => w.heap.size ≤ y) fun y hy _ => Nat.le_trans H.out.2.size hy) _)).mono ?_); rintro e wh ⟨b, rfl, hb, hr2⟩)))
           clear HD0 hwr D2
           have H2 := qh (((H.out.trans ⟨hp, hg⟩).alloc (.cells #[.pointer (some ⟨bx, 0, none⟩), .pointer (some ⟨by_, 0, none⟩)] 31)).below hb)
           have hba : Below wg.heap.size wg (wg.alloc (.cells #[.pointer (some ⟨bx, 0, none⟩), .pointer (some ⟨by_, 0, none⟩)] 31)) := (Below.refl _ _).alloc (Nat.le_refl _) _
           have HX := qh hr2
           have HV := qh (((HV.out.grown hg).below hba).below hb)
           have HB9 := qh (((HB9.out.grown hg (fun e => by injection e with e; omega)).below hba (Nat.lt_of_lt_of_le HB9.out.lt hg.size)).below hb (by rw [World.size_alloc]; exact Nat.lt_succ_of_lt (Nat.lt_of_lt_of_le HB9.out.lt hg.size)))
           clear hp hg hr hb hr2 hba H
           have HS6 := HS5
           go_wp2
           go_ret
           rw [HS6.out]
           exact ⟨b, rfl, H2.out.1, H2.out.2, HX.out⟩)
theorem lev1_any {fac : Nat → Except Nat (T1 × Nat)} {lo : Nat} {w0 : World} {br c : Nat} {A : Option Addr} {L : List PT} {bl bs m0 m1 m2 b2 b3 : Nat} (ht : Toks w0 br A L) (hm : SpOK L fac)
 (hS : ∀ j, lo ≤ j → j ≤ 60000 → ∀ w, PInv w0 w br A c L j → Lv w bl bs m0 m1 m2 b2 b3 br → Calls Tryz.prog 141 #[.int .i64 2, .pointer (some ⟨bl, 0, none⟩), .pointer (some ⟨b2, 0, none⟩), .pointer (some ⟨b3, 0, none⟩)] w (TreeR w.heap.size w0 w br A c L (levD L fac 1 j)))
 (i : Nat) (hlo : lo ≤ i) (hi : i ≤ 60000) (w : World) (h : PInv w0 w br A c L i) (hv : Lv w bl bs m0 m1 m2 b2 b3 br) :
 Calls Tryz.prog 141 #[.int .i64 1, .pointer (some ⟨bl, 0, none⟩), .pointer (some ⟨b2, 0, none⟩), .pointer (some ⟨b3, 0, none⟩)] w (TreeR w.heap.size w0 w br A c L (levD L fac 2 i)) := by
 have hbr0 := h.row.lt
 have hlen := ht.len
 have H := qh (PG.start h)
 have HT := qh ht
 have HM := qh (levD_ok hm 1)
 have HSUB := qh hS
 have HV := qh hv
 obtain ⟨v1, v2, v3, v4, v5, v6⟩ := hv.facts
 obtain ⟨l1, l2, l3, l4⟩ := hv.lts
 obtain ⟨k9, p1, p2, q1, q2, t9, n9, e1, e2⟩ := val_form (tk L i)
 have hp : pos L i = (p1, p2) := by unfold pos; rw [e1]
 have htx : (tk L i).1.text = t9 := by rw [e1]
 have n1 := now_any ht (by omega) w h
 rw [e2] at n1
 have N1 := qh n1
 have HS0 := qh (show levD L fac 2 i = (match levD L fac 1 (if signed L i 1 = true then i + 1 else i) with
  | .error e => .error e
  | .ok (x, j) => binsP L (levD L fac 1) 1 (L.length + 1) (if signed L i 1 = true then mk 12 (p1, p2) t9 0 [x] else x) j) by rw [← hp, ← htx]; rfl)
 clear hS h ht hm hv n1 e1 e2 hp htx
 generalize levD L fac 2 i = res at *
 go_enter Tryz.func141, Tryz.ntmps141
 go_wp2_with fail
 ((with_reducible refine (N1.out).mono ?_); rintro e w1 ⟨rfl, hb⟩)
 have H := qh ((H.out.below hb).alloc (.cells #[.int .u8 k9, .complex .f64 (fl p1) (fl p2), .complex .f64 (fl q1) (fl q2), .string t9, .int .i64 n9] 40))
 have HV1 := HV.out.below hb
 have hw1 := hb.size
 have HB6 := qh (Blk.new w1 40 #[.int .u8 k9, .complex .f64 (fl p1) (fl p2), .complex .f64 (fl q1) (fl q2), .string t9, .int .i64 n9])
 have HV := qh (HV1.below ((Below.refl _ _).alloc (Nat.le_refl _) (.cells #[.int .u8 k9, .complex .f64 (fl p1) (fl p2), .complex .f64 (fl q1) (fl q2), .string t9, .int .i64 n9] 40)))
 clear hb N1 v1 v2 v3 v4 v5 v6 l1 l2 l3 l4
 obtain ⟨v1, v2, v3, v4, v5, v6⟩ := HV1.facts
 obtain ⟨l1, l2, l3, l4⟩ := HV1.lts
 clear HV1
 go_upto_region 4 with fail
 clear v1 v2 v3 v4 v5 v6 l1 l2 l3 l4
 generalize hb6 : w1.heap.size = b6 at *
 generalize w1.alloc (.cells #[.int .u8 k9, .complex .f64 (fl p1) (fl p2), .complex .f64 (fl q1) (fl q2), .string t9, .int .i64 n9] 40) = w4 at *
 obtain ⟨v1, v2, v3, v4, v5, v6⟩ := HV.out.facts
 obtain ⟨l1, l2, l3, l4⟩ := HV.out.lts
 go_cut [7] (fun v7 wc => ∃ sg : Bool, v7 = .bool sg ∧ Hid (signed L i 1 = sg ∧ PG w0 w wc br A c L (if sg = true then i + 1 else i) ∧ Lv wc bl bs m0 m1 m2 b2 b3 br ∧ Blk wc b6 40 #[.int .u8 k9, .complex .f64 (fl p1) (fl p2), .complex .f64 (fl q1) (fl q2), .string t9, .int .i64 n9] ∧ (if sg = true then i + 1 else i) ≤ 60000))
 case first =>
  cases hP : isT L i sPlu with
  | true =>
    have hil := isT_lt hP
    have EY := qh (eat_yes HT.out (by omega) sPlu _ H.out.1 hP)
    go_wp2_with fail
    ((with_reducible refine EY.out.mono ?_); rintro e w5 ⟨rfl, hb⟩)
    have H := qh (H.out.trans hb)
    have HV := qh (HV.out.grown hb.2)
    have HB6 := qh (HB6.out.grown hb.2 (fun e => by injection e with e; omega))
    clear hb EY v1 v2 v3 v4 v5 v6 l1 l2 l3 l4
    obtain ⟨v1, v2, v3, v4, v5, v6⟩ := HV.out.facts
    obtain ⟨l1, l2, l3, l4⟩ := HV.out.lts
    go_wp2_with fail
    go_meet
    exact ⟨true, rfl, qh ⟨by unfold signed; rw [hP]; rfl, H.out, HV.out, HB6.out, by show i + 1 ≤ 60000; omega⟩⟩
  | false =>
    have EY := qh (eat_no HT.out (by omega) sPlu _ H.out.1 hP)
    go_wp2_with fail
    ((with_reducible refine EY.out.mono ?_); rintro e w5 ⟨rfl, hb⟩)
    have H := qh (H.out.trans hb)
    have HV := qh (HV.out.grown hb.2)
    have HB6 := qh (HB6.out.grown hb.2 (fun e => by injection e with e; omega))
    clear hb EY v1 v2 v3 v4 v5 v6 l1 l2 l3 l4
    obtain ⟨v1, v2, v3, v4, v5, v6⟩ := HV.out.facts
    obtain ⟨l1, l2, l3, l4⟩ := HV.out.lts
    cases hM : isT L i sMin with
    | true =>
      have hil := isT_lt hM
      have EY := qh (eat_yes HT.out (by omega) sMin _ H.out.1 hM)
      go_wp2_with fail
      ((with_reducible refine EY.out.mono ?_); rintro e w5 ⟨rfl, hb⟩)
      have H := qh (H.out.trans hb)
      have HV := qh (HV.out.grown hb.2)
      have HB6 := qh (HB6.out.grown hb.2 (fun e => by injection e with e; omega))
      clear hb EY v1 v2 v3 v4 v5 v6 l1 l2 l3 l4
      obtain ⟨v1, v2, v3, v4, v5, v6⟩ := HV.out.facts
      obtain ⟨l1, l2, l3, l4⟩ := HV.out.lts
      go_wp2_with fail
      go_meet
      exact ⟨true, rfl, qh ⟨by unfold signed; rw [hP, hM]; rfl, H.out, HV.out, HB6.out, by show i + 1 ≤ 60000; omega⟩⟩
    | false =>
      have EY := qh (eat_no HT.out (by omega) sMin _ H.out.1 hM)
      go_wp2_with fail
      ((with_reducible refine EY.out.mono ?_); rintro e w5 ⟨rfl, hb⟩)
      have H := qh (H.out.trans hb)
      have HV := qh (HV.out.grown hb.2)
      have HB6 := qh (HB6.out.grown hb.2 (fun e => by injection e with e; omega))
      clear hb EY v1 v2 v3 v4 v5 v6 l1 l2 l3 l4
      obtain ⟨v1, v2, v3, v4, v5, v6⟩ := HV.out.facts
      obtain ⟨l1, l2, l3, l4⟩ := HV.out.lts
      go_wp2_with fail
      go_meet
      exact ⟨false, rfl, qh ⟨by unfold signed; rw [hP, hM]; rfl, H.out, HV.out, HB6.out, hi⟩⟩
 case rest =>
  obtain ⟨sg, rfl, hc⟩ := hcut
  obtain ⟨hsg, hc1, hc2, hc3, hi6⟩ := hc.out
  clear H HV HB6 hc v1 v2 v3 v4 v5 v6 l1 l2 l3 l4
  have H := qh hc1
  have HV := qh hc2
  have HB6 := qh hc3
  clear hc1 hc2 hc3
  rw [hsg] at HS0
  have hlo2 : lo ≤ (if sg = true then i + 1 else i) := by split <;> omega
  generalize (if sg = true then i + 1 else i) = i6 at *
  have HS1 := HS0
  clear HS0 hsg
  obtain ⟨v1, v2, v3, v4, v5, v6⟩ := HV.out.facts
  obtain ⟨l1, l2, l3, l4⟩ := HV.out.lts
  have d1 := HSUB.out i6 hlo2 hi6 _ H.out.1 HV.out
  go_wp2_with fail
  cases hx : levD L fac 1 i6 with
  | error k =>
    rw [hx] at d1
    have HS := qh (show res = .error k by rw [HS1.out, hx])
    have D1 := qh d1
    clear d1 hx HS1
    ((with_reducible refine (D1.out).mono ?_); rintro e w1 ⟨rfl, hb⟩)
    have H3 := qh (grown_trans H.out.2 hb)
    clear hb
    go_wp2
    refine ⟨rfl, ?_⟩
    rw [HS.out]
    exact ⟨rfl, H3.out⟩
  | ok r =>
    obtain ⟨x, j⟩ := r
    rw [hx] at d1
    have hj := HM.out _ _ _ hx
    have HS2 := qh (show res = binsP L (levD L fac 1) 1 (L.length + 1) (if sg = true then mk 12 (p1, p2) t9 0 [x] else x) j by rw [HS1.out, hx])
    have D1 := qh d1
    clear d1 hx HS1
    ((with_reducible refine D1.out.mono ?_); rintro e w2 ⟨bx, rfl, hp, hg, hr⟩)
    have HX := qh (hr.more (S' := fun y => w.heap.size ≤ y) fun y hy _ => Nat.le_trans H.out.2.size hy)
    have H := qh (H.out.trans ⟨hp, hg⟩)
    have HV := qh (HV.out.grown hg)
    have HB6 := qh (HB6.out.grown hg (fun e => by injection e with e; omega))
    clear hp hg hr D1 v1 v2 v3 v4 v5 v6 l1 l2 l3 l4
    go_upto_if 32 with fail
    go_cut [8] (fun v8 wd => ∃ b8, v8 = .pointer (some ⟨b8, 0, none⟩) ∧ Hid (PG w0 w wd br A c L j ∧ RepS (fun y => w.heap.size ≤ y) wd (.node (if sg = true then mk 12 (p1, p2) t9 0 [x] else x).1 (if sg = true then mk 12 (p1, p2) t9 0 [x] else x).2 .no) [.pointer (some ⟨b8, 0, none⟩)] ∧ Lv wd bl bs m0 m1 m2 b2 b3 br))
    case first =>
     cases sg with
     | true =>
       obtain ⟨c0, c1, c2, c3, c4, f0, f1, f2, f3, f4⟩ := HB6.out.tok
       have NW := qh (new_at (B := w.heap.size) (w := w2.alloc (.cells #[.pointer (some ⟨bx, 0, none⟩)] 31)) (by have := H.out.2.size; rw [World.size_alloc]; omega) 12 12 rfl p1 p2 t9 0 (some ⟨w2.heap.size, 0, none⟩) 1 1 [.pointer (some ⟨bx, 0, none⟩)] (.node x.1 x.2 .no) rfl (by omega) (reads_lit w2 #[.pointer (some ⟨bx, 0, none⟩)] _) (kids1 HX.out _))
       go_wp2_with fail
       ((with_reducible refine NW.out.mono ?_); rintro e w4 ⟨b, rfl, hb, hr⟩)
       have H := qh ((H.out.alloc _).below hb)
       have HV := qh ((HV.out.below ((Below.refl _ _).alloc (Nat.le_refl _) (.cells #[.pointer (some ⟨bx, 0, none⟩)] 31))).below hb)
       have HX := qh hr
       clear hb hr NW c0 c1 c2 c3 c4 f0 f1 f2 f3 f4
       go_wp2_with fail
       go_meet
       exact ⟨b, rfl, qh ⟨H.out, HX.out, HV.out⟩⟩
     | false =>
       go_wp2_with fail
       go_meet
       exact ⟨bx, rfl, qh ⟨H.out, HX.out, HV.out⟩⟩
    case rest =>
     obtain ⟨b8, rfl, hc⟩ := hcut
     obtain ⟨hc1, hc2, hc3⟩ := hc.out
     clear H HV HX hc HB6
     have H := qh hc1
     have HX := qh hc2
     have HV := qh hc3
     clear hc1 hc2 hc3
     generalize (if sg = true then mk 12 (p1, p2) t9 0 [x] else x) = x at *
     obtain ⟨v1, v2, v3, v4, v5, v6⟩ := HV.out.facts
     obtain ⟨l1, l2, l3, l4⟩ := HV.out.lts
     obtain ⟨k8, s1, s2, q3, q4, t8, n8, e1, e2⟩ := val_form (tk L j)
     have htk : tk L j = (⟨k8, t8, n8⟩, (s1, s2), (q3, q4)) := e1
     have n1 := now_any HT.out (i := j) (by omega) _ H.out.1
     rw [e2] at n1
     have N1 := qh n1
     have HTK := qh htk
     clear n1 e1 e2 htk
     go_wp2_with fail
     ((with_reducible refine (N1.out).mono ?_); rintro e w3 ⟨rfl, hb⟩)
     have hw3 := Nat.le_trans H.out.2.size hb.size
     have HB9 := qh (Blk.new w3 40 #[.int .u8 k8, .complex .f64 (fl s1) (fl s2), .complex .f64 (fl q3) (fl q4), .string t8, .int .i64 n8])
     have H := qh ((H.out.below hb).alloc (.cells #[.int .u8 k8, .complex .f64 (fl s1) (fl s2), .complex .f64 (fl q3) (fl q4), .string t8, .int .i64 n8] 40))
     have hba : Below w3.heap.size w3 (w3.alloc (.cells #[.int .u8 k8, .complex .f64 (fl s1) (fl s2), .complex .f64 (fl q3) (fl q4), .string t8, .int .i64 n8] 40)) := (Below.refl _ _).alloc (Nat.le_refl _) _
     have HX := qh ((HX.out.below hb).below hba)
     have HV := qh ((HV.out.below hb).below hba)
     clear hb hba N1
     go_wp2_with fail
     go_loopw [8, 9] (fun xv tv wr => ∃ (x : T1) (bx b9 j f : Nat), xv = .pointer (some ⟨bx, 0, none⟩) ∧ tv = .pointer (some ⟨b9, 0, none⟩) ∧ br < b9 ∧ lo ≤ j ∧ j ≤ L.length ∧ L.length < j + f ∧ Hid (PG w0 w wr br A c L j) ∧ Hid (RepS (fun y => w.heap.size ≤ y) wr (.node x.1 x.2 .no) [.pointer (some ⟨bx, 0, none⟩)]) ∧ Hid (Lv wr bl bs m0 m1 m2 b2 b3 br) ∧ Hid (Blk wr b9 40 (PT.vals (tk L j)).toArray) ∧ Hid (res = binsP L (levD L fac 1) 1 f x j)) (fun _ _ wr => L.length + 1 - atW wr br)
     case atStart => exact ⟨x, b8, w3.heap.size, j, L.length + 1, rfl, rfl, by omega, by omega, by omega, by omega, H, HX, HV, qh (by rw [HTK.out]; exact HB9.out), HS2⟩
     case round =>
      clear H HX HV HB9 HTK HS2 hj v1 v2 v3 v4 v5 v6 l1 l2 l3 l4
      obtain ⟨x, bx, b9, j, f, rfl, rfl, hb9, hjl, hj, hf, H, HX, HV, HB9, HS2⟩ := hrel
      obtain ⟨wo, rfl⟩ : ∃ wo : World, wo = wr := ⟨_, rfl⟩
      obtain ⟨v1, v2, v3, v4, v5, v6⟩ := HV.out.facts
      obtain ⟨l1, l2, l3, l4⟩ := HV.out.lts
      have HW := qh H.out.1.atW
      obtain ⟨f, rfl⟩ : ∃ f', f = f' + 1 := ⟨f - 1, by omega⟩
      have HS3 := qh (HS2.out.trans (binsP_succ L _ 1 f x j))
      obtain ⟨k8, s1, s2, q3, q4, t8, n8, e1, e2⟩ := val_form (tk L j)
      have HTK := qh e1
      have hps : pos L j = (s1, s2) := by unfold pos; rw [e1]
      have htx : (tk L j).1.text = t8 := by rw [e1]
      rw [hps, htx] at HS3
      have HB9 := qh (show Blk wo b9 40 #[.int .u8 k8, .complex .f64 (fl s1) (fl s2), .complex .f64 (fl q3) (fl q4), .string t8, .int .i64 n8] by have := HB9.out; rw [e1] at this; exact this)
      obtain ⟨c0, c1, c2, c3, c4, f0, f1, f2, f3, f4⟩ := HB9.out.tok
      have HOP := qh (show isOp L j 1 = ((decide (k8 = 5) || decide (k8 = 6)) && (ops 1).any (fun s => decide (s = t8))) by unfold isOp isSW; rw [e1])
      have hlk := fun n => look_op (W := wo.drewN n) (k := 1) (m := m1) HV.out.e1 t8
      have k5 : ((k8 : Int) == 5) = decide (k8 = 5) := by rw [Bool.eq_iff_iff, beq_iff_eq, decide_eq_true_eq]; omega
      have k6 : ((k8 : Int) == 6) = decide (k8 = 6) := by rw [Bool.eq_iff_iff, beq_iff_eq, decide_eq_true_eq]; omega
      clear e1 e2 hps htx HS2
      generalize (ops 1).any (fun s => decide (s = t8)) = bo at *
      generalize decide (k8 = 5) = b5 at *
      generalize decide (k8 = 6) = b6 at *
      rcases b5 with _ | _ <;> rcases b6 with _ | _ <;> rcases bo with _ | _
      all_goals
       go_wp2
       go_quiet (fail)
       have hbd : Below wo.heap.size wo (wo.drewN nq) := Lx.below_drewN (Below.refl _ _) nq
       have H := qh (H.out.below hbd)
       have HX := qh (HX.out.below hbd)
       have HV := qh (HV.out.below hbd)
       have HB9 := qh (HB9.out.drewN nq)
       have hnz : (wo.drewN nq).heap.size = wo.heap.size := rfl
       clear hbd hlk v1 v2 v3 v4 v5 v6 l1 l2 l3 l4 c0 c1 c2 c3 c4 f0 f1 f2 f3 f4
       generalize wo.drewN nq = wd at *
       first
        | (have hop : isOp L j 1 = false := HOP.out
           have HS := qh (HS3.out.trans (if_neg (by rw [hop]; simp)))
           clear HS3 hop HOP
           go_wp2
           go_ret
           rw [HS.out]
           exact ⟨bx, rfl, H.out.1, H.out.2, HX.out⟩)
        | (have hop : isOp L j 1 = true := HOP.out
           have hjlt := isOp_lt hop
           have HS4 := qh (HS3.out.trans (if_pos hop))
           clear HS3 hop HOP
           obtain ⟨v1, v2, v3, v4, v5, v6⟩ := HV.out.facts
           obtain ⟨a1, a2, a3⟩ := H.out.1.at_
           have x0 : (0 : Int) ≤ (j : Int) := by omega
           have hgs := Lx.grown_set wd br 1 (.int .i64 ((j + 1 : Nat) : Int))
           have H := qh (H.out.set_ (j + 1))
           have HX := qh (repS_grown HX.out hgs hbr0)
           have HV := qh (HV.out.grown hgs)
           have HB9 := qh (HB9.out.far (p := ⟨br, 1, none⟩) (Nat.ne_of_gt hb9) (.int .i64 ((j + 1 : Nat) : Int)))
           rw [show (((j + 1 : Nat) : Int)) = (j : Int) + 1 from by omega] at H HX HV HB9
           clear hgs hnz
           go_wp2
           generalize wd.setCell ⟨br, 1, none⟩ (.int .i64 ((j : Int) + 1)) = we at *
           clear v1 v2 v3 v4 v5 v6 a1 a2 a3
           obtain ⟨v1, v2, v3, v4, v5, v6⟩ := HV.out.facts
           obtain ⟨c0, c1, c2, c3, c4, f0, f1, f2, f3, f4⟩ := HB9.out.tok
           have hbd1 : Below we.heap.size we we.drew := (Below.refl _ _).drew
           have H := qh (H.out.below hbd1)
           have HX := qh (HX.out.below hbd1)
           have HV := qh (HV.out.below hbd1)
           have HB9 := qh (HB9.out.below hbd1 HB9.out.lt)
           have d2 := HSUB.out (j + 1) (by omega) (by omega) we.drew H.out.1 HV.out
           have hb3 : br < b3 := HV.out.ne.2.2.2.2.2.2
           have HD0 : we.drew.cell? ⟨b9, 1, none⟩ = some (.complex .f64 (fl s1) (fl s2)) ∧ we.drew.cell? ⟨b9, 3, none⟩ = some (.string t8) ∧ we.drew.cell? ⟨b3, 0, none⟩ = some (.func (.func 141) #[] #[.pointer (some ⟨bl, 0, none⟩), .pointer (some ⟨b2, 0, none⟩), .pointer (some ⟨b3, 0, none⟩)]) := ⟨c1, c3, v6⟩
           clear hbd1 c0 c1 c2 c3 c4 f0 f1 f2 f3 f4 v1 v2 v3 v4 v5 v6
           have hwr : IntKind.i64.wrap 2 = 2 := IntWalk.i64_in _ (by omega)
           cases hy : levD L fac 1 (j + 1) with
           | error e0 =>
             rw [hy] at d2
             have HS := qh (show res = .error e0 by rw [HS4.out, hy])
             have D2 := qh (d2.mono (R' := fun e w' => (∃ b, e = .returned (.pointer (some ⟨b, 0, none⟩)) ∧ Hid False ∧ we.drew.grownBy w' (some br)) ∨ (e = bad e0 ∧ we.drew.grownBy w' (some br))) fun e w' h => .inr h)
             clear d2 hy HS4
             go_region_held_law (fun w' => w'.cell? ⟨b9, 1, none⟩ = some (.complex .f64 (fl s1) (fl s2)) ∧ w'.cell? ⟨b9, 3, none⟩ = some (.string t8) ∧ w'.cell? ⟨b3, 0, none⟩ = some (.func (.func 141) #[] #[.pointer (some ⟨bl, 0, none⟩), .pointer (some ⟨b2, 0, none⟩), .pointer (some ⟨b3, 0, none⟩)]))
              ((first | (with_reducible exact HD0) | (with_reducible assumption) | (exact hF.out.elim)))
              ((first | (go_at_call 141; (with_reducible refine D2.out.mono ?_); rintro e wg (⟨by_, rfl, hF, hg⟩ | ⟨rfl, hb⟩); case' inr => exact ⟨rfl, by rw [HS.out]; exact ⟨rfl, grown_trans H.out.2 hb⟩⟩) | (go_at_call 33; refine Calls.mono (R := fun e w' => e = .returned (.pointer none) ∧ Below 0 w' w') hF.out.elim ?_; rintro e wh ⟨rfl, hb⟩)))
             exact hF.out.elim
           | ok r =>
             obtain ⟨y, j2⟩ := r
             rw [hy] at d2
             have hj2 := HM.out _ _ _ hy
             have HS5 := qh (show res = if 1 = 0 then .ok (mk 11 (s1, s2) t8 0 [x, y], j2) else binsP L (levD L fac 1) 1 f (mk 11 (s1, s2) t8 0 [x, y]) j2 by rw [HS4.out, hy])
             have D2 := qh d2
             clear d2 hy HS4
             go_region_held3 (fun w' => w'.cell? ⟨b9, 1, none⟩ = some (.complex .f64 (fl s1) (fl s2)) ∧ w'.cell? ⟨b9, 3, none⟩ = some (.string t8) ∧ w'.cell? ⟨b3, 0, none⟩ = some (.func (.func 141) #[] #[.pointer (some ⟨bl, 0, none⟩), .pointer (some ⟨b2, 0, none⟩), .pointer (some ⟨b3, 0, none⟩)]))
              ((first | (with_reducible exact HD0) | (with_reducible assumption) | exact held_grown HD0 (by assumption) hb9 hb3 | (exact held_grown (br := br) (by assumption) (grown_of_below ((Below.refl _ _).alloc (Nat.le_refl _) _) _) hb9 hb3) | (exact held_grown (br := br) (by assumption) (grown_of_below (by assumption) _) hb9 hb3)))
              ((first
                | (go_at_call 141; (with_reducible refine D2.out.mono ?_); rintro e wg ⟨by_, rfl, hp, hg, hr⟩)
                | (go_at_call 33; (with_reducible refine (new_at (B := w.heap.size) (by have := H.out.2.size; have := hg.size; rw [World.size_alloc]; omega) 11 11 rfl s1 s2 t8 0 (some ⟨wg.heap.size, 0, none⟩) 2 2 [.pointer (some ⟨bx, 0, none⟩), .pointer (some ⟨by_, 0, none⟩)] (.node x.1 x.2 (.node y.1 y.2 .no)) rfl (by omega) (reads_lit wg #[.pointer (some ⟨bx, 0, none⟩), .pointer (some ⟨by_, 0, none⟩)] _) (kids2 (repS_grown HX.out hg hbr0) (hr.more (S' := fun y => w.heap.size ≤ y) fun y hy _ => Nat.le_trans H.out.2.size hy) _)).mono ?_); rintro e wh ⟨b, rfl, hb, hr2⟩)))
             clear HD0 hwr D2
             have H2 := qh (((H.out.trans ⟨hp, hg⟩).alloc (.cells #[.pointer (some ⟨bx, 0, none⟩), .pointer (some ⟨by_, 0, none⟩)] 31)).below hb)
             have hba : Below wg.heap.size wg (wg.alloc (.cells #[.pointer (some ⟨bx, 0, none⟩), .pointer (some ⟨by_, 0, none⟩)] 31)) := (Below.refl _ _).alloc (Nat.le_refl _) _
             have HX := qh hr2
             have HV := qh (((HV.out.grown hg).below hba).below hb)
             have HB9 := qh (((HB9.out.grown hg (fun e => by injection e with e; omega)).below hba (Nat.lt_of_lt_of_le HB9.out.lt hg.size)).below hb (by rw [World.size_alloc]; exact Nat.lt_succ_of_lt (Nat.lt_of_lt_of_le HB9.out.lt hg.size)))
             clear hp hg hr hb hr2 hba H
             have HS6 := qh (HS5.out.trans (if_neg (by omega)))
             obtain ⟨c0, c1, c2, c3, c4, f0, f1, f2, f3, f4⟩ := HB9.out.tok
             obtain ⟨v1, v2, v3, v4, v5, v6⟩ := HV.out.facts
             obtain ⟨l1, l2, l3, l4⟩ := HV.out.lts
             have hbz : Below wh.heap.size wh (wh.alloc (.cells #[.int .u8 k8, .complex .f64 (fl s1) (fl s2), .complex .f64 (fl q3) (fl q4), .string t8, .int .i64 n8] 40)) := (Below.refl _ _).alloc (Nat.le_refl _) _
             obtain ⟨k7, r1, r2, q5, q6, t7, n7, e1, e2⟩ := val_form (tk L j2)
             have n1 := now_any HT.out (i := j2) (by omega) _ (H2.out.1.below hbz)
             rw [e2] at n1
             have N1 := qh n1
             have HTK2 := qh e1
             have HBZ := qh hbz
             have HBN := qh (Blk.new wh 40 #[.int .u8 k8, .complex .f64 (fl s1) (fl s2), .complex .f64 (fl q3) (fl q4), .string t8, .int .i64 n8])
             have halz : wh.heap.size < (wh.alloc (.cells #[.int .u8 k8, .complex .f64 (fl s1) (fl s2), .complex .f64 (fl q3) (fl q4), .string t8, .int .i64 n8] 40)).heap.size := by rw [World.size_alloc]; exact Nat.lt_succ_self _
             clear n1 e1 e2 hbz
             go_wp2_with fail
             ((with_reducible refine (N1.out).mono ?_); rintro e wi ⟨rfl, hb⟩)
             have hpg := ((PG.start H2.out.1).below HBZ.out).below hb
             have hbn := HBN.out.below hb halz
             have HPG := qh (hpg.store5 H2.out.1 (Nat.le_refl _) (.int .u8 k7) (.complex .f64 (fl r1) (fl r2)) (.complex .f64 (fl q5) (fl q6)) (.string t7) (.int .i64 n7))
             have HBF := qh (Lx.tok_stored hbn (.int .u8 k7) (.complex .f64 (fl r1) (fl r2)) (.complex .f64 (fl q5) (fl q6)) (.string t7) (.int .i64 n7))
             obtain ⟨y0, y1, y2, y3, y4, g0, g1, g2, g3, g4⟩ := hbn.tok
             have hbrz := H2.out.1.row.lt
             clear hpg hbn hb c0 c1 c2 c3 c4 f0 f1 f2 f3 f4 v1 v2 v3 v4 v5 v6 l1 l2 l3 l4 N1 HBN HBZ halz
             go_wp2
             have HF := qh (H2.out.trans ⟨HPG.out.1, HPG.out.2⟩)
             go_roundw
             case rel => exact ⟨mk 11 (s1, s2) t8 0 [x, y], b, wh.heap.size, j2, f, rfl, rfl, by omega, by omega, by omega, by omega, HF, qh (repS_grown HX.out HPG.out.2 hbr0), qh (HV.out.grown HPG.out.2), qh (by rw [HTK2.out]; exact HBF.out), HS6⟩
             case measure => rw [HF.out.1.atW, HW.out]; omega)
end Go.Proofs.YtkemhmfdooghkaaGreatDoor.Ex
