import Derived.Test.YtkemhmfdooghkaaGreatDoorX20
set_option linter.unusedSimpArgs false
set_option linter.unusedVariables false
set_option maxRecDepth 100000
set_option maxHeartbeats 6400000
namespace Go.Proofs.YtkemhmfdooghkaaGreatDoor
namespace De
open Go.RowKit
open Tr (Nd Fo RepS RepN Rep cellsN)
open Lx (Tk noTk Blk run_store_complexL TokAt)
open Fl
open Ex
attribute [local go_sem] run_store_complexL run_field1 run_field3
structure PInv (w0 w : World) (br : Nat) (A : Option Addr) (c : Nat) (L : List PT) (i : Nat) : Prop where
 row : Blk w br 120 #[.slice A L.length c, .int .i64 i]
 grown : w0.grownBy w (some br)
section
variable {w0 w w' : World} {br c i i' j : Nat} {A : Option Addr} {L : List PT}
theorem PInv.below (h : PInv w0 w br A c L i) (hb : Below w.heap.size w w') : PInv w0 w' br A c L i :=
 ⟨h.row.below hb h.row.lt, grown_trans h.grown (grown_of_below hb _)⟩
theorem PInv.tok (h : PInv w0 w br A c L i) (ht : Toks w0 br A L) {k : Nat} (hk : k < L.length) : ∃ g off, A = some ⟨g, off, none⟩ ∧ ∀ j, j < 5 → w.cell? ⟨g, off + k * 5 + j, none⟩ = (PT.vals L[k])[j]? := by
 obtain ⟨⟨g, off, sp⟩, e, hlt, hc⟩ := ht.reads.2 (by omega)
 have hl := flatP_len L
 have hget : ∀ m, m < L.length * 5 → ∃ u, (flatP L)[m]? = some u := fun m hm => ⟨(flatP L)[m]'(by omega), List.getElem?_eq_getElem (by omega)⟩
 have hs : sp = none := by
  obtain ⟨u, hu⟩ := hget 0 (by omega)
  have := World.cell?_spot (hc 0 u hu)
  simpa [Addr.add] using this
 subst hs
 refine ⟨g, off, e, fun j hj => ?_⟩
 rw [← flatP_at L k j hk hj]
 obtain ⟨u, hu⟩ := hget (k * 5 + j) (by omega)
 rw [hu, ← hc _ u hu]
 have ha : (⟨g, off, none⟩ : Addr).add (k * 5 + j) = ⟨g, off + k * 5 + j, none⟩ := by unfold Addr.add; split <;> simp_all [Nat.add_assoc]
 rw [ha]
 have hne := ht.far _ e
 exact World.cell?_of_block (h.grown.block g hlt (fun e => hne (by simpa using e)))
end
theorem now_any {w0 : World} {br c i : Nat} {A : Option Addr} {L : List PT} (ht : Toks w0 br A L) (hi : i ≤ 1000000) (w : World) (h : PInv w0 w br A c L i) :
 Calls Tryz.prog 75 #[.pointer (some ⟨br, 0, none⟩)] w fun e w' => e = .returned (PT.val (tk L i)) ∧ Below w.heap.size w w' := by
 have hlen := ht.len
 have x0 : (0 : Int) ≤ (i : Int) := by omega
 have hbA : Below w.heap.size w (w.alloc zeroB) := (Below.refl w.heap.size w).alloc nl _
 have hP := h.below hbA
 have hB := Blk.new w 40 #[.int .u8 0, .complex .f64 0 0, .complex .f64 0 0, .string ⟨#[]⟩, .int .i64 0]
 have HBA := qh hbA
 have HB := qh hB
 have m0 := hP.row.cell 0
 have m1 := hP.row.cell 1
 simp only [List.getElem?_toArray, List.getElem?_cons_zero, List.getElem?_cons_succ] at m0 m1
 by_cases hlt : i < L.length
 ·obtain ⟨g, off, rfl, hc⟩ := hP.tok ht hlt
  have x1 : (i : Int) < (L.length : Int) := by omega
  have x2 : ¬ (i : Int) < 0 := by omega
  have HT := qh (show tk L i = L[i] by unfold tk; rw [List.getElem?_eq_getElem hlt]; rfl)
  obtain ⟨⟨⟨k, t, n⟩, ⟨p1, p2⟩, ⟨q1, q2⟩⟩, hL⟩ : ∃ t : PT, t = L[i] := ⟨_, rfl⟩
  rw [← hL] at hc HT
  have c0 := hc 0 (by omega)
  have c1 := hc 1 (by omega)
  have c2 := hc 2 (by omega)
  have c3 := hc 3 (by omega)
  have c4 := hc 4 (by omega)
  simp only [PT.vals, Lx.Tk.vals, Pl.C, List.getElem?_cons_zero, List.getElem?_cons_succ, Nat.add_zero] at c0 c1 c2 c3 c4
  have hIW : IntKind.i64.wrap (i : Int) = (i : Int) := IntWalk.i64_in _ (by omega)
  clear hc hL h ht hbA hB hP
  go_enter Tryz.func75, Tryz.ntmps75
  go_wp2
  generalize w.alloc zeroB = wa at *
  go_quiet (fail)
  go_wp2
  have m0' : (wa.drewN nq).cell? _ = _ := m0
  have m1' : (wa.drewN nq).cell? _ = _ := m1
  have c0' : (wa.drewN nq).cell? _ = _ := c0
  have c1' : (wa.drewN nq).cell? _ = _ := c1
  have c2' : (wa.drewN nq).cell? _ = _ := c2
  have c3' : (wa.drewN nq).cell? _ = _ := c3
  have c4' : (wa.drewN nq).cell? _ = _ := c4
  have HBA := qh (Lx.below_drewN HBA.out nq)
  have HB := qh (HB.out.drewN nq)
  clear m0 m1 c0 c1 c2 c3 c4
  generalize wa.drewN nq = wb at *
  go_still_tail 10, (by kernel_rfl)
  change wpList _ _ _ _ _ wb.drew
  have HBA := qh (Lx.below_drewN HBA.out 1)
  have HB := qh (HB.out.drewN 1)
  clear m0' m1' c0' c1' c2' c3' c4'
  rw [show wb.drewN 1 = wb.drew from rfl] at HBA HB
  generalize wb.drew = wc at *
  obtain ⟨z0, z1, z2, z3, z4, f0, f1, f2, f3, f4⟩ := HB.out.tok
  go_wp2
  refine bodyPost_ret (Lx.tok_ret1 rfl _ _ w.heap.size _ _ _ _ _ rfl (Lx.tok_stored HB.out _ _ _ _ _)) rfl ?_
  exact ⟨by rw [HT.out]; rfl, Lx.below_stored HBA.out nl _ _ _ _ _⟩
 ·have x1 : ¬ (i : Int) < (L.length : Int) := by omega
  have HT := qh (show tk L i = noPT by unfold tk; rw [List.getElem?_eq_none (by omega)]; rfl)
  clear h ht hB hP hbA
  go_enter Tryz.func75, Tryz.ntmps75
  go_wp2
  generalize w.alloc zeroB = wa at *
  go_quiet (fail)
  have HBA := qh (Lx.below_drewN HBA.out nq)
  have HB := qh (HB.out.drewN nq)
  clear m0 m1
  generalize wa.drewN nq = wb at *
  obtain ⟨z0, z1, z2, z3, z4, f0, f1, f2, f3, f4⟩ := HB.out.tok
  go_wp2
  refine bodyPost_ret (Lx.tok_ret1 rfl _ _ w.heap.size _ _ _ _ _ rfl (Lx.tok_stored HB.out _ _ _ _ _)) rfl ?_
  exact ⟨by rw [HT.out]; simp [PT.val, noPT, noTk, Lx.Tk.val, Lx.Tk.vals, Pl.C, fl_0], Lx.below_stored HBA.out nl _ _ _ _ _⟩
abbrev bad (k : Nat) : Ending := .panicked [{ v := .iface 121 (.int .i64 k), recovered := false }]
def TreeR (B : Nat) (w0 w : World) (br : Nat) (A : Option Addr) (c : Nat) (L : List PT) (r : Except Nat (T1 × Nat)) (e : Ending) (w' : World) : Prop := match r with
 | .ok (x, j) => ∃ b, e = .returned (.pointer (some ⟨b, 0, none⟩)) ∧ PInv w0 w' br A c L j ∧ w.grownBy w' (some br) ∧ RepS (fun y => B ≤ y) w' (.node x.1 x.2 .no) [.pointer (some ⟨b, 0, none⟩)]
 | .error k => e = bad k ∧ w.grownBy w' (some br)
section
variable {w0 w w' : World} {br c i i' j : Nat} {A : Option Addr} {L : List PT}
theorem PInv.at_ (h : PInv w0 w br A c L i) : w.cell? ⟨br, 1, none⟩ = some (.int .i64 i) ∧ w.frozen? ⟨br, 1, none⟩ = false ∧ br < w.heap.size := ⟨h.row.cell 1, h.row.frozen 1, h.row.lt⟩
theorem PInv.set_ (h : PInv w0 w br A c L i) (j : Nat) : PInv w0 (w.setCell ⟨br, 1, none⟩ (.int .i64 j)) br A c L j ∧ w.grownBy (w.setCell ⟨br, 1, none⟩ (.int .i64 j)) (some br) := by
 have hg := Lx.grown_set w br 1 (.int .i64 j)
 refine ⟨⟨?_, grown_trans h.grown hg⟩, hg⟩
 have := h.row.set_ 1 (.int .i64 j)
 simpa using this
structure PG (w0 w w1 : World) (br : Nat) (A : Option Addr) (c : Nat) (L : List PT) (i : Nat) : Prop where
 inv : PInv w0 w1 br A c L i
 since : w.grownBy w1 (some br)
theorem PG.far {w1 : World} (h : PG w0 w w1 br A c L i) (hw : PInv w0 w br A c L i') {b : Nat} (hb : w.heap.size ≤ b) (o : Nat) (u : Value) : PG w0 w (w1.setCell ⟨b, o, none⟩ u) br A c L i := by
 have hl := hw.row.lt
 have hs := hw.grown.size
 have hg := Lx.grown_set w1 b o u
 have hk : ∀ (a : World), a.heap.size ≤ b → a.grownBy w1 (some br) → a.grownBy (w1.setCell ⟨b, o, none⟩ u) (some br) := fun a ha h =>
  ⟨h.os, h.tape, h.output, by rw [World.size_setCell]; exact h.size, fun k hk hr => (hg.block k (Nat.lt_of_lt_of_le hk h.size) (fun e => by injection e with e; omega)).trans (h.block k hk hr)⟩
 exact ⟨⟨h.1.row.far (show br ≠ b by omega) u, hk w0 (by omega) h.1.grown⟩, hk w hb h.2⟩
theorem PG.below {w1 w2 : World} (h : PG w0 w w1 br A c L i) (hb : Below w1.heap.size w1 w2) : PG w0 w w2 br A c L i := ⟨h.1.below hb, grown_trans h.2 (grown_of_below hb _)⟩
theorem PG.set_ {w1 : World} (h : PG w0 w w1 br A c L i) (j : Nat) : PG w0 w (w1.setCell ⟨br, 1, none⟩ (.int .i64 j)) br A c L j := ⟨(h.1.set_ j).1, grown_trans h.2 (h.1.set_ j).2⟩
end
section
variable {w0 w w' : World} {br c i i' j : Nat} {A : Option Addr} {L : List PT}
theorem PG.store5 {w1 : World} (h : PG w0 w w1 br A c L i) (hw : PInv w0 w br A c L i') {b : Nat} (hb : w.heap.size ≤ b) (x0 x1 x2 x3 x4 : Value) :
 PG w0 w (((((w1.setCell ⟨b, 0, none⟩ x0).setCell ⟨b, 1, none⟩ x1).setCell ⟨b, 2, none⟩ x2).setCell ⟨b, 3, none⟩ x3).setCell ⟨b, 4, none⟩ x4) br A c L i :=
 ((((h.far hw hb _ _).far hw hb _ _).far hw hb _ _).far hw hb _ _).far hw hb _ _
end
section
variable {w0 w w1 w2 : World} {br c i j : Nat} {A : Option Addr} {L : List PT}
theorem PG.trans (h : PG w0 w w1 br A c L i) (h2 : PInv w0 w2 br A c L j ∧ w1.grownBy w2 (some br)) : PG w0 w w2 br A c L j := ⟨h2.1, grown_trans h.2 h2.2⟩
theorem PG.start (h : PInv w0 w br A c L i) : PG w0 w w br A c L i := ⟨h, ⟨rfl, rfl, rfl, Nat.le_refl _, fun _ _ _ => rfl⟩⟩
theorem PG.alloc (h : PG w0 w w1 br A c L i) (o : Obj) : PG w0 w (w1.alloc o) br A c L i := h.below ((Below.refl _ _).alloc nl _)
end
theorem PG.gfar {w0 w wr w1 : World} {br c i i' : Nat} {A : Option Addr} {L : List PT} {row : Option Nat} (h : PG w0 w wr br A c L i) (hw : PInv w0 w br A c L i') (hg : wr.grownBy w1 row) (hr : ∀ k, row = some k → w.heap.size ≤ k) : PG w0 w w1 br A c L i := by
 have hl := hw.row.lt
 have hs := hw.grown.size
 have hk : ∀ (a : World), a.heap.size ≤ w.heap.size → a.grownBy wr (some br) → a.grownBy w1 (some br) := fun a ha h =>
  ⟨hg.os.trans h.os, hg.tape.trans h.tape, hg.output.trans h.output, Nat.le_trans h.size hg.size, fun k hk hne => (hg.block k (Nat.lt_of_lt_of_le hk h.size) (fun e => by have := hr k e.symm; omega)).trans (h.block k hk hne)⟩
 exact ⟨⟨h.1.row.grown hg (fun e => by have := hr _ e.symm; omega), hk w0 hs h.1.grown⟩, hk w nl h.2⟩
theorem is_any {w0 : World} {br c i : Nat} {A : Option Addr} {L : List PT} (ht : Toks w0 br A L) (hi : i ≤ 900000) (ss : List ByteArray) (hs : ss.length ≤ 100) (w : World) (h : PInv w0 w br A c L i) {S : Option Addr} {c' : Nat} (hR : Reads w w.heap.size 1 S ss.length (ss.map Value.string)) :
 Calls Tryz.prog 85 #[.pointer (some ⟨br, 0, none⟩), .slice S ss.length c'] w fun e w' => e = .returned (.bool (ss.any (isT L i))) ∧ Below w.heap.size w w' := by
 have N1 := qh (now_any ht (by omega) w h)
 have HI := qh (fun s => show isT L i s = (isSW (tk L i) && decide ((tk L i).1.text = s)) from rfl)
 obtain ⟨k, p1, p2, q1, q2, t, n, e1, e2⟩ := val_form (tk L i)
 rw [e2] at N1
 rw [e1] at HI
 simp only [isSW] at HI
 have HR := qh hR
 clear e1 e2 h ht hi hR
 generalize isT L i = f at *
 go_enter Tryz.func85, Tryz.ntmps85
 go_wp2_with fail
 ((with_reducible refine N1.out.mono ?_); rintro e w1 ⟨rfl, hb⟩)
 have hbA : Below w.heap.size w (w1.alloc (.cells #[.int .u8 k, .complex .f64 (fl p1) (fl p2), .complex .f64 (fl q1) (fl q2), .string t, .int .i64 n] 40)) := hb.alloc hb.size _
 have hB := Blk.new w1 40 #[.int .u8 k, .complex .f64 (fl p1) (fl p2), .complex .f64 (fl q1) (fl q2), .string t, .int .i64 n]
 have HBA := qh hbA
 have HR2 := qh (HR.out.below hbA)
 have z0 := hB.cell 0
 have z3 := hB.cell 3
 simp only [List.getElem?_toArray, List.getElem?_cons_zero, List.getElem?_cons_succ] at z0 z3
 have hbz := hb.size
 have hw1 : w1.heap.size < (w1.alloc (.cells #[.int .u8 k, .complex .f64 (fl p1) (fl p2), .complex .f64 (fl q1) (fl q2), .string t, .int .i64 n] 40)).heap.size := by rw [World.size_alloc]; exact Nat.lt_succ_self _
 clear hb hbA hB N1
 go_wp2
 generalize w1.alloc (.cells #[.int .u8 k, .complex .f64 (fl p1) (fl p2), .complex .f64 (fl q1) (fl q2), .string t, .int .i64 n] 40) = wa at *
 have hwz := HBA.out.size
 go_loopg [12] ss.length (fun gh sj wr => ∃ j : Nat, sj = .int .i64 (j : Nat) ∧ j ≤ ss.length ∧ ss.length - j ≤ gh ∧ Hid (∀ m (h : m < ss.length), m < j → f ss[m] = false) ∧ wr = wa)
 case atStart => exact ⟨0, rfl, by omega, by omega, qh (fun m _ h => by omega), rfl⟩
 case round =>
  obtain ⟨j, rfl, hj1, hj2, hno, rfl⟩ := hrel
  by_cases hlt : j < ss.length
  ·have x0 : (j : Int) < (ss.length : Int) := by omega
   obtain ⟨b0, off0, u, eA, hb0, hu, hcell⟩ := HR2.out.spot hlt
   rw [List.getElem?_map, List.getElem?_eq_getElem hlt] at hu
   injection hu with hu
   subst hu
   subst eA
   have HJ := qh (HI.out ss[j])
   have HN := qh (show f ss[j] = true → ss.any f = true from fun h => List.any_eq_true.2 ⟨ss[j], List.getElem_mem hlt, h⟩)
   have HF := qh (show f ss[j] = false → ∀ m (h : m < ss.length), m < j + 1 → f ss[m] = false from fun h m hm hmj => by
    by_cases hmj2 : m < j
    ·exact hno.out m hm hmj2
    ·have : m = j := by omega
     subst this
     exact h)
   clear hno
   generalize ss[j] = s at *
   have hl : t.toList = t.data.toList := ByteArray.toList_eq t
   have hl2 : s.toList = s.data.toList := ByteArray.toList_eq s
   have ht1 : (t.toList == s.toList) = decide (t = s) := by
    rw [hl, hl2, Bool.eq_iff_iff, beq_iff_eq, decide_eq_true_eq]
    exact ⟨fun h => Lx.bytes_ext h, fun h => by rw [h]⟩
   have k5 : ((k : Int) == 5) = decide (k = 5) := by rw [Bool.eq_iff_iff, beq_iff_eq, decide_eq_true_eq]; omega
   have k6 : ((k : Int) == 6) = decide (k = 6) := by rw [Bool.eq_iff_iff, beq_iff_eq, decide_eq_true_eq]; omega
   clear hl hl2
   generalize f s = fs at *
   generalize decide (t = s) = bt at *
   generalize decide (k = 5) = b5 at *
   generalize decide (k = 6) = b6 at *
   rcases b5 with _ | _ <;> rcases b6 with _ | _ <;> rcases bt with _ | _
   all_goals
    first
    | (have HX := qh (HN.out (by rw [HJ.out]; rfl))
       clear HN HF HJ
       go_wp2
       go_ret
       exact ⟨ret_bool HX.out.symm, HBA.out⟩)
    | (have HX := qh (HF.out (by rw [HJ.out]; rfl))
       clear HN HF HJ
       go_wp2
       go_roundg (ss.length - j - 1)
       case rel => exact ⟨j + 1, by rfl, by omega, by omega, HX, rfl⟩
       case measure => omega)
  ·have x0 : ¬ (j : Int) < (ss.length : Int) := by omega
   have HX := qh (show ss.any f = false from by
    rw [List.any_eq_false]
    intro s hs
    obtain ⟨m, hm, rfl⟩ := List.getElem_of_mem hs
    rw [hno.out m hm (by omega)]
    simp)
   clear hno
   go_wp2
   go_ret
   exact ⟨ret_bool HX.out.symm, HBA.out⟩
theorem any1 {L : List PT} {i : Nat} {s : ByteArray} : [s].any (isT L i) = isT L i s := by simp
theorem is_1 {w0 : World} {br c i : Nat} {A : Option Addr} {L : List PT} (ht : Toks w0 br A L) (hi : i ≤ 900000) (s : ByteArray) (w : World) (h : PInv w0 w br A c L i) (m : Nat) (hm : w.heap.size = m) :
 Calls Tryz.prog 85 #[.pointer (some ⟨br, 0, none⟩), .slice (some ⟨m, 0, none⟩) 1 1] (w.alloc (.cells #[.string s] 9)) fun e w' => e = .returned (.bool (isT L i s)) ∧ Below w.heap.size w w' := by
 subst hm
 have hb : Below w.heap.size w (w.alloc (.cells #[.string s] 9)) := (Below.refl _ _).alloc nl _
 refine (is_any ht hi [s] (by simp) _ (h.below hb) (S := some ⟨w.heap.size, 0, none⟩) (c' := 1) ?_).mono ?_
 ·have := reads_lit w #[.string s] 9
  simpa using this
 ·rintro e w' ⟨rfl, hb2⟩
  exact ⟨by rw [any1], hb.trans (hb2.mono hb.size)⟩
theorem eat_no {w0 : World} {br c i : Nat} {A : Option Addr} {L : List PT} (ht : Toks w0 br A L) (hi : i ≤ 900000) (s : ByteArray) (w : World) (h : PInv w0 w br A c L i) (hT : isT L i s = false) :
 Calls Tryz.prog 76 #[.pointer (some ⟨br, 0, none⟩), .string s] w fun e w' => e = .returned (.bool false) ∧ PInv w0 w' br A c L i ∧ w.grownBy w' (some br) := by
 have n1 := is_1 ht hi s w h w.heap.size rfl
 rw [hT] at n1
 have N1 := qh n1
 have H := qh h
 clear h ht n1
 go_enter Tryz.func76, Tryz.ntmps76
 go_wp2_with fail
 ((with_reducible refine N1.out.mono ?_); rintro e w1 ⟨rfl, hb⟩)
 have HP := qh (H.out.below hb)
 have HG := qh (grown_of_below hb (some br))
 clear hb N1 H
 go_wp2
 go_ret
 exact ⟨rfl, HP.out, HG.out⟩
theorem eat_yes {w0 : World} {br c i : Nat} {A : Option Addr} {L : List PT} (ht : Toks w0 br A L) (hi : i ≤ 900000) (s : ByteArray) (w : World) (h : PInv w0 w br A c L i) (hT : isT L i s = true) :
 Calls Tryz.prog 76 #[.pointer (some ⟨br, 0, none⟩), .string s] w fun e w' => e = .returned (.bool true) ∧ PInv w0 w' br A c L (i + 1) ∧ w.grownBy w' (some br) := by
 have n1 := is_1 ht hi s w h w.heap.size rfl
 rw [hT] at n1
 have N1 := qh n1
 have H := qh h
 clear h ht n1
 go_enter Tryz.func76, Tryz.ntmps76
 go_wp2_with fail
 ((with_reducible refine N1.out.mono ?_); rintro e w1 ⟨rfl, hb⟩)
 have HP := qh (H.out.below hb)
 have HG := qh (grown_of_below hb (some br))
 clear hb N1 H
 obtain ⟨m1, f1, hlt⟩ := HP.out.at_
 have x0 : (0 : Int) ≤ (i : Int) := by omega
 go_wp2
 go_ret
 obtain ⟨hp, hg⟩ := HP.out.set_ (i + 1)
 exact ⟨rfl, hp, grown_trans HG.out hg⟩
theorem need_ok {w0 : World} {br c i : Nat} {A : Option Addr} {L : List PT} (ht : Toks w0 br A L) (hi : i ≤ 900000) (s : ByteArray) (w : World) (h : PInv w0 w br A c L i) (hT : isT L i s = true) (m : Nat) (hm : w.heap.size = m) :
 Calls Tryz.prog 79 #[.pointer (some ⟨br, 0, none⟩), .slice (some ⟨m, 0, none⟩) 1 1] (w.alloc (.cells #[.string s] 9)) fun e w' => e = .returned (.tuple #[]) ∧ PInv w0 w' br A c L (i + 1) ∧ w.grownBy w' (some br) := by
 subst hm
 have hb : Below w.heap.size w (w.alloc (.cells #[.string s] 9)) := (Below.refl _ _).alloc nl _
 have N1 := qh (eat_yes ht hi s _ (h.below hb) hT)
 have hB := Blk.new w 9 #[.string s]
 have z0 := hB.cell 0
 simp only [List.getElem?_toArray, List.getElem?_cons_zero, List.getElem?_cons_succ] at z0
 have HG0 := qh (grown_of_below hb (some br))
 have hlt : w.heap.size < (w.alloc (.cells #[.string s] 9)).heap.size := by rw [World.size_alloc]; exact Nat.lt_succ_self _
 clear h ht hb hB
 generalize hsz : w.heap.size = m at *
 generalize w.alloc (.cells #[.string s] 9) = wa at *
 go_enter Tryz.func79, Tryz.ntmps79
 go_wp2
 go_loopg [8] 2 (fun gh sj wr => ∃ j : Nat, sj = .int .i64 (j : Nat) ∧ 2 - j ≤ gh ∧ Hid ((j = 0 ∧ wr = wa) ∨ (j = 1 ∧ PInv w0 wr br A c L (i + 1) ∧ wa.grownBy wr (some br))))
 case atStart => exact ⟨0, rfl, by omega, qh (.inl ⟨rfl, rfl⟩)⟩
 case round =>
  obtain ⟨j, rfl, hj, hcase⟩ := hrel
  rcases hcase.out with ⟨rfl, rfl⟩ | ⟨rfl, hI⟩
  ·go_wp2_with fail
   ((with_reducible refine N1.out.mono ?_); rintro e w1 ⟨rfl, hp, hg⟩)
   have HX := qh (And.intro hp hg)
   clear hp hg
   go_wp2
   go_roundg 1
   case rel => exact ⟨1, by rfl, by omega, qh (.inr ⟨rfl, HX.out.1, HX.out.2⟩)⟩
   case measure => omega
  ·have HX := qh hI
   clear hI hcase
   go_wp2
   go_end0
   exact ⟨rfl, HX.out.1, grown_trans HG0.out HX.out.2⟩
theorem need_no {w0 : World} {br c i : Nat} {A : Option Addr} {L : List PT} (ht : Toks w0 br A L) (hi : i ≤ 900000) (s : ByteArray) (w : World) (h : PInv w0 w br A c L i) (hT : isT L i s = false) (m : Nat) (hm : w.heap.size = m) :
 Calls Tryz.prog 79 #[.pointer (some ⟨br, 0, none⟩), .slice (some ⟨m, 0, none⟩) 1 1] (w.alloc (.cells #[.string s] 9)) fun e w' => e = bad i ∧ w.grownBy w' (some br) := by
 subst hm
 have hb : Below w.heap.size w (w.alloc (.cells #[.string s] 9)) := (Below.refl _ _).alloc nl _
 have N1 := qh (eat_no ht hi s _ (h.below hb) hT)
 have hB := Blk.new w 9 #[.string s]
 have z0 := hB.cell 0
 simp only [List.getElem?_toArray, List.getElem?_cons_zero, List.getElem?_cons_succ] at z0
 have HG0 := qh (grown_of_below hb (some br))
 have hlt : w.heap.size < (w.alloc (.cells #[.string s] 9)).heap.size := by rw [World.size_alloc]; exact Nat.lt_succ_self _
 clear h ht hb hB
 generalize hsz : w.heap.size = m at *
 generalize w.alloc (.cells #[.string s] 9) = wa at *
 go_enter Tryz.func79, Tryz.ntmps79
 go_wp2
 go_loopg [8] 2 (fun gh sj wr => ∃ j : Nat, sj = .int .i64 (j : Nat) ∧ 2 - j ≤ gh ∧ Hid ((j = 0 ∧ wr = wa) ∨ (j = 1 ∧ False)))
 case atStart => exact ⟨0, rfl, by omega, qh (.inl ⟨rfl, rfl⟩)⟩
 case round =>
  obtain ⟨j, rfl, hj, hcase⟩ := hrel
  rcases hcase.out with ⟨rfl, rfl⟩ | ⟨rfl, hI⟩
  ·go_wp2_with fail
   ((with_reducible refine N1.out.mono ?_); rintro e w1 ⟨rfl, hp, hg⟩)
   obtain ⟨m1, f1, hlb⟩ := hp.at_
   have HG := qh (grown_trans HG0.out hg)
   clear hp hg
   go_wp2
   exact ⟨rfl, rfl, HG.out⟩
  ·exact hI.elim
theorem name_ok {w0 : World} {br c i : Nat} {A : Option Addr} {L : List PT} (ht : Toks w0 br A L) (hi : i ≤ 900000) (w : World) (h : PInv w0 w br A c L i) (hT : (tk L i).1.kind = 1) :
 Calls Tryz.prog 98 #[.pointer (some ⟨br, 0, none⟩)] w fun e w' => e = .returned (PT.val (tk L i)) ∧ PInv w0 w' br A c L (i + 1) ∧ w.grownBy w' (some br) := by
 have hbA : Below w.heap.size w (w.alloc zeroB) := (Below.refl w.heap.size w).alloc nl _
 have N1 := qh (now_any ht (by omega) _ (h.below hbA))
 have H := qh h
 have HBA := qh hbA
 have hB := Blk.new w 40 #[.int .u8 0, .complex .f64 0 0, .complex .f64 0 0, .string ⟨#[]⟩, .int .i64 0]
 have HB := qh hB
 obtain ⟨k, p1, p2, q1, q2, t, n, e1, e2⟩ := val_form (tk L i)
 rw [e1] at hT
 simp only at hT
 subst hT
 rw [e2] at N1 ⊢
 have hal : w.heap.size < (w.alloc zeroB).heap.size := by rw [World.size_alloc]; exact Nat.lt_succ_self _
 clear hbA hB h e1 e2 ht
 go_enter Tryz.func98, Tryz.ntmps98
 go_wp2_with fail
 ((with_reducible refine N1.out.mono ?_); rintro e w1 ⟨rfl, hb⟩)
 have hp := (H.out.below HBA.out).below hb
 have hbk := HB.out.below hb hal
 have hbl : Below w.heap.size w w1 := HBA.out.trans (hb.mono (Nat.le_of_lt hal))
 obtain ⟨m1, f1, hlt⟩ := hp.at_
 obtain ⟨z0, z1, z2, z3, z4, g0, g1, g2, g3, g4⟩ := hbk.tok
 have HP := qh hp
 have HBK := qh hbk
 have HBL := qh hbl
 have hbr := H.out.row.lt
 have x0 : (0 : Int) ≤ (i : Int) := by omega
 have hlt2 := hbk.lt
 clear hp hbk hbl hb HB HBA N1
 go_wp2
 have hPG := ((show PG w0 w w1 br A c L i from ⟨HP.out, grown_of_below HBL.out _⟩).set_ (i + 1))
 have hPG2 := (hPG.store5 H.out nl (.int .u8 1) (.complex .f64 (fl p1) (fl p2)) (.complex .f64 (fl q1) (fl q2)) (.string t) (.int .i64 n)).below ((Below.refl _ _).alloc nl (.cells #[.int .u8 1, .complex .f64 (fl p1) (fl p2), .complex .f64 (fl q1) (fl q2), .string t, .int .i64 n] 40))
 refine bodyPost_ret (Lx.tok_ret1 rfl _ _ w.heap.size _ _ _ _ _ rfl ((Lx.tok_stored (HBK.out.far (p := ⟨br, 1, none⟩) (Nat.ne_of_gt hbr) _) _ _ _ _ _).alloc _)) rfl ?_
 exact ⟨rfl, hPG2.1, hPG2.2⟩
theorem name_no {w0 : World} {br c i : Nat} {A : Option Addr} {L : List PT} (ht : Toks w0 br A L) (hi : i ≤ 900000) (w : World) (h : PInv w0 w br A c L i) (hT : ¬ (tk L i).1.kind = 1) :
 Calls Tryz.prog 98 #[.pointer (some ⟨br, 0, none⟩)] w fun e w' => e = bad i ∧ w.grownBy w' (some br) := by
 have hbA : Below w.heap.size w (w.alloc zeroB) := (Below.refl w.heap.size w).alloc nl _
 have N1 := qh (now_any ht (by omega) _ (h.below hbA))
 have H := qh h
 have HBA := qh hbA
 obtain ⟨k, p1, p2, q1, q2, t, n, e1, e2⟩ := val_form (tk L i)
 rw [e1] at hT
 simp only at hT
 rw [e2] at N1
 have k1 : ((k : Int) == 1) = false := by simp only [beq_eq_false_iff_ne, ne_eq]; omega
 have k2 : ((k : Int) != 1) = true := by simp [bne, k1]
 have hal : w.heap.size < (w.alloc zeroB).heap.size := by rw [World.size_alloc]; exact Nat.lt_succ_self _
 clear hbA h e1 e2 ht hT
 go_enter Tryz.func98, Tryz.ntmps98
 go_wp2_with fail
 ((with_reducible refine N1.out.mono ?_); rintro e w1 ⟨rfl, hb⟩)
 have hp := (H.out.below HBA.out).below hb
 have hbl : Below w.heap.size w w1 := HBA.out.trans (hb.mono (Nat.le_of_lt hal))
 obtain ⟨m1, f1, hlt⟩ := hp.at_
 have HBL := qh hbl
 clear hp hbl hb HBA N1 H
 go_wp2
 exact ⟨rfl, rfl, grown_of_below (HBL.out.alloc HBL.out.size _) _⟩
theorem run_field0 (v0 v1 v2 v3 v4 : Value) (w : World) : (Instr.field 40 (.agg #[v0, v1, v2, v3, v4]) 0).run Tryz.prog w = .ok v0 w := by kernel_rfl
attribute [local go_sem] run_field0
theorem named_any {w0 : World} {br c i : Nat} {A : Option Addr} {L : List PT} (ht : Toks w0 br A L) (hi : i ≤ 900000) (w : World) (h : PInv w0 w br A c L i) :
 Calls Tryz.prog 84 #[.pointer (some ⟨br, 0, none⟩)] w fun e w' => e = .returned (.bool (St.isNm (tk L i))) ∧ Below w.heap.size w w' := by
 have N1 := qh (now_any ht (by omega) w h)
 have HI := qh (show St.isNm (tk L i) = decide ((tk L i).1.kind = 1) from rfl)
 obtain ⟨k, p1, p2, q1, q2, t, n, e1, e2⟩ := val_form (tk L i)
 rw [e2] at N1
 rw [e1] at HI
 rw [show (tk L i) = _ from e1]
 clear h ht e1 e2
 have k1 : ((k : Int) == 1) = decide (k = 1) := by rw [Bool.eq_iff_iff, beq_iff_eq, decide_eq_true_eq]; omega
 go_enter Tryz.func84, Tryz.ntmps84
 go_wp2_with fail
 ((with_reducible refine N1.out.mono ?_); rintro e w1 ⟨rfl, hb⟩)
 have HB := qh hb
 clear hb N1
 have HI2 := qh HI.out
 clear HI
 generalize decide (k = 1) = b at *
 go_wp2
 go_ret
 exact ⟨ret_bool HI2.out.symm, HB.out⟩
theorem ends_ok {w0 : World} {br c i : Nat} {A : Option Addr} {L : List PT} (ht : Toks w0 br A L) (hi : i ≤ 900000) (nm : ByteArray) (w : World) (h : PInv w0 w br A c L i) (hT : isEnd nm (tk L i) = true) :
 Calls Tryz.prog 103 #[.pointer (some ⟨br, 0, none⟩), .string nm] w fun e w' => e = .returned (.tuple #[]) ∧ PInv w0 w' br A c L (i + 1) ∧ w.grownBy w' (some br) := by
 have M1 := qh (named_any ht hi w h)
 have N1 := qh (fun w1 (hb : Below w.heap.size w w1) => now_any ht (by omega) w1 (h.below hb))
 have HT := qh (show isEnd nm (tk L i) = (St.isNm (tk L i) && decide ((tk L i).1.text = nm)) from rfl)
 rw [hT] at HT
 obtain ⟨k, p1, p2, q1, q2, t, n, e1, e2⟩ := val_form (tk L i)
 rw [e2] at N1
 rw [show (tk L i).1.text = t by rw [e1]] at HT
 have H := qh h
 clear h ht e1 e2 hT
 generalize St.isNm (tk L i) = b at *
 have hl : t.toList = t.data.toList := ByteArray.toList_eq t
 have hl2 : nm.toList = nm.data.toList := ByteArray.toList_eq nm
 have ht1 : (t.toList == nm.toList) = decide (t = nm) := by
  rw [hl, hl2, Bool.eq_iff_iff, beq_iff_eq, decide_eq_true_eq]
  exact ⟨fun h => Lx.bytes_ext h, fun h => by rw [h]⟩
 clear hl hl2
 generalize decide (t = nm) = bt at *
 rcases b with _ | _ <;> rcases bt with _ | _ <;> first | exact absurd HT.out (by decide) | skip
 all_goals
  clear HT
  go_enter Tryz.func103, Tryz.ntmps103
  go_wp2_with fail
  ((with_reducible refine M1.out.mono ?_); rintro e w1 ⟨rfl, hb⟩)
  have HB := qh hb
  clear hb
  first
  | (go_wp2_with fail
     ((with_reducible refine (N1.out _ HB.out).mono ?_); rintro e w2 ⟨rfl, hb⟩)
     have HX := qh (H.out.below (HB.out.trans (hb.mono HB.out.size)))
     have HG := qh (grown_of_below (HB.out.trans (hb.mono HB.out.size)) (some br))
     clear hb N1)
  | (have HX := qh (H.out.below HB.out)
     have HG := qh (grown_of_below HB.out (some br)))
  obtain ⟨m1, f1, hlb⟩ := HX.out.at_
  have x0 : (0 : Int) ≤ (i : Int) := by omega
  go_wp2
  go_end0
  obtain ⟨hp, hg⟩ := HX.out.set_ (i + 1)
  exact ⟨rfl, hp, grown_trans HG.out hg⟩
theorem ends_no {w0 : World} {br c i : Nat} {A : Option Addr} {L : List PT} (ht : Toks w0 br A L) (hi : i ≤ 900000) (nm : ByteArray) (w : World) (h : PInv w0 w br A c L i) (hT : isEnd nm (tk L i) = false) :
 Calls Tryz.prog 103 #[.pointer (some ⟨br, 0, none⟩), .string nm] w fun e w' => e = bad i ∧ w.grownBy w' (some br) := by
 have M1 := qh (named_any ht hi w h)
 have N1 := qh (fun w1 (hb : Below w.heap.size w w1) => now_any ht (by omega) w1 (h.below hb))
 have HT := qh (show isEnd nm (tk L i) = (St.isNm (tk L i) && decide ((tk L i).1.text = nm)) from rfl)
 rw [hT] at HT
 obtain ⟨k, p1, p2, q1, q2, t, n, e1, e2⟩ := val_form (tk L i)
 rw [e2] at N1
 rw [show (tk L i).1.text = t by rw [e1]] at HT
 have H := qh h
 clear h ht e1 e2 hT
 generalize St.isNm (tk L i) = b at *
 have hl : t.toList = t.data.toList := ByteArray.toList_eq t
 have hl2 : nm.toList = nm.data.toList := ByteArray.toList_eq nm
 have ht1 : (t.toList == nm.toList) = decide (t = nm) := by
  rw [hl, hl2, Bool.eq_iff_iff, beq_iff_eq, decide_eq_true_eq]
  exact ⟨fun h => Lx.bytes_ext h, fun h => by rw [h]⟩
 clear hl hl2
 generalize decide (t = nm) = bt at *
 rcases b with _ | _ <;> rcases bt with _ | _ <;> first | exact absurd HT.out (by decide) | skip
 all_goals
  clear HT
  go_enter Tryz.func103, Tryz.ntmps103
  go_wp2_with fail
  ((with_reducible refine M1.out.mono ?_); rintro e w1 ⟨rfl, hb⟩)
  have HB := qh hb
  clear hb
  first
  | (go_wp2_with fail
     ((with_reducible refine (N1.out _ HB.out).mono ?_); rintro e w2 ⟨rfl, hb⟩)
     have HX := qh (H.out.below (HB.out.trans (hb.mono HB.out.size)))
     have HG := qh (grown_of_below (HB.out.trans (hb.mono HB.out.size)) (some br))
     clear hb N1)
  | (have HX := qh (H.out.below HB.out)
     have HG := qh (grown_of_below HB.out (some br)))
  obtain ⟨m1, f1, hlb⟩ := HX.out.at_
  have x0 : (0 : Int) ≤ (i : Int) := by omega
  go_wp2
  exact ⟨rfl, rfl, HG.out⟩
end De
end Go.Proofs.YtkemhmfdooghkaaGreatDoor
