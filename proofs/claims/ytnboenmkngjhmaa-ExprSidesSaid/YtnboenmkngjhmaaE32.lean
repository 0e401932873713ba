/- The walk of ExprSides. -/
import Derived.Test.YtnboenmkngjhmaaE31
import Derived.Deep.RegionHeld3
import Derived.Deep.DrawnRows
set_option linter.unusedSimpArgs false
set_option linter.unusedVariables false
namespace Go.Proofs.Ytnboenmkngjhmaa.Ex
open Go.RowKit
open Tr (Nd Fo RepS RepN Rep)
open Lx (Tk noTk Blk run_store_complexL TokAt scanL flat scanEnd at_ flat_len bt)
open Fl
attribute [local go_sem] run_store_complexL run_field1 run_field3

set_option maxRecDepth 100000 in
set_option maxHeartbeats 12800000 in
theorem sides_b (p q : Nat) (hp : p < 15) (hq : q < 15) (a1 a2 : Int) (h1 : 0 ≤ a1 ∧ a1 ≤ 255) (h2 : 0 ≤ a2 ∧ a2 ≤ 255) (e1 : a1 % 15 = (p : Int)) (e2 : a2 % 15 = (q : Int)) (hz : ¬ (opLev p = 0 ∧ opLev q = 0)) (zp : ((opLev p : Int) == 0) = false) (hlq : decide (opLev q ≤ opLev p) = true) (hpq : decide (opB p = opB q) = false ∨ decide (opLev q ≤ opLev p) = true) (w : World) :
    Calls Try.prog 4 #[.int .u8 a1, .int .u8 a2] w fun e w' => e = .returned (.bool true) ∧ Below w.heap.size w w' := by
  obtain ⟨d, d0, f0, d1, f1, hx, hk, hn0, hn1⟩ := side_some hp hq
  have x1 : 0 ≤ a1 := h1.1
  have x2 : a1 ≤ 255 := h1.2
  have x3 : 0 ≤ a2 := h2.1
  have x4 : a2 ≤ 255 := h2.2
  have x5 : (0 : Int) ≤ (p : Int) := by omega
  have x6 : (0 : Int) ≤ (q : Int) := by omega
  have x7 : (p : Int) < 15 := by omega
  have x8 : (q : Int) < 15 := by omega
  have c1 := opsV_at p hp
  have c2 := opsV_at q hq
  have s1 := op_size p hp
  have s2 := op_size q hq
  have hts : (sideTx p q).size ≤ 20 := by
    unfold sideTx
    simp only [ByteArray.size_append]
    show 2 + (opB p).size + 3 + (opB q).size + 2 ≤ 20
    omega
  obtain ⟨L, hL⟩ : ∃ L, rowP (sideTx p q).data.toList = L := ⟨_, rfl⟩
  rw [hL, show sideN p q = 5 from by unfold sideN; rw [if_neg hz]] at hx
  have RW := Lib.hid (show ∀ w, Calls Try.prog 10 #[.string (⟨#[117, 32]⟩ ++ opB p ++ ⟨#[32, 118, 32]⟩ ++ opB q ++ ⟨#[32, 119]⟩)] w (RowR w L) from fun w => row_at (sideTx p q) (by omega) L hL w)
  have HX := Lib.hid hx
  have HK := Lib.hid hk
  have HNA := Lib.hid (And.intro hn0 hn1)
  obtain ⟨hn1, hn2, hn3⟩ := hn1 hz
  rw [hlq] at hn1 hn2 hn3
  rw [Bool.true_or] at hn1
  simp only [Bool.not_true, Bool.not_false] at hn3
  have q1 : (d.name.toList == (opB q).toList) = true := by rw [← hn1]; exact bytes_beq _ _
  have q2 : ((d0.kind : Int) == 11) = true := by rw [← hn2, Bool.eq_iff_iff, beq_iff_eq, decide_eq_true_eq]; omega
  have q3 : ((d1.kind : Int) == 11) = false := by rw [← hn3, Bool.eq_iff_iff, beq_iff_eq, decide_eq_true_eq]; omega
  have q5 : decide ((opLev q : Int) ≤ (opLev p : Int)) = true := by rw [← hlq]; simp
  clear hn2 hn3 hpq
  have LP := Lib.hid (level_any p)
  have LQ := Lib.hid (level_any q)
  have WK := Lib.hid works_any
  clear hx hk hn0 hn1 hL hts h1 h2
  have C1 : (w.alloc (.cells opsV 9)).cell? ⟨w.heap.size, p, none⟩ = some (.string (opB p)) := by
    rw [cell_of_row _ _ p opsV _ (0, 0) (heap_alloc_new w _)]; exact c1
  have C2 : (w.alloc (.cells opsV 9)).cell? ⟨w.heap.size, q, none⟩ = some (.string (opB q)) := by
    rw [cell_of_row _ _ q opsV _ (0, 0) (heap_alloc_new w _)]; exact c2
  have KS : KeptS w (w.alloc (.cells opsV 9)) := ⟨by rw [World.size_alloc]; exact Nat.lt_succ_self _, (Below.refl w.heap.size w).alloc (Nat.le_refl _) (.cells opsV 9)⟩
  obtain ⟨wa, hwa⟩ : ∃ wa, w.alloc (.cells opsV 9) = wa := ⟨_, rfl⟩
  rw [hwa] at C1 C2 KS
  have HWA := Lib.hid hwa
  have HD0 : wa.drew.cell? ⟨w.heap.size, p, none⟩ = some (.string (opB p)) ∧ wa.drew.cell? ⟨w.heap.size, q, none⟩ = some (.string (opB q)) ∧ KeptS w wa.drew := ⟨C1, C2, ⟨KS.lt, KS.bel.drew⟩⟩
  have HE := Lib.hid (And.intro e1 e2)
  clear c1 c2 hwa C1 C2 KS e1 e2
  have g1 : ¬ 9223372036854775807 < 2 + (opB p).size := by omega
  have g2 : ¬ 9223372036854775807 < 2 + (opB p).size + 3 := by omega
  have g3 : ¬ 9223372036854775807 < 2 + (opB p).size + 3 + (opB q).size := by omega
  have g4 : ¬ 9223372036854775807 < 2 + (opB p).size + 3 + (opB q).size + 2 := by omega
  go_enter Try.func4, Try.ntmps4
  go_wp2
  rw [HE.out.1, HE.out.2]
  rw [show w.alloc (.cells #[.string ⟨#[42]⟩, .string ⟨#[47]⟩, .string ⟨#[68, 73, 86]⟩, .string ⟨#[77, 79, 68]⟩, .string ⟨#[65, 78, 68]⟩, .string ⟨#[43]⟩, .string ⟨#[45]⟩, .string ⟨#[79, 82]⟩, .string ⟨#[61]⟩, .string ⟨#[35]⟩, .string ⟨#[60]⟩, .string ⟨#[60, 61]⟩, .string ⟨#[62]⟩, .string ⟨#[62, 61]⟩, .string ⟨#[73, 78]⟩] 9) = wa from HWA.out]
  clear HWA
  go_region_held3 (fun w' => w'.cell? ⟨w.heap.size, p, none⟩ = some (.string (opB p)) ∧ w'.cell? ⟨w.heap.size, q, none⟩ = some (.string (opB q)) ∧ KeptS w w') ((first | exact HD0 | (refine held_s ?_ (by assumption) <;> assumption) | assumption))
    ((first
      | (go_at_call 10; (with_reducible refine (RW.out _).mono ?_); rintro e wr ⟨A, c, rfl, _, ha, hb⟩; have D1 := Lib.hid (HX.out ▸ Expr_0 ha c))
      | (go_at_call 11; (with_reducible refine D1.out.mono ?_); rintro e wx ⟨b, rfl, hr, hb⟩)))
  rename_i hS
  obtain ⟨cp, cq, ks⟩ := hS
  obtain ⟨g, off, cc, b0, b1, t0, t1, t2, t3, t4, t5, t6⟩ := two_at hr
  rw [HK.out] at t0
  clear hr ha D1 g1 g2 g3 g4
  clear hz HNA
  go_wp2_with fail
  ((with_reducible refine (LP.out _).mono ?_); rintro e w1 ⟨rfl, rfl⟩)
  go_wp2_with fail
  ((with_reducible refine (LP.out _).mono ?_); rintro e w1 ⟨rfl, rfl⟩)
  go_wp2_with fail
  ((with_reducible refine (LQ.out _).mono ?_); rintro e w1 ⟨rfl, rfl⟩)
  go_wp2
  have HD0 : wx.drew.cell? ⟨b, 2, none⟩ = some (.string d.name) ∧ wx.drew.cell? ⟨b, 4, none⟩ = some (.slice (some ⟨g, off, none⟩) 2 cc) ∧ wx.drew.cell? ⟨g, off, none⟩ = some (.pointer (some ⟨b0, 0, none⟩)) ∧ wx.drew.cell? ⟨g, off + 1, none⟩ = some (.pointer (some ⟨b1, 0, none⟩)) ∧ wx.drew.cell? ⟨b0, 0, none⟩ = some (.int .u8 d0.kind) ∧ wx.drew.cell? ⟨b1, 0, none⟩ = some (.int .u8 d1.kind) ∧ wx.drew.cell? ⟨w.heap.size, p, none⟩ = some (.string (opB p)) ∧ wx.drew.cell? ⟨w.heap.size, q, none⟩ = some (.string (opB q)) ∧ KeptS w wx.drew := ⟨t1, t2, t3, t4, t5, t6, cp, cq, ⟨ks.lt, ks.bel.drew⟩⟩
  clear t1 t2 t3 t4 t5 t6 cp cq ks
  refine wp_region_held_drew (S := (fun w' => w'.cell? ⟨b, 2, none⟩ = some (.string d.name) ∧ w'.cell? ⟨b, 4, none⟩ = some (.slice (some ⟨g, off, none⟩) 2 cc) ∧ w'.cell? ⟨g, off, none⟩ = some (.pointer (some ⟨b0, 0, none⟩)) ∧ w'.cell? ⟨g, off + 1, none⟩ = some (.pointer (some ⟨b1, 0, none⟩)) ∧ w'.cell? ⟨b0, 0, none⟩ = some (.int .u8 d0.kind) ∧ w'.cell? ⟨b1, 0, none⟩ = some (.int .u8 d1.kind) ∧ w'.cell? ⟨w.heap.size, p, none⟩ = some (.string (opB p)) ∧ w'.cell? ⟨w.heap.size, q, none⟩ = some (.string (opB q)) ∧ KeptS w w')) (by kernel_rfl) HD0 (fun hHeld => ?_)
  refine wpAnyH_take (i := 0) (oi := ({ dst := some 105, op := Op.move (Operand.tmp 9), type := 3, pos := _, after := _, guard := none } : Oper)) (v := ?v0) rfl (by kernel_rfl) (by kernel_rfl) (by kernel_rfl) (fun _ _ _ h => h) (Or.inl ⟨by rfl, ?y0⟩) (by assumption) ?r0
  case y0 => (intro w0 hSw; go_split_ands; go_simp; try with_reducible rfl)
  try simp only [Act.put, List.setIfInBounds_toArray, List.set_cons_zero, List.set_cons_succ]
  refine wpAnyH_take (i := 1) (oi := ({ dst := some 106, op := Op.binOp BinOp.eql 3 (Operand.tmp 105) (Operand.const (Value.int IntKind.i64 5)) 3, type := 4, pos := _, after := _, guard := none } : Oper)) (v := ?v1) rfl (by kernel_rfl) (by kernel_rfl) (by kernel_rfl) (fun _ _ _ h => h) (Or.inl ⟨by rfl, ?y1⟩) (by assumption) ?r1
  case y1 => (intro w0 hSw; go_split_ands; go_simp; try with_reducible rfl)
  try simp only [Act.put, List.setIfInBounds_toArray, List.set_cons_zero, List.set_cons_succ]
  refine wpAnyH_take (i := 2) (oi := ({ dst := some 107, op := Op.move (Operand.tmp 106), type := 4, pos := _, after := _, guard := none } : Oper)) (v := ?v2) rfl (by kernel_rfl) (by kernel_rfl) (by kernel_rfl) (fun _ _ _ h => h) (Or.inl ⟨by rfl, ?y2⟩) (by assumption) ?r2
  case y2 => (intro w0 hSw; go_split_ands; go_simp; try with_reducible rfl)
  try simp only [Act.put, List.setIfInBounds_toArray, List.set_cons_zero, List.set_cons_succ]
  refine wpAnyH_take (i := 3) (oi := ({ dst := some 108, op := Op.move (Operand.tmp 8), type := 24, pos := _, after := _, guard := some (2, true) } : Oper)) (v := ?v3) rfl (by kernel_rfl) (by kernel_rfl) (by kernel_rfl) (fun _ _ _ h => h) (Or.inl ⟨by rfl, ?y3⟩) (by assumption) ?r3
  case y3 => (intro w0 hSw; go_split_ands; go_simp; try with_reducible rfl)
  try simp only [Act.put, List.setIfInBounds_toArray, List.set_cons_zero, List.set_cons_succ]
  refine wpAnyH_take (i := 4) (oi := ({ dst := some 109, op := Op.nilCheck (Operand.tmp 108), type := 0, pos := _, after := _, guard := some (2, true) } : Oper)) (v := ?v4) rfl (by kernel_rfl) (by kernel_rfl) (by kernel_rfl) (fun _ _ _ h => h) (Or.inl ⟨by rfl, ?y4⟩) (by assumption) ?r4
  case y4 => (intro w0 hSw; go_split_ands; go_simp; try with_reducible rfl)
  try simp only [Act.put, List.setIfInBounds_toArray, List.set_cons_zero, List.set_cons_succ]
  refine wpAnyH_take (i := 5) (oi := ({ dst := some 110, op := Op.fieldAddr 38 (Operand.tmp 109) 2, type := 0, pos := _, after := _, guard := some (2, true) } : Oper)) (v := ?v5) rfl (by kernel_rfl) (by kernel_rfl) (by kernel_rfl) (fun _ _ _ h => h) (Or.inl ⟨by rfl, ?y5⟩) (by assumption) ?r5
  case y5 => (intro w0 hSw; go_split_ands; go_simp; try with_reducible rfl)
  try simp only [Act.put, List.setIfInBounds_toArray, List.set_cons_zero, List.set_cons_succ]
  refine wpAnyH_take (i := 6) (oi := ({ dst := some 111, op := Op.load 9 (Operand.tmp 110), type := 9, pos := _, after := _, guard := some (2, true) } : Oper)) (v := ?v6) rfl (by kernel_rfl) (by kernel_rfl) (by kernel_rfl) (fun _ _ _ h => h) (Or.inl ⟨by rfl, ?y6⟩) (by assumption) ?r6
  case y6 => (intro w0 hSw; go_split_ands; go_simp; try with_reducible rfl)
  try simp only [Act.put, List.setIfInBounds_toArray, List.set_cons_zero, List.set_cons_succ]
  refine wpAnyH_take (i := 7) (oi := ({ dst := some 112, op := Op.move (Operand.tmp 5), type := 27, pos := _, after := _, guard := some (2, true) } : Oper)) (v := ?v7) rfl (by kernel_rfl) (by kernel_rfl) (by kernel_rfl) (fun _ _ _ h => h) (Or.inl ⟨by rfl, ?y7⟩) (by assumption) ?r7
  case y7 => (intro w0 hSw; go_split_ands; go_simp; try with_reducible rfl)
  try simp only [Act.put, List.setIfInBounds_toArray, List.set_cons_zero, List.set_cons_succ]
  refine wpAnyH_take (i := 8) (oi := ({ dst := some 113, op := Op.move (Operand.tmp 7), type := 3, pos := _, after := _, guard := some (2, true) } : Oper)) (v := ?v8) rfl (by kernel_rfl) (by kernel_rfl) (by kernel_rfl) (fun _ _ _ h => h) (Or.inl ⟨by rfl, ?y8⟩) (by assumption) ?r8
  case y8 => (intro w0 hSw; go_split_ands; go_simp; try with_reducible rfl)
  try simp only [Act.put, List.setIfInBounds_toArray, List.set_cons_zero, List.set_cons_succ]
  refine wpAnyH_take (i := 9) (oi := ({ dst := some 114, op := Op.indexAddr 27 (Operand.tmp 112) (Operand.tmp 113), type := 0, pos := _, after := _, guard := some (2, true) } : Oper)) (v := ?v9) rfl (by kernel_rfl) (by kernel_rfl) (by kernel_rfl) (fun _ _ _ h => h) (Or.inl ⟨by rfl, ?y9⟩) (by assumption) ?r9
  case y9 => (intro w0 hSw; go_split_ands; go_simp; try with_reducible rfl)
  try simp only [Act.put, List.setIfInBounds_toArray, List.set_cons_zero, List.set_cons_succ]
  refine wpAnyH_take (i := 10) (oi := ({ dst := some 115, op := Op.load 9 (Operand.tmp 114), type := 9, pos := _, after := _, guard := some (2, true) } : Oper)) (v := ?v10) rfl (by kernel_rfl) (by kernel_rfl) (by kernel_rfl) (fun _ _ _ h => h) (Or.inl ⟨by rfl, ?y10⟩) (by assumption) ?r10
  case y10 => (intro w0 hSw; go_split_ands; go_simp; try with_reducible rfl)
  try simp only [Act.put, List.setIfInBounds_toArray, List.set_cons_zero, List.set_cons_succ]
  refine wpAnyH_take (i := 11) (oi := ({ dst := some 116, op := Op.binOp BinOp.eql 9 (Operand.tmp 111) (Operand.tmp 115) 9, type := 4, pos := _, after := _, guard := some (2, true) } : Oper)) (v := ?v11) rfl (by kernel_rfl) (by kernel_rfl) (by kernel_rfl) (fun _ _ _ h => h) (Or.inl ⟨by rfl, ?y11⟩) (by assumption) ?r11
  case y11 => (intro w0 hSw; go_split_ands; go_simp; try with_reducible rfl)
  try simp only [Act.put, List.setIfInBounds_toArray, List.set_cons_zero, List.set_cons_succ]
  refine wpAnyH_take (i := 12) (oi := ({ dst := some 117, op := Op.move (Operand.tmp 11), type := 4, pos := _, after := _, guard := some (2, true) } : Oper)) (v := ?v12) rfl (by kernel_rfl) (by kernel_rfl) (by kernel_rfl) (fun _ _ _ h => h) (Or.inl ⟨by rfl, ?y12⟩) (by assumption) ?r12
  case y12 => (intro w0 hSw; go_split_ands; go_simp; try with_reducible rfl)
  try simp only [Act.put, List.setIfInBounds_toArray, List.set_cons_zero, List.set_cons_succ]
  refine wpAnyH_take (i := 13) (oi := ({ dst := some 118, op := Op.move (Operand.tmp 117), type := 4, pos := _, after := _, guard := some (2, true) } : Oper)) (v := ?v13) rfl (by kernel_rfl) (by kernel_rfl) (by kernel_rfl) (fun _ _ _ h => h) (Or.inl ⟨by rfl, ?y13⟩) (by assumption) ?r13
  case y13 => (intro w0 hSw; go_split_ands; go_simp; try with_reducible rfl)
  try simp only [Act.put, List.setIfInBounds_toArray, List.set_cons_zero, List.set_cons_succ]
  refine wpAnyH_take (i := 14) (oi := ({ dst := some 119, op := Op.move (Operand.tmp 5), type := 27, pos := _, after := _, guard := some (13, false) } : Oper)) (v := undef) rfl (by kernel_rfl) (by kernel_rfl) (by kernel_rfl) (fun _ _ _ h => h) (Or.inr ⟨by rfl, rfl⟩) (by assumption) ?_
  try simp only [Act.put, List.setIfInBounds_toArray, List.set_cons_zero, List.set_cons_succ]
  refine wpAnyH_take (i := 15) (oi := ({ dst := some 120, op := Op.move (Operand.tmp 6), type := 3, pos := _, after := _, guard := some (13, false) } : Oper)) (v := undef) rfl (by kernel_rfl) (by kernel_rfl) (by kernel_rfl) (fun _ _ _ h => h) (Or.inr ⟨by rfl, rfl⟩) (by assumption) ?_
  try simp only [Act.put, List.setIfInBounds_toArray, List.set_cons_zero, List.set_cons_succ]
  refine wpAnyH_take (i := 16) (oi := ({ dst := some 121, op := Op.indexAddr 27 (Operand.tmp 119) (Operand.tmp 120), type := 0, pos := _, after := _, guard := some (13, false) } : Oper)) (v := undef) rfl (by kernel_rfl) (by kernel_rfl) (by kernel_rfl) (fun _ _ _ h => h) (Or.inr ⟨by rfl, rfl⟩) (by assumption) ?_
  try simp only [Act.put, List.setIfInBounds_toArray, List.set_cons_zero, List.set_cons_succ]
  refine wpAnyH_take (i := 17) (oi := ({ dst := some 122, op := Op.load 9 (Operand.tmp 121), type := 9, pos := _, after := _, guard := some (13, false) } : Oper)) (v := undef) rfl (by kernel_rfl) (by kernel_rfl) (by kernel_rfl) (fun _ _ _ h => h) (Or.inr ⟨by rfl, rfl⟩) (by assumption) ?_
  try simp only [Act.put, List.setIfInBounds_toArray, List.set_cons_zero, List.set_cons_succ]
  refine wpAnyH_take (i := 18) (oi := ({ dst := some 123, op := Op.move (Operand.tmp 5), type := 27, pos := _, after := _, guard := some (13, false) } : Oper)) (v := undef) rfl (by kernel_rfl) (by kernel_rfl) (by kernel_rfl) (fun _ _ _ h => h) (Or.inr ⟨by rfl, rfl⟩) (by assumption) ?_
  try simp only [Act.put, List.setIfInBounds_toArray, List.set_cons_zero, List.set_cons_succ]
  refine wpAnyH_take (i := 19) (oi := ({ dst := some 124, op := Op.move (Operand.tmp 7), type := 3, pos := _, after := _, guard := some (13, false) } : Oper)) (v := undef) rfl (by kernel_rfl) (by kernel_rfl) (by kernel_rfl) (fun _ _ _ h => h) (Or.inr ⟨by rfl, rfl⟩) (by assumption) ?_
  try simp only [Act.put, List.setIfInBounds_toArray, List.set_cons_zero, List.set_cons_succ]
  refine wpAnyH_take (i := 20) (oi := ({ dst := some 125, op := Op.indexAddr 27 (Operand.tmp 123) (Operand.tmp 124), type := 0, pos := _, after := _, guard := some (13, false) } : Oper)) (v := undef) rfl (by kernel_rfl) (by kernel_rfl) (by kernel_rfl) (fun _ _ _ h => h) (Or.inr ⟨by rfl, rfl⟩) (by assumption) ?_
  try simp only [Act.put, List.setIfInBounds_toArray, List.set_cons_zero, List.set_cons_succ]
  refine wpAnyH_take (i := 21) (oi := ({ dst := some 126, op := Op.load 9 (Operand.tmp 125), type := 9, pos := _, after := _, guard := some (13, false) } : Oper)) (v := undef) rfl (by kernel_rfl) (by kernel_rfl) (by kernel_rfl) (fun _ _ _ h => h) (Or.inr ⟨by rfl, rfl⟩) (by assumption) ?_
  try simp only [Act.put, List.setIfInBounds_toArray, List.set_cons_zero, List.set_cons_succ]
  refine wpAnyH_take (i := 22) (oi := ({ dst := some 127, op := Op.binOp BinOp.eql 9 (Operand.tmp 122) (Operand.tmp 126) 9, type := 4, pos := _, after := _, guard := some (13, false) } : Oper)) (v := undef) rfl (by kernel_rfl) (by kernel_rfl) (by kernel_rfl) (fun _ _ _ h => h) (Or.inr ⟨by rfl, rfl⟩) (by assumption) ?_
  try simp only [Act.put, List.setIfInBounds_toArray, List.set_cons_zero, List.set_cons_succ]
  refine wpAnyH_take (i := 23) (oi := ({ dst := some 128, op := Op.pick (Operand.tmp 118) (Operand.const (Value.bool true)) (Operand.tmp 127), type := 4, pos := _, after := _, guard := some (2, true) } : Oper)) (v := ?v23) rfl (by kernel_rfl) (by kernel_rfl) (by kernel_rfl) (fun _ _ _ h => h) (Or.inl ⟨by rfl, ?y23⟩) (by assumption) ?r23
  case y23 => (intro w0 hSw; go_split_ands; go_simp; try with_reducible rfl)
  try simp only [Act.put, List.setIfInBounds_toArray, List.set_cons_zero, List.set_cons_succ]
  refine wpAnyH_take (i := 24) (oi := ({ dst := some 129, op := Op.binOp BinOp.eql 4 (Operand.tmp 116) (Operand.tmp 128) 4, type := 4, pos := _, after := _, guard := some (2, true) } : Oper)) (v := ?v24) rfl (by kernel_rfl) (by kernel_rfl) (by kernel_rfl) (fun _ _ _ h => h) (Or.inl ⟨by rfl, ?y24⟩) (by assumption) ?r24
  case y24 => (intro w0 hSw; go_split_ands; go_simp; try with_reducible rfl)
  try simp only [Act.put, List.setIfInBounds_toArray, List.set_cons_zero, List.set_cons_succ]
  refine wpAnyH_take (i := 25) (oi := ({ dst := some 130, op := Op.pick (Operand.tmp 107) (Operand.tmp 129) (Operand.const (Value.bool false)), type := 4, pos := _, after := _, guard := none } : Oper)) (v := ?v25) rfl (by kernel_rfl) (by kernel_rfl) (by kernel_rfl) (fun _ _ _ h => h) (Or.inl ⟨by rfl, ?y25⟩) (by assumption) ?r25
  case y25 => (intro w0 hSw; go_split_ands; go_simp; try with_reducible rfl)
  try simp only [Act.put, List.setIfInBounds_toArray, List.set_cons_zero, List.set_cons_succ]
  refine wpAnyH_take (i := 26) (oi := ({ dst := some 131, op := Op.move (Operand.tmp 130), type := 4, pos := _, after := _, guard := none } : Oper)) (v := ?v26) rfl (by kernel_rfl) (by kernel_rfl) (by kernel_rfl) (fun _ _ _ h => h) (Or.inl ⟨by rfl, ?y26⟩) (by assumption) ?r26
  case y26 => (intro w0 hSw; go_split_ands; go_simp; try with_reducible rfl)
  try simp only [Act.put, List.setIfInBounds_toArray, List.set_cons_zero, List.set_cons_succ]
  refine wpAnyH_take (i := 27) (oi := ({ dst := some 132, op := Op.move (Operand.tmp 8), type := 24, pos := _, after := _, guard := some (26, true) } : Oper)) (v := ?v27) rfl (by kernel_rfl) (by kernel_rfl) (by kernel_rfl) (fun _ _ _ h => h) (Or.inl ⟨by rfl, ?y27⟩) (by assumption) ?r27
  case y27 => (intro w0 hSw; go_split_ands; go_simp; try with_reducible rfl)
  try simp only [Act.put, List.setIfInBounds_toArray, List.set_cons_zero, List.set_cons_succ]
  refine wpAnyH_take (i := 28) (oi := ({ dst := some 133, op := Op.nilCheck (Operand.tmp 132), type := 0, pos := _, after := _, guard := some (26, true) } : Oper)) (v := ?v28) rfl (by kernel_rfl) (by kernel_rfl) (by kernel_rfl) (fun _ _ _ h => h) (Or.inl ⟨by rfl, ?y28⟩) (by assumption) ?r28
  case y28 => (intro w0 hSw; go_split_ands; go_simp; try with_reducible rfl)
  try simp only [Act.put, List.setIfInBounds_toArray, List.set_cons_zero, List.set_cons_succ]
  refine wpAnyH_take (i := 29) (oi := ({ dst := some 134, op := Op.fieldAddr 38 (Operand.tmp 133) 4, type := 0, pos := _, after := _, guard := some (26, true) } : Oper)) (v := ?v29) rfl (by kernel_rfl) (by kernel_rfl) (by kernel_rfl) (fun _ _ _ h => h) (Or.inl ⟨by rfl, ?y29⟩) (by assumption) ?r29
  case y29 => (intro w0 hSw; go_split_ands; go_simp; try with_reducible rfl)
  try simp only [Act.put, List.setIfInBounds_toArray, List.set_cons_zero, List.set_cons_succ]
  refine wpAnyH_take (i := 30) (oi := ({ dst := some 135, op := Op.load 36 (Operand.tmp 134), type := 36, pos := _, after := _, guard := some (26, true) } : Oper)) (v := ?v30) rfl (by kernel_rfl) (by kernel_rfl) (by kernel_rfl) (fun _ _ _ h => h) (Or.inl ⟨by rfl, ?y30⟩) (by assumption) ?r30
  case y30 => (intro w0 hSw; go_split_ands; go_simp; try with_reducible rfl)
  try simp only [Act.put, List.setIfInBounds_toArray, List.set_cons_zero, List.set_cons_succ]
  refine wpAnyH_take (i := 31) (oi := ({ dst := some 136, op := Op.indexAddr 36 (Operand.tmp 135) (Operand.const (Value.int IntKind.i64 0)), type := 0, pos := _, after := _, guard := some (26, true) } : Oper)) (v := ?v31) rfl (by kernel_rfl) (by kernel_rfl) (by kernel_rfl) (fun _ _ _ h => h) (Or.inl ⟨by rfl, ?y31⟩) (by assumption) ?r31
  case y31 => (intro w0 hSw; go_split_ands; go_simp; try with_reducible rfl)
  try simp only [Act.put, List.setIfInBounds_toArray, List.set_cons_zero, List.set_cons_succ]
  refine wpAnyH_take (i := 32) (oi := ({ dst := some 137, op := Op.load 24 (Operand.tmp 136), type := 24, pos := _, after := _, guard := some (26, true) } : Oper)) (v := ?v32) rfl (by kernel_rfl) (by kernel_rfl) (by kernel_rfl) (fun _ _ _ h => h) (Or.inl ⟨by rfl, ?y32⟩) (by assumption) ?r32
  case y32 => (intro w0 hSw; go_split_ands; go_simp; try with_reducible rfl)
  try simp only [Act.put, List.setIfInBounds_toArray, List.set_cons_zero, List.set_cons_succ]
  refine wpAnyH_take (i := 33) (oi := ({ dst := some 138, op := Op.nilCheck (Operand.tmp 137), type := 0, pos := _, after := _, guard := some (26, true) } : Oper)) (v := ?v33) rfl (by kernel_rfl) (by kernel_rfl) (by kernel_rfl) (fun _ _ _ h => h) (Or.inl ⟨by rfl, ?y33⟩) (by assumption) ?r33
  case y33 => (intro w0 hSw; go_split_ands; go_simp; try with_reducible rfl)
  try simp only [Act.put, List.setIfInBounds_toArray, List.set_cons_zero, List.set_cons_succ]
  refine wpAnyH_take (i := 34) (oi := ({ dst := some 139, op := Op.fieldAddr 38 (Operand.tmp 138) 0, type := 0, pos := _, after := _, guard := some (26, true) } : Oper)) (v := ?v34) rfl (by kernel_rfl) (by kernel_rfl) (by kernel_rfl) (fun _ _ _ h => h) (Or.inl ⟨by rfl, ?y34⟩) (by assumption) ?r34
  case y34 => (intro w0 hSw; go_split_ands; go_simp; try with_reducible rfl)
  try simp only [Act.put, List.setIfInBounds_toArray, List.set_cons_zero, List.set_cons_succ]
  refine wpAnyH_take (i := 35) (oi := ({ dst := some 140, op := Op.load 5 (Operand.tmp 139), type := 5, pos := _, after := _, guard := some (26, true) } : Oper)) (v := ?v35) rfl (by kernel_rfl) (by kernel_rfl) (by kernel_rfl) (fun _ _ _ h => h) (Or.inl ⟨by rfl, ?y35⟩) (by assumption) ?r35
  case y35 => (intro w0 hSw; go_split_ands; go_simp; try with_reducible rfl)
  try simp only [Act.put, List.setIfInBounds_toArray, List.set_cons_zero, List.set_cons_succ]
  refine wpAnyH_take (i := 36) (oi := ({ dst := some 141, op := Op.binOp BinOp.eql 5 (Operand.tmp 140) (Operand.const (Value.int IntKind.u8 11)) 5, type := 4, pos := _, after := _, guard := some (26, true) } : Oper)) (v := ?v36) rfl (by kernel_rfl) (by kernel_rfl) (by kernel_rfl) (fun _ _ _ h => h) (Or.inl ⟨by rfl, ?y36⟩) (by assumption) ?r36
  case y36 => (intro w0 hSw; go_split_ands; go_simp; try with_reducible rfl)
  try simp only [Act.put, List.setIfInBounds_toArray, List.set_cons_zero, List.set_cons_succ]
  refine wpAnyH_take (i := 37) (oi := ({ dst := some 142, op := Op.move (Operand.tmp 11), type := 4, pos := _, after := _, guard := some (26, true) } : Oper)) (v := ?v37) rfl (by kernel_rfl) (by kernel_rfl) (by kernel_rfl) (fun _ _ _ h => h) (Or.inl ⟨by rfl, ?y37⟩) (by assumption) ?r37
  case y37 => (intro w0 hSw; go_split_ands; go_simp; try with_reducible rfl)
  try simp only [Act.put, List.setIfInBounds_toArray, List.set_cons_zero, List.set_cons_succ]
  refine wpAnyH_take (i := 38) (oi := ({ dst := some 143, op := Op.binOp BinOp.eql 4 (Operand.tmp 141) (Operand.tmp 142) 4, type := 4, pos := _, after := _, guard := some (26, true) } : Oper)) (v := ?v38) rfl (by kernel_rfl) (by kernel_rfl) (by kernel_rfl) (fun _ _ _ h => h) (Or.inl ⟨by rfl, ?y38⟩) (by assumption) ?r38
  case y38 => (intro w0 hSw; go_split_ands; go_simp; try with_reducible rfl)
  try simp only [Act.put, List.setIfInBounds_toArray, List.set_cons_zero, List.set_cons_succ]
  refine wpAnyH_take (i := 39) (oi := ({ dst := some 144, op := Op.pick (Operand.tmp 131) (Operand.tmp 143) (Operand.const (Value.bool false)), type := 4, pos := _, after := _, guard := none } : Oper)) (v := ?v39) rfl (by kernel_rfl) (by kernel_rfl) (by kernel_rfl) (fun _ _ _ h => h) (Or.inl ⟨by rfl, ?y39⟩) (by assumption) ?r39
  case y39 => (intro w0 hSw; go_split_ands; go_simp; try with_reducible rfl)
  try simp only [Act.put, List.setIfInBounds_toArray, List.set_cons_zero, List.set_cons_succ]
  refine wpAnyH_take (i := 40) (oi := ({ dst := some 145, op := Op.move (Operand.tmp 144), type := 4, pos := _, after := _, guard := none } : Oper)) (v := ?v40) rfl (by kernel_rfl) (by kernel_rfl) (by kernel_rfl) (fun _ _ _ h => h) (Or.inl ⟨by rfl, ?y40⟩) (by assumption) ?r40
  case y40 => (intro w0 hSw; go_split_ands; go_simp; try with_reducible rfl)
  try simp only [Act.put, List.setIfInBounds_toArray, List.set_cons_zero, List.set_cons_succ]
  refine wpAnyH_take (i := 41) (oi := ({ dst := some 146, op := Op.move (Operand.tmp 8), type := 24, pos := _, after := _, guard := some (40, true) } : Oper)) (v := ?v41) rfl (by kernel_rfl) (by kernel_rfl) (by kernel_rfl) (fun _ _ _ h => h) (Or.inl ⟨by rfl, ?y41⟩) (by assumption) ?r41
  case y41 => (intro w0 hSw; go_split_ands; go_simp; try with_reducible rfl)
  try simp only [Act.put, List.setIfInBounds_toArray, List.set_cons_zero, List.set_cons_succ]
  refine wpAnyH_take (i := 42) (oi := ({ dst := some 147, op := Op.nilCheck (Operand.tmp 146), type := 0, pos := _, after := _, guard := some (40, true) } : Oper)) (v := ?v42) rfl (by kernel_rfl) (by kernel_rfl) (by kernel_rfl) (fun _ _ _ h => h) (Or.inl ⟨by rfl, ?y42⟩) (by assumption) ?r42
  case y42 => (intro w0 hSw; go_split_ands; go_simp; try with_reducible rfl)
  try simp only [Act.put, List.setIfInBounds_toArray, List.set_cons_zero, List.set_cons_succ]
  refine wpAnyH_take (i := 43) (oi := ({ dst := some 148, op := Op.fieldAddr 38 (Operand.tmp 147) 4, type := 0, pos := _, after := _, guard := some (40, true) } : Oper)) (v := ?v43) rfl (by kernel_rfl) (by kernel_rfl) (by kernel_rfl) (fun _ _ _ h => h) (Or.inl ⟨by rfl, ?y43⟩) (by assumption) ?r43
  case y43 => (intro w0 hSw; go_split_ands; go_simp; try with_reducible rfl)
  try simp only [Act.put, List.setIfInBounds_toArray, List.set_cons_zero, List.set_cons_succ]
  refine wpAnyH_take (i := 44) (oi := ({ dst := some 149, op := Op.load 36 (Operand.tmp 148), type := 36, pos := _, after := _, guard := some (40, true) } : Oper)) (v := ?v44) rfl (by kernel_rfl) (by kernel_rfl) (by kernel_rfl) (fun _ _ _ h => h) (Or.inl ⟨by rfl, ?y44⟩) (by assumption) ?r44
  case y44 => (intro w0 hSw; go_split_ands; go_simp; try with_reducible rfl)
  try simp only [Act.put, List.setIfInBounds_toArray, List.set_cons_zero, List.set_cons_succ]
  refine wpAnyH_take (i := 45) (oi := ({ dst := some 150, op := Op.indexAddr 36 (Operand.tmp 149) (Operand.const (Value.int IntKind.i64 1)), type := 0, pos := _, after := _, guard := some (40, true) } : Oper)) (v := ?v45) rfl (by kernel_rfl) (by kernel_rfl) (by kernel_rfl) (fun _ _ _ h => h) (Or.inl ⟨by rfl, ?y45⟩) (by assumption) ?r45
  case y45 => (intro w0 hSw; go_split_ands; go_simp; try with_reducible rfl)
  try simp only [Act.put, List.setIfInBounds_toArray, List.set_cons_zero, List.set_cons_succ]
  refine wpAnyH_take (i := 46) (oi := ({ dst := some 151, op := Op.load 24 (Operand.tmp 150), type := 24, pos := _, after := _, guard := some (40, true) } : Oper)) (v := ?v46) rfl (by kernel_rfl) (by kernel_rfl) (by kernel_rfl) (fun _ _ _ h => h) (Or.inl ⟨by rfl, ?y46⟩) (by assumption) ?r46
  case y46 => (intro w0 hSw; go_split_ands; go_simp; try with_reducible rfl)
  try simp only [Act.put, List.setIfInBounds_toArray, List.set_cons_zero, List.set_cons_succ]
  refine wpAnyH_take (i := 47) (oi := ({ dst := some 152, op := Op.nilCheck (Operand.tmp 151), type := 0, pos := _, after := _, guard := some (40, true) } : Oper)) (v := ?v47) rfl (by kernel_rfl) (by kernel_rfl) (by kernel_rfl) (fun _ _ _ h => h) (Or.inl ⟨by rfl, ?y47⟩) (by assumption) ?r47
  case y47 => (intro w0 hSw; go_split_ands; go_simp; try with_reducible rfl)
  try simp only [Act.put, List.setIfInBounds_toArray, List.set_cons_zero, List.set_cons_succ]
  refine wpAnyH_take (i := 48) (oi := ({ dst := some 153, op := Op.fieldAddr 38 (Operand.tmp 152) 0, type := 0, pos := _, after := _, guard := some (40, true) } : Oper)) (v := ?v48) rfl (by kernel_rfl) (by kernel_rfl) (by kernel_rfl) (fun _ _ _ h => h) (Or.inl ⟨by rfl, ?y48⟩) (by assumption) ?r48
  case y48 => (intro w0 hSw; go_split_ands; go_simp; try with_reducible rfl)
  try simp only [Act.put, List.setIfInBounds_toArray, List.set_cons_zero, List.set_cons_succ]
  refine wpAnyH_take (i := 49) (oi := ({ dst := some 154, op := Op.load 5 (Operand.tmp 153), type := 5, pos := _, after := _, guard := some (40, true) } : Oper)) (v := ?v49) rfl (by kernel_rfl) (by kernel_rfl) (by kernel_rfl) (fun _ _ _ h => h) (Or.inl ⟨by rfl, ?y49⟩) (by assumption) ?r49
  case y49 => (intro w0 hSw; go_split_ands; go_simp; try with_reducible rfl)
  try simp only [Act.put, List.setIfInBounds_toArray, List.set_cons_zero, List.set_cons_succ]
  refine wpAnyH_take (i := 50) (oi := ({ dst := some 155, op := Op.binOp BinOp.eql 5 (Operand.tmp 154) (Operand.const (Value.int IntKind.u8 11)) 5, type := 4, pos := _, after := _, guard := some (40, true) } : Oper)) (v := ?v50) rfl (by kernel_rfl) (by kernel_rfl) (by kernel_rfl) (fun _ _ _ h => h) (Or.inl ⟨by rfl, ?y50⟩) (by assumption) ?r50
  case y50 => (intro w0 hSw; go_split_ands; go_simp; try with_reducible rfl)
  try simp only [Act.put, List.setIfInBounds_toArray, List.set_cons_zero, List.set_cons_succ]
  refine wpAnyH_take (i := 51) (oi := ({ dst := some 156, op := Op.move (Operand.tmp 11), type := 4, pos := _, after := _, guard := some (40, true) } : Oper)) (v := ?v51) rfl (by kernel_rfl) (by kernel_rfl) (by kernel_rfl) (fun _ _ _ h => h) (Or.inl ⟨by rfl, ?y51⟩) (by assumption) ?r51
  case y51 => (intro w0 hSw; go_split_ands; go_simp; try with_reducible rfl)
  try simp only [Act.put, List.setIfInBounds_toArray, List.set_cons_zero, List.set_cons_succ]
  refine wpAnyH_take (i := 52) (oi := ({ dst := some 157, op := Op.unOp UnOp.not 4 (Operand.tmp 156), type := 4, pos := _, after := _, guard := some (40, true) } : Oper)) (v := ?v52) rfl (by kernel_rfl) (by kernel_rfl) (by kernel_rfl) (fun _ _ _ h => h) (Or.inl ⟨by rfl, ?y52⟩) (by assumption) ?r52
  case y52 => (intro w0 hSw; go_split_ands; go_simp; try with_reducible rfl)
  try simp only [Act.put, List.setIfInBounds_toArray, List.set_cons_zero, List.set_cons_succ]
  refine wpAnyH_take (i := 53) (oi := ({ dst := some 158, op := Op.binOp BinOp.eql 4 (Operand.tmp 155) (Operand.tmp 157) 4, type := 4, pos := _, after := _, guard := some (40, true) } : Oper)) (v := ?v53) rfl (by kernel_rfl) (by kernel_rfl) (by kernel_rfl) (fun _ _ _ h => h) (Or.inl ⟨by rfl, ?y53⟩) (by assumption) ?r53
  case y53 => (intro w0 hSw; go_split_ands; go_simp; try with_reducible rfl)
  try simp only [Act.put, List.setIfInBounds_toArray, List.set_cons_zero, List.set_cons_succ]
  refine wpAnyH_take (i := 54) (oi := ({ dst := some 159, op := Op.pick (Operand.tmp 145) (Operand.tmp 158) (Operand.const (Value.bool false)), type := 4, pos := _, after := _, guard := none } : Oper)) (v := ?v54) rfl (by kernel_rfl) (by kernel_rfl) (by kernel_rfl) (fun _ _ _ h => h) (Or.inl ⟨by rfl, ?y54⟩) (by assumption) ?r54
  case y54 => (intro w0 hSw; go_split_ands; go_simp; try with_reducible rfl)
  try simp only [Act.put, List.setIfInBounds_toArray, List.set_cons_zero, List.set_cons_succ]
  refine wpAnyH_take (i := 55) (oi := ({ dst := some 160, op := Op.move (Operand.tmp 159), type := 4, pos := _, after := _, guard := none } : Oper)) (v := ?v55) rfl (by kernel_rfl) (by kernel_rfl) (by kernel_rfl) (fun _ _ _ h => h) (Or.inl ⟨by rfl, ?y55⟩) (by assumption) ?r55
  case y55 => (intro w0 hSw; go_split_ands; go_simp; try with_reducible rfl)
  try simp only [Act.put, List.setIfInBounds_toArray, List.set_cons_zero, List.set_cons_succ]
  refine wpAnyH_ready (rs := [56]) (by kernel_rfl) (by simp) ?_
  refine AllReadyH.cons (o := ({ dst := some 161, op := Op.call { callee := Callee.value (Operand.func 8), args := #[], argTypes := #[] }, type := 4, pos := _, after := _, guard := some (55, true) } : Oper)) rfl (fun K hK => ?_) AllReadyH.nil
  go_simp
  go_at_call 8; (with_reducible refine (WK.out _).mono ?_); rintro e wk ⟨rfl, hb⟩
  refine hK.out _ _ (by refine held_9 ?_ (by assumption) <;> assumption) (fun hHeld => ?_)
  clear hK K
  try simp only [Act.put, List.setIfInBounds_toArray, List.set_cons_zero, List.set_cons_succ]
  refine wpAnyH_take (i := 57) (oi := ({ dst := some 162, op := Op.pick (Operand.tmp 160) (Operand.tmp 161) (Operand.const (Value.bool false)), type := 4, pos := _, after := _, guard := none } : Oper)) (v := ?v57) rfl (by kernel_rfl) (by kernel_rfl) (by kernel_rfl) (fun _ _ _ h => h) (Or.inl ⟨by rfl, ?y57⟩) (by assumption) ?r57
  case y57 => (intro w0 hSw; go_split_ands; go_simp; try with_reducible rfl)
  try simp only [Act.put, List.setIfInBounds_toArray, List.set_cons_zero, List.set_cons_succ]
  refine wpAnyH_take (i := 58) (oi := ({ dst := some 4, op := Op.assign (Operand.tmp 162), type := 4, pos := _, after := _, guard := none } : Oper)) (v := ?v58) rfl (by kernel_rfl) (by kernel_rfl) (by kernel_rfl) (fun _ _ _ h => h) (Or.inl ⟨by rfl, ?y58⟩) (by assumption) ?r58
  case y58 => (intro w0 hSw; go_split_ands; go_simp; try with_reducible rfl)
  try simp only [Act.put, List.setIfInBounds_toArray, List.set_cons_zero, List.set_cons_succ]
  refine wpAnyH_done (by kernel_rfl) ?_ _
  have hS := hHeld
  obtain ⟨_, _, _, _, _, _, _, _, ks⟩ := hS
  go_wp2
  go_ret
  exact ⟨rfl, ks.bel⟩
set_option maxRecDepth 100000 in
set_option maxHeartbeats 12800000 in
theorem sides_c (p q : Nat) (hp : p < 15) (hq : q < 15) (a1 a2 : Int) (h1 : 0 ≤ a1 ∧ a1 ≤ 255) (h2 : 0 ≤ a2 ∧ a2 ≤ 255) (e1 : a1 % 15 = (p : Int)) (e2 : a2 % 15 = (q : Int)) (hz : ¬ (opLev p = 0 ∧ opLev q = 0)) (zp : ((opLev p : Int) == 0) = false) (hlq : decide (opLev q ≤ opLev p) = false) (hpq : decide (opB p = opB q) = false ∨ decide (opLev q ≤ opLev p) = true) (w : World) :
    Calls Try.prog 4 #[.int .u8 a1, .int .u8 a2] w fun e w' => e = .returned (.bool true) ∧ Below w.heap.size w w' := by
  obtain ⟨d, d0, f0, d1, f1, hx, hk, hn0, hn1⟩ := side_some hp hq
  have x1 : 0 ≤ a1 := h1.1
  have x2 : a1 ≤ 255 := h1.2
  have x3 : 0 ≤ a2 := h2.1
  have x4 : a2 ≤ 255 := h2.2
  have x5 : (0 : Int) ≤ (p : Int) := by omega
  have x6 : (0 : Int) ≤ (q : Int) := by omega
  have x7 : (p : Int) < 15 := by omega
  have x8 : (q : Int) < 15 := by omega
  have c1 := opsV_at p hp
  have c2 := opsV_at q hq
  have s1 := op_size p hp
  have s2 := op_size q hq
  have hts : (sideTx p q).size ≤ 20 := by
    unfold sideTx
    simp only [ByteArray.size_append]
    show 2 + (opB p).size + 3 + (opB q).size + 2 ≤ 20
    omega
  obtain ⟨L, hL⟩ : ∃ L, rowP (sideTx p q).data.toList = L := ⟨_, rfl⟩
  rw [hL, show sideN p q = 5 from by unfold sideN; rw [if_neg hz]] at hx
  have RW := Lib.hid (show ∀ w, Calls Try.prog 10 #[.string (⟨#[117, 32]⟩ ++ opB p ++ ⟨#[32, 118, 32]⟩ ++ opB q ++ ⟨#[32, 119]⟩)] w (RowR w L) from fun w => row_at (sideTx p q) (by omega) L hL w)
  have HX := Lib.hid hx
  have HK := Lib.hid hk
  have HNA := Lib.hid (And.intro hn0 hn1)
  obtain ⟨hn1, hn2, hn3⟩ := hn1 hz
  rw [hlq] at hn1 hn2 hn3
  rw [show decide (opB p = opB q) = false from hpq.resolve_right (by rw [hlq]; simp), Bool.false_or] at hn1
  simp only [Bool.not_true, Bool.not_false] at hn3
  have q1 : (d.name.toList == (opB q).toList) = false := by rw [← hn1]; exact bytes_beq _ _
  have q2 : ((d0.kind : Int) == 11) = false := by rw [← hn2, Bool.eq_iff_iff, beq_iff_eq, decide_eq_true_eq]; omega
  have q3 : ((d1.kind : Int) == 11) = true := by rw [← hn3, Bool.eq_iff_iff, beq_iff_eq, decide_eq_true_eq]; omega
  have q4 : ((opB p).toList == (opB q).toList) = false := by rw [← hpq.resolve_right (by rw [hlq]; simp)]; exact bytes_beq _ _
  have q5 : decide ((opLev q : Int) ≤ (opLev p : Int)) = false := by rw [← hlq]; simp
  clear hn2 hn3 hpq
  have LP := Lib.hid (level_any p)
  have LQ := Lib.hid (level_any q)
  have WK := Lib.hid works_any
  clear hx hk hn0 hn1 hL hts h1 h2
  have C1 : (w.alloc (.cells opsV 9)).cell? ⟨w.heap.size, p, none⟩ = some (.string (opB p)) := by
    rw [cell_of_row _ _ p opsV _ (0, 0) (heap_alloc_new w _)]; exact c1
  have C2 : (w.alloc (.cells opsV 9)).cell? ⟨w.heap.size, q, none⟩ = some (.string (opB q)) := by
    rw [cell_of_row _ _ q opsV _ (0, 0) (heap_alloc_new w _)]; exact c2
  have KS : KeptS w (w.alloc (.cells opsV 9)) := ⟨by rw [World.size_alloc]; exact Nat.lt_succ_self _, (Below.refl w.heap.size w).alloc (Nat.le_refl _) (.cells opsV 9)⟩
  obtain ⟨wa, hwa⟩ : ∃ wa, w.alloc (.cells opsV 9) = wa := ⟨_, rfl⟩
  rw [hwa] at C1 C2 KS
  have HWA := Lib.hid hwa
  have HD0 : wa.drew.cell? ⟨w.heap.size, p, none⟩ = some (.string (opB p)) ∧ wa.drew.cell? ⟨w.heap.size, q, none⟩ = some (.string (opB q)) ∧ KeptS w wa.drew := ⟨C1, C2, ⟨KS.lt, KS.bel.drew⟩⟩
  have HE := Lib.hid (And.intro e1 e2)
  clear c1 c2 hwa C1 C2 KS e1 e2
  have g1 : ¬ 9223372036854775807 < 2 + (opB p).size := by omega
  have g2 : ¬ 9223372036854775807 < 2 + (opB p).size + 3 := by omega
  have g3 : ¬ 9223372036854775807 < 2 + (opB p).size + 3 + (opB q).size := by omega
  have g4 : ¬ 9223372036854775807 < 2 + (opB p).size + 3 + (opB q).size + 2 := by omega
  go_enter Try.func4, Try.ntmps4
  go_wp2
  rw [HE.out.1, HE.out.2]
  rw [show w.alloc (.cells #[.string ⟨#[42]⟩, .string ⟨#[47]⟩, .string ⟨#[68, 73, 86]⟩, .string ⟨#[77, 79, 68]⟩, .string ⟨#[65, 78, 68]⟩, .string ⟨#[43]⟩, .string ⟨#[45]⟩, .string ⟨#[79, 82]⟩, .string ⟨#[61]⟩, .string ⟨#[35]⟩, .string ⟨#[60]⟩, .string ⟨#[60, 61]⟩, .string ⟨#[62]⟩, .string ⟨#[62, 61]⟩, .string ⟨#[73, 78]⟩] 9) = wa from HWA.out]
  clear HWA
  go_region_held3 (fun w' => w'.cell? ⟨w.heap.size, p, none⟩ = some (.string (opB p)) ∧ w'.cell? ⟨w.heap.size, q, none⟩ = some (.string (opB q)) ∧ KeptS w w') ((first | exact HD0 | (refine held_s ?_ (by assumption) <;> assumption) | assumption))
    ((first
      | (go_at_call 10; (with_reducible refine (RW.out _).mono ?_); rintro e wr ⟨A, c, rfl, _, ha, hb⟩; have D1 := Lib.hid (HX.out ▸ Expr_0 ha c))
      | (go_at_call 11; (with_reducible refine D1.out.mono ?_); rintro e wx ⟨b, rfl, hr, hb⟩)))
  rename_i hS
  obtain ⟨cp, cq, ks⟩ := hS
  obtain ⟨g, off, cc, b0, b1, t0, t1, t2, t3, t4, t5, t6⟩ := two_at hr
  rw [HK.out] at t0
  clear hr ha D1 g1 g2 g3 g4
  clear hz HNA
  go_wp2_with fail
  ((with_reducible refine (LP.out _).mono ?_); rintro e w1 ⟨rfl, rfl⟩)
  go_wp2_with fail
  ((with_reducible refine (LP.out _).mono ?_); rintro e w1 ⟨rfl, rfl⟩)
  go_wp2_with fail
  ((with_reducible refine (LQ.out _).mono ?_); rintro e w1 ⟨rfl, rfl⟩)
  go_wp2
  have HD0 : wx.drew.cell? ⟨b, 2, none⟩ = some (.string d.name) ∧ wx.drew.cell? ⟨b, 4, none⟩ = some (.slice (some ⟨g, off, none⟩) 2 cc) ∧ wx.drew.cell? ⟨g, off, none⟩ = some (.pointer (some ⟨b0, 0, none⟩)) ∧ wx.drew.cell? ⟨g, off + 1, none⟩ = some (.pointer (some ⟨b1, 0, none⟩)) ∧ wx.drew.cell? ⟨b0, 0, none⟩ = some (.int .u8 d0.kind) ∧ wx.drew.cell? ⟨b1, 0, none⟩ = some (.int .u8 d1.kind) ∧ wx.drew.cell? ⟨w.heap.size, p, none⟩ = some (.string (opB p)) ∧ wx.drew.cell? ⟨w.heap.size, q, none⟩ = some (.string (opB q)) ∧ KeptS w wx.drew := ⟨t1, t2, t3, t4, t5, t6, cp, cq, ⟨ks.lt, ks.bel.drew⟩⟩
  clear t1 t2 t3 t4 t5 t6 cp cq ks
  go_region_held3 (fun w' => w'.cell? ⟨b, 2, none⟩ = some (.string d.name) ∧ w'.cell? ⟨b, 4, none⟩ = some (.slice (some ⟨g, off, none⟩) 2 cc) ∧ w'.cell? ⟨g, off, none⟩ = some (.pointer (some ⟨b0, 0, none⟩)) ∧ w'.cell? ⟨g, off + 1, none⟩ = some (.pointer (some ⟨b1, 0, none⟩)) ∧ w'.cell? ⟨b0, 0, none⟩ = some (.int .u8 d0.kind) ∧ w'.cell? ⟨b1, 0, none⟩ = some (.int .u8 d1.kind) ∧ w'.cell? ⟨w.heap.size, p, none⟩ = some (.string (opB p)) ∧ w'.cell? ⟨w.heap.size, q, none⟩ = some (.string (opB q)) ∧ KeptS w w') ((first | exact HD0 | (refine held_9 ?_ (by assumption) <;> assumption) | assumption))
    ((first
      | (go_at_call 8; (with_reducible refine (WK.out _).mono ?_); rintro e wk ⟨rfl, hb⟩)))
  rename_i hS
  obtain ⟨_, _, _, _, _, _, _, _, ks⟩ := hS
  go_wp2
  go_ret
  exact ⟨rfl, ks.bel⟩
theorem sides_law (a0 a1 : Int) (w0 : (Lit.int .u8 a0).wf = true) (w1 : (Lit.int .u8 a1).wf = true) (w : World) :
    Calls Try.prog 4 #[.int .u8 a0, .int .u8 a1] w fun e w' => e = .returned (.bool true) ∧ Below w.heap.size w w' := by
  have b0 := bounds_u8 w0
  have b1 := bounds_u8 w1
  obtain ⟨p, e1⟩ : ∃ p : Nat, a0 % 15 = (p : Int) := ⟨(a0 % 15).toNat, by omega⟩
  obtain ⟨q, e2⟩ : ∃ q : Nat, a1 % 15 = (q : Int) := ⟨(a1 % 15).toNat, by omega⟩
  have hp : p < 15 := by omega
  have hq : q < 15 := by omega
  by_cases hz : opLev p = 0 ∧ opLev q = 0
  · exact sides_zero p q hp hq a0 a1 ⟨by omega, by omega⟩ ⟨by omega, by omega⟩ e1 e2 hz w
  · by_cases zp : opLev p = 0
    · have zq : ¬ opLev q = 0 := fun h => hz ⟨zp, h⟩
      exact sides_a p q hp hq a0 a1 ⟨by omega, by omega⟩ ⟨by omega, by omega⟩ e1 e2 hz (by rw [zp]; rfl) (by simp only [beq_eq_false_iff_ne, ne_eq]; omega) (by simp only [decide_eq_false_iff_not]; omega) (.inl (decide_eq_false (op_apart p hp q hq (by omega)))) w
    · have z : ((opLev p : Int) == 0) = false := by simp only [beq_eq_false_iff_ne, ne_eq]; omega
      by_cases hl : opLev q ≤ opLev p
      · exact sides_b p q hp hq a0 a1 ⟨by omega, by omega⟩ ⟨by omega, by omega⟩ e1 e2 hz z (decide_eq_true hl) (.inr (decide_eq_true hl)) w
      · exact sides_c p q hp hq a0 a1 ⟨by omega, by omega⟩ ⟨by omega, by omega⟩ e1 e2 hz z (decide_eq_false hl) (.inl (decide_eq_false (op_apart p hp q hq (by omega)))) w
end Go.Proofs.Ytnboenmkngjhmaa.Ex
