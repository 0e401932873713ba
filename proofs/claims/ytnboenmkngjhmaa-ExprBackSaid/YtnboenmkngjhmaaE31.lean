/- The walk of ExprSides. -/
import Derived.Test.YtnboenmkngjhmaaE28
import Derived.Test.YtnboenmkngjhmaaF8
import Derived.Deep.RegionHeld3
import Derived.Deep.DrawnRows
set_option linter.unusedSimpArgs false
set_option linter.unusedVariables false
namespace Go.Proofs.Ytnboenmkngjhmaa.Ex
open Go.RowKit
open Tr (Nd Fo RepS RepN Rep)
open Lx (Tk noTk Blk run_store_complexL TokAt scanL flat scanEnd at_ flat_len bt)
open Fl
attribute [local go_sem] run_store_complexL run_field1 run_field3

abbrev opsV : Array Value := #[.string ⟨#[42]⟩, .string ⟨#[47]⟩, .string ⟨#[68, 73, 86]⟩, .string ⟨#[77, 79, 68]⟩, .string ⟨#[65, 78, 68]⟩, .string ⟨#[43]⟩, .string ⟨#[45]⟩, .string ⟨#[79, 82]⟩, .string ⟨#[61]⟩, .string ⟨#[35]⟩, .string ⟨#[60]⟩, .string ⟨#[60, 61]⟩, .string ⟨#[62]⟩, .string ⟨#[62, 61]⟩, .string ⟨#[73, 78]⟩]
theorem opsV_at : ∀ k, k < 15 → opsV[k]? = some (.string (opB k)) := by
  intro k hk
  iterate 15 (rcases k with _ | k; · rfl)
  omega
theorem op_size : ∀ k, k < 15 → (opB k).size ≤ 3 := by decide
theorem op_apart : ∀ p, p < 15 → ∀ q, q < 15 → opLev p < opLev q → opB p ≠ opB q := by decide
theorem level_any (k : Nat) (w : World) : Calls Try.prog 13 #[.int .i64 k] w fun e w' => e = .returned (.int .i64 (opLev k : Nat)) ∧ w = w' := by
  have x0 : (0 : Int) ≤ (k : Int) := by omega
  by_cases h1 : k < 5
  · have y1 : (k : Int) < 5 := by omega
    have H := Lib.hid (show opLev k = 2 by unfold opLev; rw [if_pos h1])
    clear h1
    go_enter Try.func13, Try.ntmps13
    go_wp2
    go_ret
    exact ⟨by rw [H.out]; rfl, rfl⟩
  · by_cases h2 : k < 8
    · have y1 : ¬ (k : Int) < 5 := by omega
      have y2 : (k : Int) < 8 := by omega
      have H := Lib.hid (show opLev k = 1 by unfold opLev; rw [if_neg h1, if_pos h2])
      clear h1 h2
      go_enter Try.func13, Try.ntmps13
      go_wp2
      go_ret
      exact ⟨by rw [H.out]; rfl, rfl⟩
    · have y1 : ¬ (k : Int) < 5 := by omega
      have y2 : ¬ (k : Int) < 8 := by omega
      have H := Lib.hid (show opLev k = 0 by unfold opLev; rw [if_neg h1, if_neg h2])
      clear h1 h2
      go_enter Try.func13, Try.ntmps13
      go_wp2
      go_ret
      exact ⟨by rw [H.out]; rfl, rfl⟩
theorem bytes_beq (a b : ByteArray) : (a.toList == b.toList) = decide (a = b) := by
  have h1 : a.toList = a.data.toList := ByteArray.toList_eq a
  have h2 : b.toList = b.data.toList := ByteArray.toList_eq b
  rw [h1, h2, Bool.eq_iff_iff, beq_iff_eq, decide_eq_true_eq]
  exact ⟨fun h => Lx.bytes_ext h, fun h => by rw [h]⟩
/-- A tree of two kids in memory. -/
structure TwoAt (w : World) (b : Nat) (d d0 d1 : Nd) (g off c b0 b1 : Nat) : Prop where
  kind : w.cell? ⟨b, 0, none⟩ = some (.int .u8 d.kind)
  name : w.cell? ⟨b, 2, none⟩ = some (.string d.name)
  kids : w.cell? ⟨b, 4, none⟩ = some (.slice (some ⟨g, off, none⟩) 2 c)
  k0 : w.cell? ⟨g, off, none⟩ = some (.pointer (some ⟨b0, 0, none⟩))
  k1 : w.cell? ⟨g, off + 1, none⟩ = some (.pointer (some ⟨b1, 0, none⟩))
  kind0 : w.cell? ⟨b0, 0, none⟩ = some (.int .u8 d0.kind)
  kind1 : w.cell? ⟨b1, 0, none⟩ = some (.int .u8 d1.kind)
theorem two_at {S : Nat → Prop} {w : World} {b : Nat} {d d0 d1 : Nd} {k0 k1 : Fo} (h : RepS S w (.node d (.node d0 k0 (.node d1 k1 .no)) .no) [.pointer (some ⟨b, 0, none⟩)]) : ∃ g off c b0 b1, TwoAt w b d d0 d1 g off c b0 b1 := by
  unfold RepS at h
  obtain ⟨b', A, c, ks, vs', e, hS, ⟨h0, h1, h2, h3, h4⟩, _, hr, hk, _⟩ := h
  injection e with e _
  injection e with e
  injection e with e
  injection e with e
  subst e
  unfold RepS at hk
  obtain ⟨b0, A0, c0, ks0, vs0, e0, _, ⟨z0, _⟩, _, _, _, hk2⟩ := hk
  unfold RepS at hk2
  obtain ⟨b1, A1, c1, ks1, vs1, e1, _, ⟨z1, _⟩, _, _, _, hk3⟩ := hk2
  unfold RepS at hk3
  subst hk3 e1 e0
  obtain ⟨bb, off, e2, hc0⟩ := Tr.Reads.nth hr (i := 0) (by simp)
  obtain ⟨bb', off', e3, hc1⟩ := Tr.Reads.nth hr (i := 1) (by simp)
  rw [e2] at e3
  injection e3 with e3
  injection e3 with e3 e4
  subst e3 e4
  rw [e2] at h4
  exact ⟨bb, off, c, b0, b1, h0, h2, by simpa using h4, by simpa using hc0, by simpa using hc1, z0, z1⟩
/-- A later world than w, in which what was made then is still there. -/
structure KeptS (w w' : World) : Prop where
  lt : w.heap.size < w'.heap.size
  bel : Below w.heap.size w w'
theorem kept_s {w w' w2 : World} (h : KeptS w w') (hb : Below w'.heap.size w' w2) : KeptS w w2 := by
  obtain ⟨h1, h2⟩ := h
  exact ⟨Nat.lt_of_lt_of_le h1 hb.size, h2.trans (hb.mono h2.size)⟩
theorem held_s {w w' w2 : World} {p q : Nat} {u v : Value} (h : w'.cell? ⟨w.heap.size, p, none⟩ = some u ∧ w'.cell? ⟨w.heap.size, q, none⟩ = some v ∧ KeptS w w') (hb : Below w'.heap.size w' w2) : w2.cell? ⟨w.heap.size, p, none⟩ = some u ∧ w2.cell? ⟨w.heap.size, q, none⟩ = some v ∧ KeptS w w2 :=
  ⟨(hb.cell (p := ⟨w.heap.size, p, none⟩) h.2.2.lt).trans h.1, (hb.cell (p := ⟨w.heap.size, q, none⟩) h.2.2.lt).trans h.2.1, kept_s h.2.2 hb⟩
theorem held_7 {w w' w2 : World} {b p : Nat} {u v : Value} (h : w'.cell? ⟨b, 2, none⟩ = some u ∧ w'.cell? ⟨w.heap.size, p, none⟩ = some v ∧ KeptS w w') (hb : Below w'.heap.size w' w2) : w2.cell? ⟨b, 2, none⟩ = some u ∧ w2.cell? ⟨w.heap.size, p, none⟩ = some v ∧ KeptS w w2 :=
  ⟨(hb.cell (p := ⟨b, 2, none⟩) (Tr.cell_lt h.1)).trans h.1, (hb.cell (p := ⟨w.heap.size, p, none⟩) h.2.2.lt).trans h.2.1, kept_s h.2.2 hb⟩
theorem held_9 {w w' w2 : World} {b p q g off b0 b1 : Nat} {v1 v2 v3 v4 v5 v6 v7 v8 : Value}
    (h : w'.cell? ⟨b, 2, none⟩ = some v1 ∧ w'.cell? ⟨b, 4, none⟩ = some v2 ∧ w'.cell? ⟨g, off, none⟩ = some v3 ∧ w'.cell? ⟨g, off + 1, none⟩ = some v4 ∧ w'.cell? ⟨b0, 0, none⟩ = some v5 ∧ w'.cell? ⟨b1, 0, none⟩ = some v6 ∧ w'.cell? ⟨w.heap.size, p, none⟩ = some v7 ∧ w'.cell? ⟨w.heap.size, q, none⟩ = some v8 ∧ KeptS w w') (hb : Below w'.heap.size w' w2) :
    w2.cell? ⟨b, 2, none⟩ = some v1 ∧ w2.cell? ⟨b, 4, none⟩ = some v2 ∧ w2.cell? ⟨g, off, none⟩ = some v3 ∧ w2.cell? ⟨g, off + 1, none⟩ = some v4 ∧ w2.cell? ⟨b0, 0, none⟩ = some v5 ∧ w2.cell? ⟨b1, 0, none⟩ = some v6 ∧ w2.cell? ⟨w.heap.size, p, none⟩ = some v7 ∧ w2.cell? ⟨w.heap.size, q, none⟩ = some v8 ∧ KeptS w w2 := by
  obtain ⟨h1, h2, h3, h4, h5, h6, h7, h8, h9⟩ := h
  have k : ∀ {x o : Nat} {v : Value}, w'.cell? ⟨x, o, none⟩ = some v → w2.cell? ⟨x, o, none⟩ = some v := fun {x o v} h => (hb.cell (p := ⟨x, o, none⟩) (Tr.cell_lt h)).trans h
  exact ⟨k h1, k h2, k h3, k h4, k h5, k h6, k h7, k h8, kept_s h9 hb⟩
set_option maxRecDepth 100000 in
set_option maxHeartbeats 12800000 in
theorem sides_zero (p q : Nat) (hp : p < 15) (hq : q < 15) (a1 a2 : Int) (h1 : 0 ≤ a1 ∧ a1 ≤ 255) (h2 : 0 ≤ a2 ∧ a2 ≤ 255) (e1 : a1 % 15 = (p : Int)) (e2 : a2 % 15 = (q : Int)) (hz : opLev p = 0 ∧ opLev q = 0) (w : World) :
    Calls Try.prog 4 #[.int .u8 a1, .int .u8 a2] w fun e w' => e = .returned (.bool true) ∧ Below w.heap.size w w' := by
  obtain ⟨d, d0, f0, d1, f1, hx, hk, hn0, hn1⟩ := side_some hp hq
  have x1 : 0 ≤ a1 := h1.1
  have x2 : a1 ≤ 255 := h1.2
  have x3 : 0 ≤ a2 := h2.1
  have x4 : a2 ≤ 255 := h2.2
  have x5 : (0 : Int) ≤ (p : Int) := by omega
  have x6 : (0 : Int) ≤ (q : Int) := by omega
  have x7 : (p : Int) < 15 := by omega
  have x8 : (q : Int) < 15 := by omega
  have c1 := opsV_at p hp
  have c2 := opsV_at q hq
  have s1 := op_size p hp
  have s2 := op_size q hq
  have hts : (sideTx p q).size ≤ 20 := by
    unfold sideTx
    simp only [ByteArray.size_append]
    show 2 + (opB p).size + 3 + (opB q).size + 2 ≤ 20
    omega
  obtain ⟨L, hL⟩ : ∃ L, rowP (sideTx p q).data.toList = L := ⟨_, rfl⟩
  rw [hL, show sideN p q = 3 from by unfold sideN; rw [if_pos hz]] at hx
  have RW := Lib.hid (show ∀ w, Calls Try.prog 10 #[.string (⟨#[117, 32]⟩ ++ opB p ++ ⟨#[32, 118, 32]⟩ ++ opB q ++ ⟨#[32, 119]⟩)] w (RowR w L) from fun w => row_at (sideTx p q) (by omega) L hL w)
  have HX := Lib.hid hx
  have HK := Lib.hid hk
  have HNA := Lib.hid (And.intro hn0 hn1)
  have hnm := hn0 hz
  have HNM := Lib.hid hnm
  clear hnm
  have LP := Lib.hid (level_any p)
  have LQ := Lib.hid (level_any q)
  have WK := Lib.hid works_any
  clear hx hk hn0 hn1 hL hts h1 h2
  have C1 : (w.alloc (.cells opsV 9)).cell? ⟨w.heap.size, p, none⟩ = some (.string (opB p)) := by
    rw [cell_of_row _ _ p opsV _ (0, 0) (heap_alloc_new w _)]; exact c1
  have C2 : (w.alloc (.cells opsV 9)).cell? ⟨w.heap.size, q, none⟩ = some (.string (opB q)) := by
    rw [cell_of_row _ _ q opsV _ (0, 0) (heap_alloc_new w _)]; exact c2
  have KS : KeptS w (w.alloc (.cells opsV 9)) := ⟨by rw [World.size_alloc]; exact Nat.lt_succ_self _, (Below.refl w.heap.size w).alloc (Nat.le_refl _) (.cells opsV 9)⟩
  obtain ⟨wa, hwa⟩ : ∃ wa, w.alloc (.cells opsV 9) = wa := ⟨_, rfl⟩
  rw [hwa] at C1 C2 KS
  have HWA := Lib.hid hwa
  have HD0 : wa.drew.cell? ⟨w.heap.size, p, none⟩ = some (.string (opB p)) ∧ wa.drew.cell? ⟨w.heap.size, q, none⟩ = some (.string (opB q)) ∧ KeptS w wa.drew := ⟨C1, C2, ⟨KS.lt, KS.bel.drew⟩⟩
  have HE := Lib.hid (And.intro e1 e2)
  clear c1 c2 hwa C1 C2 KS e1 e2
  have g1 : ¬ 9223372036854775807 < 2 + (opB p).size := by omega
  have g2 : ¬ 9223372036854775807 < 2 + (opB p).size + 3 := by omega
  have g3 : ¬ 9223372036854775807 < 2 + (opB p).size + 3 + (opB q).size := by omega
  have g4 : ¬ 9223372036854775807 < 2 + (opB p).size + 3 + (opB q).size + 2 := by omega
  go_enter Try.func4, Try.ntmps4
  go_wp2
  rw [HE.out.1, HE.out.2]
  rw [show w.alloc (.cells #[.string ⟨#[42]⟩, .string ⟨#[47]⟩, .string ⟨#[68, 73, 86]⟩, .string ⟨#[77, 79, 68]⟩, .string ⟨#[65, 78, 68]⟩, .string ⟨#[43]⟩, .string ⟨#[45]⟩, .string ⟨#[79, 82]⟩, .string ⟨#[61]⟩, .string ⟨#[35]⟩, .string ⟨#[60]⟩, .string ⟨#[60, 61]⟩, .string ⟨#[62]⟩, .string ⟨#[62, 61]⟩, .string ⟨#[73, 78]⟩] 9) = wa from HWA.out]
  clear HWA
  go_region_held3 (fun w' => w'.cell? ⟨w.heap.size, p, none⟩ = some (.string (opB p)) ∧ w'.cell? ⟨w.heap.size, q, none⟩ = some (.string (opB q)) ∧ KeptS w w') ((first | exact HD0 | (refine held_s ?_ (by assumption) <;> assumption) | assumption))
    ((first
      | (go_at_call 10; (with_reducible refine (RW.out _).mono ?_); rintro e wr ⟨A, c, rfl, _, ha, hb⟩; have D1 := Lib.hid (HX.out ▸ Expr_0 ha c))
      | (go_at_call 11; (with_reducible refine D1.out.mono ?_); rintro e wx ⟨b, rfl, hr, hb⟩)))
  rename_i hS
  obtain ⟨cp, cq, ks⟩ := hS
  obtain ⟨g, off, cc, b0, b1, t0, t1, t2, t3, t4, t5, t6⟩ := two_at hr
  rw [HK.out] at t0
  clear hr ha D1 g1 g2 g3 g4
  rw [HNM.out] at t1
  have LP := Lib.hid (show ∀ w, Calls Try.prog 13 #[.int .i64 p] w fun e w' => e = .returned (.int .i64 0) ∧ w = w' from fun w => by have := LP.out w; rw [hz.1] at this; exact this)
  have LQ := Lib.hid (show ∀ w, Calls Try.prog 13 #[.int .i64 q] w fun e w' => e = .returned (.int .i64 0) ∧ w = w' from fun w => by have := LQ.out w; rw [hz.2] at this; exact this)
  clear hz t5 t6 cq hb HNA
  go_wp2_with fail
  ((with_reducible refine (LP.out _).mono ?_); rintro e w1 ⟨rfl, rfl⟩)
  go_wp2_with fail
  ((with_reducible refine (LQ.out _).mono ?_); rintro e w1 ⟨rfl, rfl⟩)
  go_wp2
  have HD0 : wx.drew.cell? ⟨b, 2, none⟩ = some (.string (opB p)) ∧ wx.drew.cell? ⟨w.heap.size, p, none⟩ = some (.string (opB p)) ∧ KeptS w wx.drew := ⟨t1, cp, ⟨ks.lt, ks.bel.drew⟩⟩
  clear t1 t2 t3 t4 cp ks
  go_region_held3 (fun w' => w'.cell? ⟨b, 2, none⟩ = some (.string (opB p)) ∧ w'.cell? ⟨w.heap.size, p, none⟩ = some (.string (opB p)) ∧ KeptS w w') ((first | exact HD0 | (refine held_7 ?_ (by assumption) <;> assumption) | assumption))
    ((first
      | (go_at_call 8; (with_reducible refine (WK.out _).mono ?_); rintro e wk ⟨rfl, hb⟩)))
  rename_i hS
  obtain ⟨_, _, ks⟩ := hS
  go_wp2
  go_ret
  exact ⟨rfl, ks.bel⟩
set_option maxRecDepth 100000 in
set_option maxHeartbeats 12800000 in
theorem sides_a (p q : Nat) (hp : p < 15) (hq : q < 15) (a1 a2 : Int) (h1 : 0 ≤ a1 ∧ a1 ≤ 255) (h2 : 0 ≤ a2 ∧ a2 ≤ 255) (e1 : a1 % 15 = (p : Int)) (e2 : a2 % 15 = (q : Int)) (hz : ¬ (opLev p = 0 ∧ opLev q = 0)) (zp : ((opLev p : Int) == 0) = true) (zq : ((opLev q : Int) == 0) = false) (hlq : decide (opLev q ≤ opLev p) = false) (hpq : decide (opB p = opB q) = false ∨ decide (opLev q ≤ opLev p) = true) (w : World) :
    Calls Try.prog 4 #[.int .u8 a1, .int .u8 a2] w fun e w' => e = .returned (.bool true) ∧ Below w.heap.size w w' := by
  obtain ⟨d, d0, f0, d1, f1, hx, hk, hn0, hn1⟩ := side_some hp hq
  have x1 : 0 ≤ a1 := h1.1
  have x2 : a1 ≤ 255 := h1.2
  have x3 : 0 ≤ a2 := h2.1
  have x4 : a2 ≤ 255 := h2.2
  have x5 : (0 : Int) ≤ (p : Int) := by omega
  have x6 : (0 : Int) ≤ (q : Int) := by omega
  have x7 : (p : Int) < 15 := by omega
  have x8 : (q : Int) < 15 := by omega
  have c1 := opsV_at p hp
  have c2 := opsV_at q hq
  have s1 := op_size p hp
  have s2 := op_size q hq
  have hts : (sideTx p q).size ≤ 20 := by
    unfold sideTx
    simp only [ByteArray.size_append]
    show 2 + (opB p).size + 3 + (opB q).size + 2 ≤ 20
    omega
  obtain ⟨L, hL⟩ : ∃ L, rowP (sideTx p q).data.toList = L := ⟨_, rfl⟩
  rw [hL, show sideN p q = 5 from by unfold sideN; rw [if_neg hz]] at hx
  have RW := Lib.hid (show ∀ w, Calls Try.prog 10 #[.string (⟨#[117, 32]⟩ ++ opB p ++ ⟨#[32, 118, 32]⟩ ++ opB q ++ ⟨#[32, 119]⟩)] w (RowR w L) from fun w => row_at (sideTx p q) (by omega) L hL w)
  have HX := Lib.hid hx
  have HK := Lib.hid hk
  have HNA := Lib.hid (And.intro hn0 hn1)
  obtain ⟨hn1, hn2, hn3⟩ := hn1 hz
  rw [hlq] at hn1 hn2 hn3
  rw [show decide (opB p = opB q) = false from hpq.resolve_right (by rw [hlq]; simp), Bool.false_or] at hn1
  simp only [Bool.not_true, Bool.not_false] at hn3
  have q1 : (d.name.toList == (opB q).toList) = false := by rw [← hn1]; exact bytes_beq _ _
  have q2 : ((d0.kind : Int) == 11) = false := by rw [← hn2, Bool.eq_iff_iff, beq_iff_eq, decide_eq_true_eq]; omega
  have q3 : ((d1.kind : Int) == 11) = true := by rw [← hn3, Bool.eq_iff_iff, beq_iff_eq, decide_eq_true_eq]; omega
  have q4 : ((opB p).toList == (opB q).toList) = false := by rw [← hpq.resolve_right (by rw [hlq]; simp)]; exact bytes_beq _ _
  have q5 : decide ((opLev q : Int) ≤ (opLev p : Int)) = false := by rw [← hlq]; simp
  clear hn2 hn3 hpq
  have LP := Lib.hid (level_any p)
  have LQ := Lib.hid (level_any q)
  have WK := Lib.hid works_any
  clear hx hk hn0 hn1 hL hts h1 h2
  have C1 : (w.alloc (.cells opsV 9)).cell? ⟨w.heap.size, p, none⟩ = some (.string (opB p)) := by
    rw [cell_of_row _ _ p opsV _ (0, 0) (heap_alloc_new w _)]; exact c1
  have C2 : (w.alloc (.cells opsV 9)).cell? ⟨w.heap.size, q, none⟩ = some (.string (opB q)) := by
    rw [cell_of_row _ _ q opsV _ (0, 0) (heap_alloc_new w _)]; exact c2
  have KS : KeptS w (w.alloc (.cells opsV 9)) := ⟨by rw [World.size_alloc]; exact Nat.lt_succ_self _, (Below.refl w.heap.size w).alloc (Nat.le_refl _) (.cells opsV 9)⟩
  obtain ⟨wa, hwa⟩ : ∃ wa, w.alloc (.cells opsV 9) = wa := ⟨_, rfl⟩
  rw [hwa] at C1 C2 KS
  have HWA := Lib.hid hwa
  have HD0 : wa.drew.cell? ⟨w.heap.size, p, none⟩ = some (.string (opB p)) ∧ wa.drew.cell? ⟨w.heap.size, q, none⟩ = some (.string (opB q)) ∧ KeptS w wa.drew := ⟨C1, C2, ⟨KS.lt, KS.bel.drew⟩⟩
  have HE := Lib.hid (And.intro e1 e2)
  clear c1 c2 hwa C1 C2 KS e1 e2
  have g1 : ¬ 9223372036854775807 < 2 + (opB p).size := by omega
  have g2 : ¬ 9223372036854775807 < 2 + (opB p).size + 3 := by omega
  have g3 : ¬ 9223372036854775807 < 2 + (opB p).size + 3 + (opB q).size := by omega
  have g4 : ¬ 9223372036854775807 < 2 + (opB p).size + 3 + (opB q).size + 2 := by omega
  go_enter Try.func4, Try.ntmps4
  go_wp2
  rw [HE.out.1, HE.out.2]
  rw [show w.alloc (.cells #[.string ⟨#[42]⟩, .string ⟨#[47]⟩, .string ⟨#[68, 73, 86]⟩, .string ⟨#[77, 79, 68]⟩, .string ⟨#[65, 78, 68]⟩, .string ⟨#[43]⟩, .string ⟨#[45]⟩, .string ⟨#[79, 82]⟩, .string ⟨#[61]⟩, .string ⟨#[35]⟩, .string ⟨#[60]⟩, .string ⟨#[60, 61]⟩, .string ⟨#[62]⟩, .string ⟨#[62, 61]⟩, .string ⟨#[73, 78]⟩] 9) = wa from HWA.out]
  clear HWA
  go_region_held3 (fun w' => w'.cell? ⟨w.heap.size, p, none⟩ = some (.string (opB p)) ∧ w'.cell? ⟨w.heap.size, q, none⟩ = some (.string (opB q)) ∧ KeptS w w') ((first | exact HD0 | (refine held_s ?_ (by assumption) <;> assumption) | assumption))
    ((first
      | (go_at_call 10; (with_reducible refine (RW.out _).mono ?_); rintro e wr ⟨A, c, rfl, _, ha, hb⟩; have D1 := Lib.hid (HX.out ▸ Expr_0 ha c))
      | (go_at_call 11; (with_reducible refine D1.out.mono ?_); rintro e wx ⟨b, rfl, hr, hb⟩)))
  rename_i hS
  obtain ⟨cp, cq, ks⟩ := hS
  obtain ⟨g, off, cc, b0, b1, t0, t1, t2, t3, t4, t5, t6⟩ := two_at hr
  rw [HK.out] at t0
  clear hr ha D1 g1 g2 g3 g4
  clear hz HNA
  go_wp2_with fail
  ((with_reducible refine (LP.out _).mono ?_); rintro e w1 ⟨rfl, rfl⟩)
  go_wp2_with fail
  ((with_reducible refine (LQ.out _).mono ?_); rintro e w1 ⟨rfl, rfl⟩)
  go_wp2_with fail
  ((with_reducible refine (LP.out _).mono ?_); rintro e w1 ⟨rfl, rfl⟩)
  go_wp2_with fail
  ((with_reducible refine (LQ.out _).mono ?_); rintro e w1 ⟨rfl, rfl⟩)
  go_wp2
  have HD0 : wx.drew.cell? ⟨b, 2, none⟩ = some (.string d.name) ∧ wx.drew.cell? ⟨b, 4, none⟩ = some (.slice (some ⟨g, off, none⟩) 2 cc) ∧ wx.drew.cell? ⟨g, off, none⟩ = some (.pointer (some ⟨b0, 0, none⟩)) ∧ wx.drew.cell? ⟨g, off + 1, none⟩ = some (.pointer (some ⟨b1, 0, none⟩)) ∧ wx.drew.cell? ⟨b0, 0, none⟩ = some (.int .u8 d0.kind) ∧ wx.drew.cell? ⟨b1, 0, none⟩ = some (.int .u8 d1.kind) ∧ wx.drew.cell? ⟨w.heap.size, p, none⟩ = some (.string (opB p)) ∧ wx.drew.cell? ⟨w.heap.size, q, none⟩ = some (.string (opB q)) ∧ KeptS w wx.drew := ⟨t1, t2, t3, t4, t5, t6, cp, cq, ⟨ks.lt, ks.bel.drew⟩⟩
  clear t1 t2 t3 t4 t5 t6 cp cq ks
  go_region_held3 (fun w' => w'.cell? ⟨b, 2, none⟩ = some (.string d.name) ∧ w'.cell? ⟨b, 4, none⟩ = some (.slice (some ⟨g, off, none⟩) 2 cc) ∧ w'.cell? ⟨g, off, none⟩ = some (.pointer (some ⟨b0, 0, none⟩)) ∧ w'.cell? ⟨g, off + 1, none⟩ = some (.pointer (some ⟨b1, 0, none⟩)) ∧ w'.cell? ⟨b0, 0, none⟩ = some (.int .u8 d0.kind) ∧ w'.cell? ⟨b1, 0, none⟩ = some (.int .u8 d1.kind) ∧ w'.cell? ⟨w.heap.size, p, none⟩ = some (.string (opB p)) ∧ w'.cell? ⟨w.heap.size, q, none⟩ = some (.string (opB q)) ∧ KeptS w w') ((first | exact HD0 | (refine held_9 ?_ (by assumption) <;> assumption) | assumption))
    ((first
      | (go_at_call 8; (with_reducible refine (WK.out _).mono ?_); rintro e wk ⟨rfl, hb⟩)))
  rename_i hS
  obtain ⟨_, _, _, _, _, _, _, _, ks⟩ := hS
  go_wp2
  go_ret
  exact ⟨rfl, ks.bel⟩
end Go.Proofs.Ytnboenmkngjhmaa.Ex
