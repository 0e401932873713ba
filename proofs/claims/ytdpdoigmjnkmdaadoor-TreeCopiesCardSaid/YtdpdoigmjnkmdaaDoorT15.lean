/- The walk of the reference's place. -/
import Derived.Test.YtdpdoigmjnkmdaaDoorT14
import Derived.Deep.RegionHeld3
set_option linter.unusedSimpArgs false
set_option linter.unusedVariables false
namespace Go.Proofs.YtdpdoigmjnkmdaaDoor.Tr
open Go.RowKit
open Fl

/-- A place's text in a tree's text. -/
def posT (p : Nat × Nat) : List UInt8 := if Pl.isN p then Pl.textN p else [45]
theorem digits_text (L Cc : Nat) (h : Pl.isN (L, Cc) = true) : (⟨(Pl.digN L).toArray⟩ ++ ⟨#[58]⟩ ++ ⟨(Pl.digN Cc).toArray⟩ : ByteArray) = ⟨(Pl.textN (L, Cc)).toArray⟩ := by
  have bd := Pl.isN_bd h
  rw [Pl.textN_in h]
  unfold Pl.digN
  rw [if_neg (by omega), if_neg (by omega)]
  apply ByteArray.ext
  simp [ByteArray.data_append]
theorem dig_size (n : Nat) (h : n ≤ 1073741824) : (⟨(Pl.digN n).toArray⟩ : ByteArray).size ≤ 19 := by
  show (Pl.digN n).toArray.size ≤ 19
  have := digN_len n (by omega)
  simpa using this

set_option maxRecDepth 100000 in
set_option maxHeartbeats 3200000 in
theorem place_out (p1 p2 : Nat) (w : World) (h1 : p1 < 4294967296) (h2 : p2 < 4294967296) (h : Pl.isN (p1, p2) = false) :
    Calls Tryd.prog 29 #[.complex .f64 (fl p1) (fl p2)] w fun e w' => e = .returned (.string ⟨#[45]⟩) ∧ Below w.heap.size w w' := by
  have c1 := fun w' => Pl.rPos_any (p1 : Int) (p2 : Int) w'
  have c2 := fun w' => Pl.rIs_any (p1 : Int) (p2 : Int) w'
  have hr : Pl.isR (p1 : Int) (p2 : Int) = false := by rw [← h]; rw [Bool.eq_iff_iff]; simp [Pl.isN, Pl.inN, Pl.isR]; omega
  rw [Pl.ofN_out hr] at c1
  rw [hr] at c2
  have f1 := fun w => Pl.conv_fi w p1 h1
  have f2 := fun w => Pl.conv_fi w p2 h2
  have sm := same_pos (0, 0) (p1, p2) (by simp) (by simp) h1 h2
  unfold Pl.C at c1
  unfold Pl.R at c1 c2
  simp only at c1 sm
  have C1 := Lib.hid c1
  have C2 := Lib.hid c2
  clear c1 c2 hr h
  have tA : Pl.Two (w.alloc (.cells #[.int .i64 p1, .int .i64 p2] 76)) w.heap.size p1 p2 := by refine ⟨?_, ?_, ?_, ?_⟩ <;> simp [go_sem]
  have hb0 : Below w.heap.size w (w.alloc (.cells #[.int .i64 p1, .int .i64 p2] 76)) := (Below.refl _ _).alloc (Nat.le_refl _) _
  have hs0 : (w.alloc (.cells #[.int .i64 p1, .int .i64 p2] 76)).heap.size = w.heap.size + 1 := by simp
  have T0 := Lib.hid (And.intro tA (And.intro hb0 hs0))
  clear tA hb0 hs0
  by_cases hz : p1 = 0 ∧ p2 = 0
  · rw [show decide ((0, 0) = (p1, p2)) = true by simp [hz.1, hz.2]] at sm
    clear hz
    go_enter Tryd.func29, Tryd.ntmps29
    go_wp2_with fail
    ((with_reducible refine (C1.out _).mono ?_); rintro e x1 ⟨rfl, g1⟩)
    have t1 := T0.out.1.below g1 (by rw [T0.out.2.2]; omega)
    have b1 := T0.out.2.1.trans (g1.mono (by rw [T0.out.2.2]; omega))
    clear g1
    obtain ⟨m0, m1, m2, m3⟩ := t1
    go_wp2_with fail
    ((with_reducible refine (C2.out _).mono ?_); rintro e x2 ⟨rfl, g2⟩)
    have b2 := b1.trans (g2.mono b1.size)
    clear g2 b1
    go_wp2
    go_ret
    exact ⟨rfl, b2⟩
  · rw [show decide ((0, 0) = (p1, p2)) = false by simp; omega] at sm
    clear hz
    go_enter Tryd.func29, Tryd.ntmps29
    go_wp2_with fail
    ((with_reducible refine (C1.out _).mono ?_); rintro e x1 ⟨rfl, g1⟩)
    have b1 := T0.out.2.1.trans (g1.mono (by rw [T0.out.2.2]; omega))
    clear g1
    go_wp2
    go_ret
    exact ⟨rfl, b1⟩

theorem held_two {w x y : World} {p1 p2 : Nat} (h : x.cell? ⟨w.heap.size, 0, none⟩ = some (.int .i64 p1) ∧ x.cell? ⟨w.heap.size, 1, none⟩ = some (.int .i64 p2) ∧ Below w.heap.size w x) (hb : Below x.heap.size x y) :
    y.cell? ⟨w.heap.size, 0, none⟩ = some (.int .i64 p1) ∧ y.cell? ⟨w.heap.size, 1, none⟩ = some (.int .i64 p2) ∧ Below w.heap.size w y := by
  obtain ⟨h0, h1, h2⟩ := h
  exact ⟨(hb.cell (p := ⟨w.heap.size, 0, none⟩) (cell_lt h0)).trans h0, (hb.cell (p := ⟨w.heap.size, 1, none⟩) (cell_lt h1)).trans h1, h2.trans (hb.mono h2.size)⟩
theorem held_bel {A B : Prop} {w x : World} (h : A ∧ B ∧ Below w.heap.size w x) : Below w.heap.size w x := h.2.2

set_option maxRecDepth 100000 in
set_option maxHeartbeats 3200000 in
theorem place_in (p1 p2 : Nat) (w : World) (h : Pl.isN (p1, p2) = true) :
    Calls Tryd.prog 29 #[.complex .f64 (fl p1) (fl p2)] w fun e w' => e = .returned (.string ⟨(Pl.textN (p1, p2)).toArray⟩) ∧ Below w.heap.size w w' := by
  have bd := Pl.isN_bd h
  simp only at bd
  have c1 := fun w' => Pl.rPos_any (p1 : Int) (p2 : Int) w'
  have c2 := fun w' => Pl.rIs_any (p1 : Int) (p2 : Int) w'
  have hr : Pl.isR (p1 : Int) (p2 : Int) = true := Pl.isR_mk (by omega) (by omega) (by omega) (by omega)
  rw [show Pl.ofN (p1 : Int) (p2 : Int) = (p1, p2) from Pl.ofN_nat h] at c1
  rw [hr] at c2
  have c3 := fun w' => Pl.rDigits_any p1 w' (by omega)
  have c4 := fun w' => Pl.rDigits_any p2 w' (by omega)
  have f1 := fun w => Pl.conv_fi w p1 (by omega)
  have f2 := fun w => Pl.conv_fi w p2 (by omega)
  have sm := same_pos (p1, p2) (p1, p2) (by simp; omega) (by simp; omega) (by simp; omega) (by simp; omega)
  rw [show decide ((p1, p2) = (p1, p2)) = true by simp] at sm
  have dt := digits_text p1 p2 h
  have sl := dig_size p1 (by omega)
  have sc := dig_size p2 (by omega)
  generalize (ByteArray.mk (Pl.digN p1).toArray) = dL at *
  generalize (ByteArray.mk (Pl.digN p2).toArray) = dC at *
  generalize (ByteArray.mk (Pl.textN (p1, p2)).toArray) = tx at *
  have sl' : (dL ++ ⟨#[58]⟩ : ByteArray).size ≤ 20 := by rw [ByteArray.size_append]; show _ + 1 ≤ _; omega
  unfold Pl.C at c1
  unfold Pl.R at c1 c2
  simp only at c1 sm
  have C1 := Lib.hid c1
  have C2 := Lib.hid c2
  have C3 := Lib.hid c3
  have C4 := Lib.hid c4
  have tA : Pl.Two (w.alloc (.cells #[.int .i64 p1, .int .i64 p2] 76)) w.heap.size p1 p2 := by refine ⟨?_, ?_, ?_, ?_⟩ <;> simp [go_sem]
  have hb0 : Below w.heap.size w (w.alloc (.cells #[.int .i64 p1, .int .i64 p2] 76)) := (Below.refl _ _).alloc (Nat.le_refl _) _
  have hs0 : (w.alloc (.cells #[.int .i64 p1, .int .i64 p2] 76)).heap.size = w.heap.size + 1 := by simp
  have T0 := Lib.hid (And.intro tA (And.intro hb0 hs0))
  clear tA hb0 hs0 c1 c2 c3 c4 hr h bd
  go_enter Tryd.func29, Tryd.ntmps29
  go_wp2_with fail
  ((with_reducible refine (C1.out _).mono ?_); rintro e x1 ⟨rfl, g1⟩)
  have t1 := T0.out.1.below g1 (by rw [T0.out.2.2]; omega)
  have b1 := T0.out.2.1.trans (g1.mono (by rw [T0.out.2.2]; omega))
  clear g1
  obtain ⟨m0, m1, m2, m3⟩ := id t1
  go_wp2_with fail
  ((with_reducible refine (C2.out _).mono ?_); rintro e x2 ⟨rfl, g2⟩)
  clear m0 m1 m2 m3
  have t2 := t1.below g2 (cell_lt t1.1)
  have b2 := b1.trans (g2.mono b1.size)
  clear g2 b1 t1
  obtain ⟨m0, m1, m2, m3⟩ := t2
  go_wp2
  have HD0 : x2.drew.cell? ⟨w.heap.size, 0, none⟩ = some (.int .i64 p1) ∧ x2.drew.cell? ⟨w.heap.size, 1, none⟩ = some (.int .i64 p2) ∧ Below w.heap.size w x2.drew := ⟨m0, m1, b2.drew⟩
  clear b2
  have q1 : ¬ 9223372036854775807 < dL.size + 1 := by omega
  have q2 : ¬ 9223372036854775807 < dL.size + 1 + dC.size := by omega
  go_region_held3 (fun w' => w'.cell? ⟨w.heap.size, 0, none⟩ = some (.int .i64 p1) ∧ w'.cell? ⟨w.heap.size, 1, none⟩ = some (.int .i64 p2) ∧ Below w.heap.size w w')
    ((first | (with_reducible exact HD0) | (with_reducible assumption) | (refine held_two ?_ (by assumption) <;> assumption)))
    ((first | (go_at_call 39; (with_reducible refine (C3.out _).mono ?_); rintro e w' ⟨rfl, hbb⟩) | (go_at_call 39; (with_reducible refine (C4.out _).mono ?_); rintro e w' ⟨rfl, hbb⟩)))
  go_wp2
  go_ret
  exact ⟨rfl, held_bel (by assumption)⟩
theorem place_any (p : Nat × Nat) (w : World) (h1 : p.1 < 4294967296) (h2 : p.2 < 4294967296) :
    Calls Tryd.prog 29 #[C p] w fun e w' => e = .returned (.string ⟨(posT p).toArray⟩) ∧ Below w.heap.size w w' := by
  unfold posT C
  cases h : Pl.isN p
  · exact place_out p.1 p.2 w h1 h2 h
  · exact place_in p.1 p.2 w h
end Go.Proofs.YtdpdoigmjnkmdaaDoor.Tr
