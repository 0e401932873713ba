/- The walk of the law PlaceTells, further ways. -/
import Derived.Test.YtpomnihgimgpdaaDoorL6A
set_option linter.unusedSimpArgs false
set_option linter.unusedVariables false
namespace Go.Proofs.YtpomnihgimgpdaaDoor.Pl
open Go.RowKit
open Fl
open Num

set_option maxHeartbeats 12800000 in
theorem tells_yout (s : ByteArray) (L Cc : Nat) (o b : Int) (w : World) (hs : s.size ≤ 4096) (ht : Tabs w) (hz : isR L Cc = true) (hy : isR o b = false) (hbf : befN (L, Cc) (ofN o b) = false) :
    Calls Tryd.prog 3 #[.int .i64 (L : Int), .int .i64 (Cc : Int), .int .i64 o, .int .i64 b, .string s] w fun e w' => e = .returned (.bool true) ∧ Below w.heap.size w w' := by
  have HT := Lib.hid ht
  clear ht
  have h1 := fun w' => heavy_any s w' (by omega)
  rw [show decide (4096 < s.size) = false by simp; omega] at h1
  have hI : isN (L, Cc) = true := by rw [isN_isR]; exact hz
  have ho : ofN (L : Int) (Cc : Int) = (L, Cc) := ofN_nat hI
  have bd := isN_bd hI
  have hq := ofN_le o b
  have c1 := fun w' => Of_any (L : Int) (Cc : Int) w'
  have c2 := fun w' => Of_any o b w'
  have c3 := fun w' => rPos_any (L : Int) (Cc : Int) w'
  have c4 := fun w' => rPos_any o b w'
  have c5 := fun w' => rIs_any (L : Int) (Cc : Int) w'
  rw [ho] at c1 c3
  rw [hz] at c5
  have c6 := fun w' => Line_any (L, Cc) w' (by simp; try omega) (by simp; try omega)
  have c7 := fun w' => Column_any (L, Cc) w' (by simp; try omega) (by simp; try omega)
  have c8 := fun w' => Behind_any (L, Cc) s w' (by simp; try omega) (by simp; try omega) (by omega)
  have c9 := fun w' => rBehind_any (L : Int) (Cc : Int) s w' (by omega)
  rw [ho] at c9
  have c10 := fun w' => rPos_any (behN (L, Cc) s.data.toList).1 (behN (L, Cc) s.data.toList).2 w'
  rw [ofN_behN] at c10
  have hbl := behN_le (L, Cc) s.data.toList
  have sb := same_of (p := behN (L, Cc) s.data.toList) (q := behN (L, Cc) s.data.toList) (z := true) hbl.1 hbl.2 hbl.1 hbl.2 (by simp)
  have sp := same_of (p := (L, Cc)) (q := (L, Cc)) (z := true) (by simp; try omega) (by simp; try omega) (by simp; try omega) (by simp; try omega) (by simp)
  have sq := same_of (p := ofN o b) (q := ofN o b) (z := true) hq.1 hq.2 hq.1 hq.2 (by simp)
  have c11 := fun w' => Before_any (L, Cc) (ofN o b) w' (by simp; try omega) (by simp; try omega) hq.1 hq.2
  rw [hbf] at c11
  have c12 := fun w' h => Text_any (L, Cc) w' (by simp; try omega) (by simp; try omega) h
  rw [partN_in hI] at c6 c7
  have c13 := fun w' => rDigits_any L w' (by omega)
  have c14 := fun w' => rDigits_any Cc w' (by omega)
  have dt := digits_text L Cc hI
  have sl := dig_size L (by omega)
  have sc := dig_size Cc (by omega)
  generalize (ByteArray.mk (digN L).toArray) = dL at *
  generalize (ByteArray.mk (digN Cc).toArray) = dC at *
  generalize (ByteArray.mk (textN (L, Cc)).toArray) = tx at *
  have sl' : (dL ++ ⟨#[58]⟩ : ByteArray).size ≤ 12 := by rw [ByteArray.size_append]; show _ + 1 ≤ _; omega
  have c15 := fun w' => rIs_any o b w'
  rw [hy] at c15
  clear hI bd hy
  generalize ofN o b = q at *
  generalize behN (L, Cc) s.data.toList = e at *
  obtain ⟨q1', q2'⟩ := q
  obtain ⟨e1, e2⟩ := e
  unfold Same at sb sp sq
  unfold C at c1 c2 c3 c4 c6 c7 c8 c10 c11 c12
  unfold R at c3 c4 c5 c9 c10 c15
  simp only at c1 c2 c3 c4 c6 c7 c8 c9 c10 c11 c12 sb sp sq
  clear ho hz hq hbl hbf
  have H1 := Lib.hid h1
  clear h1
  have C1 := Lib.hid c1
  clear c1
  have C2 := Lib.hid c2
  clear c2
  have C3 := Lib.hid c3
  clear c3
  have C4 := Lib.hid c4
  clear c4
  have C5 := Lib.hid c5
  clear c5
  have C6 := Lib.hid c6
  clear c6
  have C7 := Lib.hid c7
  clear c7
  have C8 := Lib.hid c8
  clear c8
  have C9 := Lib.hid c9
  clear c9
  have C10 := Lib.hid c10
  clear c10
  have C11 := Lib.hid c11
  clear c11
  have C12 := Lib.hid c12
  clear c12
  have C13 := Lib.hid c13
  clear c13
  have C14 := Lib.hid c14
  clear c14
  have C15 := Lib.hid c15
  clear c15
  go_enter Tryd.func3, Tryd.ntmps3
  go_wp2_with fail
  ((with_reducible refine (H1.out _).mono ?_); rintro e w' ⟨rfl, rfl⟩)
  go_wp2_with fail
  ((with_reducible refine (C1.out _).mono ?_); rintro e w' ⟨rfl, rfl⟩)
  go_wp2_with fail
  ((with_reducible refine (C2.out _).mono ?_); rintro e w' ⟨rfl, rfl⟩)
  go_wp2_with fail
  have tA : Two ((w.alloc (.cells #[.int .i64 (L : Int), .int .i64 (Cc : Int)] 25)).alloc (.cells #[.int .i64 o, .int .i64 b] 25)) w.heap.size (L : Int) (Cc : Int) := by refine ⟨?_, ?_, ?_, ?_⟩ <;> simp [go_sem]
  have tB : Two ((w.alloc (.cells #[.int .i64 (L : Int), .int .i64 (Cc : Int)] 25)).alloc (.cells #[.int .i64 o, .int .i64 b] 25)) (w.heap.size + 1) o b := by refine ⟨?_, ?_, ?_, ?_⟩ <;> simp [go_sem]
  ((with_reducible refine (C3.out _).mono ?_); rintro e x1 ⟨rfl, g1⟩)
  have k1 : Kept w x1 := kept_below ⟨by simp, below_alloc (below_alloc (Below.refl _ _) _) _⟩ g1
  have tA1 := tA.below g1 (by simp; omega)
  have tB1 := tB.below g1 (by simp)
  clear g1 tA tB
  obtain ⟨m0, m1, m2, m3⟩ := id tA1
  obtain ⟨n0, n1, n2, n3⟩ := id tB1
  go_wp2_with fail
  ((with_reducible refine (C4.out _).mono ?_); rintro e x2 ⟨rfl, g2⟩)
  clear m0 m1 m2 m3 n0 n1 n2 n3
  have k2 : Kept w x2 := kept_below k1 g2
  have tA2 := tA1.below g2 (kept_lt0 k1)
  have tB2 := tB1.below g2 (kept_lt1 k1)
  clear g2 tA1 tB1 k1
  obtain ⟨m0, m1, m2, m3⟩ := id tA2
  obtain ⟨n0, n1, n2, n3⟩ := id tB2
  go_wp2_with fail
  ((with_reducible refine (C5.out _).mono ?_); rintro e x3 ⟨rfl, g3⟩)
  clear m0 m1 m2 m3 n0 n1 n2 n3
  have k3 : Kept w x3 := kept_below k2 g3
  have tA3 := tA2.below g3 (kept_lt0 k2)
  have tB3 := tB2.below g3 (kept_lt1 k2)
  clear g3 tA2 tB2 k2
  obtain ⟨m0, m1, m2, m3⟩ := id tA3
  obtain ⟨n0, n1, n2, n3⟩ := id tB3
  go_wp2_with fail
  ((with_reducible refine (C13.out _).mono ?_); rintro e x4 ⟨rfl, g4⟩)
  clear m0 m1 m2 m3 n0 n1 n2 n3
  have k4 : Kept w x4 := kept_below k3 g4
  have tA4 := tA3.below g4 (kept_lt0 k3)
  have tB4 := tB3.below g4 (kept_lt1 k3)
  clear g4 tA3 tB3 k3
  obtain ⟨m0, m1, m2, m3⟩ := id tA4
  obtain ⟨n0, n1, n2, n3⟩ := id tB4
  go_wp2_with fail
  ((with_reducible refine (C14.out _).mono ?_); rintro e x5 ⟨rfl, g5⟩)
  clear m0 m1 m2 m3 n0 n1 n2 n3
  have k5 : Kept w x5 := kept_below k4 g5
  have tA5 := tA4.below g5 (kept_lt0 k4)
  have tB5 := tB4.below g5 (kept_lt1 k4)
  clear g5 tA4 tB4 k4
  obtain ⟨m0, m1, m2, m3⟩ := id tA5
  obtain ⟨n0, n1, n2, n3⟩ := id tB5
  go_wp2_with fail
  ((with_reducible refine (C5.out _).mono ?_); rintro e x6 ⟨rfl, g6⟩)
  clear m0 m1 m2 m3 n0 n1 n2 n3
  have k6 : Kept w x6 := kept_below k5 g6
  have tA6 := tA5.below g6 (kept_lt0 k5)
  have tB6 := tB5.below g6 (kept_lt1 k5)
  clear g6 tA5 tB5 k5
  obtain ⟨m0, m1, m2, m3⟩ := id tA6
  obtain ⟨n0, n1, n2, n3⟩ := id tB6
  go_wp2_with fail
  ((with_reducible refine (C15.out _).mono ?_); rintro e x7 ⟨rfl, g7⟩)
  clear m0 m1 m2 m3 n0 n1 n2 n3
  have k7 : Kept w x7 := kept_below k6 g7
  have tA7 := tA6.below g7 (kept_lt0 k6)
  have tB7 := tB6.below g7 (kept_lt1 k6)
  clear g7 tA6 tB6 k6
  obtain ⟨m0, m1, m2, m3⟩ := id tA7
  obtain ⟨n0, n1, n2, n3⟩ := id tB7
  go_wp2_with fail
  clear n0 n1 n2 n3 tB7 tA7
  have HD0 := World.drew_cells m0 m1 k7
  go_region_held3 (fun w' => w'.cell? ⟨w.heap.size, 0, none⟩ = some (.int .i64 (L : Int)) ∧ w'.cell? ⟨w.heap.size, 1, none⟩ = some (.int .i64 (Cc : Int)) ∧ Kept w w') ((first | exact HD0 | (refine held_below ?_ (by assumption) <;> assumption) | assumption))
    ((first
      | (go_at_call 15; refine (C6.out _).mono ?_; rintro e w' ⟨rfl, rfl⟩)
      | (go_at_call 16; refine (C7.out _).mono ?_; rintro e w' ⟨rfl, rfl⟩)
      | (go_at_call 17; refine (C8.out _).mono ?_; rintro e w' ⟨rfl, rfl⟩)
      | (go_at_call 18; refine (C9.out _).mono ?_; rintro e w' ⟨rfl, hbb⟩)
      | (go_at_call 12; refine (C10.out _).mono ?_; rintro e w' ⟨rfl, hbb⟩)
      | (go_at_call 19; refine (C11.out _).mono ?_; rintro e w' ⟨rfl, rfl⟩)
      | (go_at_call 20; refine (C12.out _ (tab_held HT.out (by assumption))).mono ?_; rintro e w' ⟨rfl, hbb⟩)
      | (go_at_call 10; refine (works_any _ (tabs_held HT.out (by assumption))).mono ?_; rintro e w' ⟨rfl, hbb⟩)))
  go_wp2
  go_ret
  exact ⟨rfl, kept_bel (by assumption)⟩

set_option maxHeartbeats 12800000 in
theorem tells_xout (s : ByteArray) (l c o b : Int) (w : World) (hs : s.size ≤ 4096) (ht : Tabs w) (hz : isR l c = false) (hbf : befN (0, 0) (ofN o b) = false) :
    Calls Tryd.prog 3 #[.int .i64 l, .int .i64 c, .int .i64 o, .int .i64 b, .string s] w fun e w' => e = .returned (.bool true) ∧ Below w.heap.size w w' := by
  have HT := Lib.hid ht
  clear ht
  have h1 := fun w' => heavy_any s w' (by omega)
  rw [show decide (4096 < s.size) = false by simp; omega] at h1
  have ho : ofN l c = (0, 0) := ofN_out hz
  have hq := ofN_le o b
  have c1 := fun w' => Of_any l c w'
  have c2 := fun w' => Of_any o b w'
  have c3 := fun w' => rPos_any l c w'
  have c4 := fun w' => rPos_any o b w'
  have c5 := fun w' => rIs_any l c w'
  rw [ho] at c1 c3
  rw [hz] at c5
  have c6 := fun w' => Line_any (0, 0) w' (by simp; try omega) (by simp; try omega)
  have c7 := fun w' => Column_any (0, 0) w' (by simp; try omega) (by simp; try omega)
  have c8 := fun w' => Behind_any (0, 0) s w' (by simp; try omega) (by simp; try omega) (by omega)
  have c9 := fun w' => rBehind_any l c s w' (by omega)
  rw [ho] at c9
  have c10 := fun w' => rPos_any (behN (0, 0) s.data.toList).1 (behN (0, 0) s.data.toList).2 w'
  rw [ofN_behN] at c10
  have hbl := behN_le (0, 0) s.data.toList
  have sb := same_of (p := behN (0, 0) s.data.toList) (q := behN (0, 0) s.data.toList) (z := true) hbl.1 hbl.2 hbl.1 hbl.2 (by simp)
  have sp := same_of (p := (0, 0)) (q := (0, 0)) (z := true) (by simp; try omega) (by simp; try omega) (by simp; try omega) (by simp; try omega) (by simp)
  have sq := same_of (p := ofN o b) (q := ofN o b) (z := true) hq.1 hq.2 hq.1 hq.2 (by simp)
  have c11 := fun w' => Before_any (0, 0) (ofN o b) w' (by simp; try omega) (by simp; try omega) hq.1 hq.2
  rw [hbf] at c11
  have c12 := fun w' h => Text_any (0, 0) w' (by simp; try omega) (by simp; try omega) h
  have tx : textN (0, 0) = [] := rfl
  rw [tx] at c12
  clear tx
  rw [show ∀ n, partN (0, 0) n = 0 from fun n => rfl] at c6 c7
  generalize ofN o b = q at *
  generalize behN (0, 0) s.data.toList = e at *
  obtain ⟨q1', q2'⟩ := q
  obtain ⟨e1, e2⟩ := e
  unfold Same at sb sp sq
  unfold C at c1 c2 c3 c4 c6 c7 c8 c10 c11 c12
  unfold R at c3 c4 c5 c9 c10
  simp only at c1 c2 c3 c4 c6 c7 c8 c9 c10 c11 c12 sb sp sq
  clear ho hz hq hbl hbf
  have H1 := Lib.hid h1
  clear h1
  have C1 := Lib.hid c1
  clear c1
  have C2 := Lib.hid c2
  clear c2
  have C3 := Lib.hid c3
  clear c3
  have C4 := Lib.hid c4
  clear c4
  have C5 := Lib.hid c5
  clear c5
  have C6 := Lib.hid c6
  clear c6
  have C7 := Lib.hid c7
  clear c7
  have C8 := Lib.hid c8
  clear c8
  have C9 := Lib.hid c9
  clear c9
  have C10 := Lib.hid c10
  clear c10
  have C11 := Lib.hid c11
  clear c11
  have C12 := Lib.hid c12
  clear c12
  go_enter Tryd.func3, Tryd.ntmps3
  go_wp2_with fail
  ((with_reducible refine (H1.out _).mono ?_); rintro e w' ⟨rfl, rfl⟩)
  go_wp2_with fail
  ((with_reducible refine (C1.out _).mono ?_); rintro e w' ⟨rfl, rfl⟩)
  go_wp2_with fail
  ((with_reducible refine (C2.out _).mono ?_); rintro e w' ⟨rfl, rfl⟩)
  go_wp2_with fail
  have tA : Two ((w.alloc (.cells #[.int .i64 l, .int .i64 c] 25)).alloc (.cells #[.int .i64 o, .int .i64 b] 25)) w.heap.size l c := by refine ⟨?_, ?_, ?_, ?_⟩ <;> simp [go_sem]
  have tB : Two ((w.alloc (.cells #[.int .i64 l, .int .i64 c] 25)).alloc (.cells #[.int .i64 o, .int .i64 b] 25)) (w.heap.size + 1) o b := by refine ⟨?_, ?_, ?_, ?_⟩ <;> simp [go_sem]
  ((with_reducible refine (C3.out _).mono ?_); rintro e x1 ⟨rfl, g1⟩)
  have k1 : Kept w x1 := kept_below ⟨by simp, below_alloc (below_alloc (Below.refl _ _) _) _⟩ g1
  have tA1 := tA.below g1 (by simp; omega)
  have tB1 := tB.below g1 (by simp)
  clear g1 tA tB
  obtain ⟨m0, m1, m2, m3⟩ := id tA1
  obtain ⟨n0, n1, n2, n3⟩ := id tB1
  go_wp2_with fail
  ((with_reducible refine (C4.out _).mono ?_); rintro e x2 ⟨rfl, g2⟩)
  clear m0 m1 m2 m3 n0 n1 n2 n3
  have k2 : Kept w x2 := kept_below k1 g2
  have tA2 := tA1.below g2 (kept_lt0 k1)
  have tB2 := tB1.below g2 (kept_lt1 k1)
  clear g2 tA1 tB1 k1
  obtain ⟨m0, m1, m2, m3⟩ := id tA2
  obtain ⟨n0, n1, n2, n3⟩ := id tB2
  go_wp2_with fail
  ((with_reducible refine (C5.out _).mono ?_); rintro e x3 ⟨rfl, g3⟩)
  clear m0 m1 m2 m3 n0 n1 n2 n3
  have k3 : Kept w x3 := kept_below k2 g3
  have tA3 := tA2.below g3 (kept_lt0 k2)
  have tB3 := tB2.below g3 (kept_lt1 k2)
  clear g3 tA2 tB2 k2
  obtain ⟨m0, m1, m2, m3⟩ := id tA3
  obtain ⟨n0, n1, n2, n3⟩ := id tB3
  go_wp2_with fail
  ((with_reducible refine (C5.out _).mono ?_); rintro e x4 ⟨rfl, g4⟩)
  clear m0 m1 m2 m3 n0 n1 n2 n3
  have k4 : Kept w x4 := kept_below k3 g4
  have tA4 := tA3.below g4 (kept_lt0 k3)
  have tB4 := tB3.below g4 (kept_lt1 k3)
  clear g4 tA3 tB3 k3
  obtain ⟨m0, m1, m2, m3⟩ := id tA4
  obtain ⟨n0, n1, n2, n3⟩ := id tB4
  go_wp2_with fail
  clear n0 n1 n2 n3 tB4 tA4
  have HD0 := World.drew_cells m0 m1 k4
  go_region_held3 (fun w' => w'.cell? ⟨w.heap.size, 0, none⟩ = some (.int .i64 l) ∧ w'.cell? ⟨w.heap.size, 1, none⟩ = some (.int .i64 c) ∧ Kept w w') ((first | exact HD0 | (refine held_below ?_ (by assumption) <;> assumption) | assumption))
    ((first
      | (go_at_call 15; refine (C6.out _).mono ?_; rintro e w' ⟨rfl, rfl⟩)
      | (go_at_call 16; refine (C7.out _).mono ?_; rintro e w' ⟨rfl, rfl⟩)
      | (go_at_call 17; refine (C8.out _).mono ?_; rintro e w' ⟨rfl, rfl⟩)
      | (go_at_call 18; refine (C9.out _).mono ?_; rintro e w' ⟨rfl, hbb⟩)
      | (go_at_call 12; refine (C10.out _).mono ?_; rintro e w' ⟨rfl, hbb⟩)
      | (go_at_call 19; refine (C11.out _).mono ?_; rintro e w' ⟨rfl, rfl⟩)
      | (go_at_call 20; refine (C12.out _ (tab_held HT.out (by assumption))).mono ?_; rintro e w' ⟨rfl, hbb⟩)
      | (go_at_call 10; refine (works_any _ (tabs_held HT.out (by assumption))).mono ?_; rintro e w' ⟨rfl, hbb⟩)))
  go_wp2
  go_ret
  exact ⟨rfl, kept_bel (by assumption)⟩

end Go.Proofs.YtpomnihgimgpdaaDoor.Pl
