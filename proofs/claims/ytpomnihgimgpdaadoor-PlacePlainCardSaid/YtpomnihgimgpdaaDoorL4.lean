/- The walk of the law PlaceIn. -/
import Derived.Test.YtpomnihgimgpdaaDoorL3
set_option linter.unusedSimpArgs false
set_option linter.unusedVariables false
namespace Go.Proofs.YtpomnihgimgpdaaDoor.Pl
open Go.RowKit
open Fl
open Num

theorem idx_zero : ∀ (l : List UInt8) (a : Nat × Nat) (k : Nat), 1 ≤ a.1 → idx (0, 0) a l k = none
  | [], a, k, h => idx_end (by intro e; rw [e] at h; simp at h) k
  | c :: l, a, k, h => by
    rw [idx_next (by intro e; rw [e] at h; simp at h)]
    exact idx_zero l _ _ (by unfold stepN; split <;> simp <;> omega)
theorem readFrom_or : ∀ (l pre : List UInt8), isN (readFrom pre l) = true ∨ readFrom pre l = (0, 0)
  | [], pre => .inr rfl
  | c :: l, pre => by
    by_cases h : c.toNat = 58
    · rw [readFrom_here _ h]
      cases a : isN (numN pre, numN l)
      · exact .inr (readP_no a)
      · left; rw [readP_ok a]; exact a
    · rw [readFrom_next _ h]; exact readFrom_or l _
theorem readN_or (l : List UInt8) : isN (readN l) = true ∨ readN l = (0, 0) := readFrom_or l []
theorem ofN_readN (l : List UInt8) : ofN ((readN l).1 : Nat) ((readN l).2 : Nat) = readN l := by
  rcases readN_or l with h | h
  · exact ofN_nat h
  · rw [h]; rfl
theorem isR_readN (l : List UInt8) : isR ((readN l).1 : Nat) ((readN l).2 : Nat) = isN (readN l) := (isN_isR _ _).symm
theorem readN_le (l : List UInt8) : (readN l).1 < 4294967296 ∧ (readN l).2 < 4294967296 := by
  rcases readN_or l with h | h
  · have := isN_bd h; omega
  · rw [h]; simp
theorem isN_le {p : Nat × Nat} (h : isN p = true) : p.1 < 4294967296 ∧ p.2 < 4294967296 := by
  have := isN_bd h; omega

set_option maxHeartbeats 6400000 in
theorem in_some (s t : ByteArray) (l c : Int) (w : World) (hs : s.size ≤ 4096) (hT : t.size ≤ 4096) (ht : Tabs w) (p1 p2 r1 r2 : Nat) (v : Bool) (k : Nat)
    (hp : ofN l c = (p1, p2)) (hz : isR l c = true) (hp1 : p1 < 4294967296) (hp2 : p2 < 4294967296) (hix : idx (p1, p2) (1, 1) s.data.toList 0 = (some k)) (hr : readN t.data.toList = (r1, r2)) (hv : isN (r1, r2) = v) :
    Calls Tryd.prog 7 #[.string s, .int .i64 l, .int .i64 c, .string t] w fun e w' => e = .returned (.bool true) ∧ Below w.heap.size w w' := by
  have HT := Lib.hid ht
  clear ht
  have h1 := fun w' => heavy_any s w' (by omega)
  have h2 := fun w' => heavy_any t w' (by omega)
  rw [show decide (4096 < s.size) = false by simp; omega] at h1
  rw [show decide (4096 < t.size) = false by simp; omega] at h2
  have c1 := fun w' => rPos_any l c w'
  rw [hp] at c1
  have c2 := fun w' => In_any s (p1, p2) w' hp1 hp2 (by omega)
  rw [hix] at c2
  have c3 := fun w' => rIs_any l c w'
  rw [hz] at c3
  have c4 := fun w' => rIn_any s (p1, p2) w' (by omega)
  rw [hix] at c4
  have hpp : ((p1 : Int) = l) ∧ ((p2 : Int) = c) := by
    have bd := isR_in hz
    rw [ofN_in hz] at hp
    simp only [Prod.mk.injEq] at hp
    omega
  simp only [hpp.1, hpp.2] at c4
  clear hpp
  have c5 := fun w' h => Read_any t w' (by omega) h
  have c6 := fun w' => rRead_any t w' (by omega)
  have c7 := fun w' => rPos_any (readN t.data.toList).1 (readN t.data.toList).2 w'
  have c8 := fun w' => rIs_any (readN t.data.toList).1 (readN t.data.toList).2 w'
  rw [ofN_readN] at c7
  rw [isR_readN] at c8
  have hl := readN_le t.data.toList
  simp only [hr, hv] at c5 c6 c7 c8 hl
  have sm := same_of (p := (r1, r2)) (q := (r1, r2)) (z := true) hl.1 hl.2 hl.1 hl.2 (by simp)
  unfold Same at sm
  simp only at sm
  unfold readTup at c5
  rw [hv] at c5
  unfold C at c1 c2 c5 c7
  unfold R at c1 c3 c4 c6 c7 c8
  unfold inTup at c2
  simp only at c1 c2 c5 c6 c7 c8
  unfold inInt at c4
  simp only at c4
  have H1 := Lib.hid h1
  clear h1
  have H2 := Lib.hid h2
  clear h2
  have C1 := Lib.hid c1
  clear c1
  have C2 := Lib.hid c2
  clear c2
  have C3 := Lib.hid c3
  clear c3
  have C4 := Lib.hid c4
  clear c4
  have C5 := Lib.hid c5
  clear c5
  have C6 := Lib.hid c6
  clear c6
  have C7 := Lib.hid c7
  clear c7
  have C8 := Lib.hid c8
  clear c8
  clear hp hz hp1 hp2 hix hr hv hl
  go_enter Tryd.func7, Tryd.ntmps7
  go_wp2_with fail
  ((with_reducible refine (H1.out _).mono ?_); rintro e w' ⟨rfl, rfl⟩)
  go_wp2_with fail
  ((with_reducible refine (H2.out _).mono ?_); rintro e w' ⟨rfl, rfl⟩)
  go_wp2_with fail
  ((with_reducible refine (C1.out _).mono ?_); rintro e x1 ⟨rfl, g1⟩)
  have tA : Two (w.alloc (.cells #[.int .i64 l, .int .i64 c] 25)) w.heap.size l c := by refine ⟨?_, ?_, ?_, ?_⟩ <;> simp [go_sem]
  have tA1 := tA.below g1 (by simp)
  have z1 : w.heap.size < x1.heap.size := by have := g1.size; simp at this; omega
  have b1 : Below w.heap.size w x1 := (below_alloc (Below.refl _ _) _).trans (g1.mono (by simp))
  clear g1 tA
  obtain ⟨m0, m1, m2, m3⟩ := id tA1
  go_wp2_with fail
  ((with_reducible refine (C2.out _).mono ?_); rintro e w' ⟨rfl, rfl⟩)
  go_wp2_with fail
  ((with_reducible refine (C3.out _).mono ?_); rintro e x2 ⟨rfl, g2⟩)
  clear m0 m1 m2 m3
  have tA2 := tA1.below g2 z1
  have z2 : w.heap.size < x2.heap.size := by have := g2.size; omega
  have b2 : Below w.heap.size w x2 := b1.trans (g2.mono (by omega))
  clear g2 tA1
  obtain ⟨m0, m1, m2, m3⟩ := id tA2
  go_wp2_with fail
  ((with_reducible refine (C4.out _).mono ?_); rintro e x3 ⟨rfl, g3⟩)
  clear m0 m1 m2 m3
  have tA3 := tA2.below g3 z2
  have z3 : w.heap.size < x3.heap.size := by have := g3.size; omega
  have b3 : Below w.heap.size w x3 := b2.trans (g3.mono (by omega))
  clear g3 tA2
  obtain ⟨m0, m1, m2, m3⟩ := id tA3
  go_wp2_with fail
  ((with_reducible refine (C5.out _ (tabs_below HT.out b3)).mono ?_); rintro e x4 ⟨rfl, g4⟩)
  clear m0 m1 m2 m3
  have tA4 := tA3.below g4 z3
  have z4 : w.heap.size < x4.heap.size := by have := g4.size; omega
  have b4 : Below w.heap.size w x4 := b3.trans (g4.mono (by omega))
  clear g4 tA3
  obtain ⟨m0, m1, m2, m3⟩ := id tA4
  go_wp2_with fail
  ((with_reducible refine (C6.out _).mono ?_); rintro e x5 ⟨rfl, g5⟩)
  clear m0 m1 m2 m3
  have tA5 := tA4.below g5 z4
  have z5 : w.heap.size < x5.heap.size := by have := g5.size; omega
  have b5 : Below w.heap.size w x5 := b4.trans (g5.mono (by omega))
  clear g5 tA4
  obtain ⟨m0, m1, m2, m3⟩ := id tA5
  have tB : Two (x5.alloc (.cells #[.int .i64 r1, .int .i64 r2] 25)) x5.heap.size r1 r2 := by refine ⟨?_, ?_, ?_, ?_⟩ <;> simp [go_sem]
  clear m0 m1 m2 m3
  go_wp2_with fail
  ((with_reducible refine (C7.out _).mono ?_); rintro e y1 ⟨rfl, g1⟩)
  have tB1 := tB.below g1 (by simp)
  have u1 : x5.heap.size < y1.heap.size := by have := g1.size; simp at this; omega
  have d1 : Below w.heap.size w y1 := (b5.trans (below_alloc (Below.refl _ _) _ |>.mono (by omega))).trans (g1.mono (by simp; omega))
  clear g1 tB
  obtain ⟨m0, m1, m2, m3⟩ := id tB1
  go_wp2_with fail
  ((with_reducible refine (C8.out _).mono ?_); rintro e y2 ⟨rfl, g2⟩)
  clear m0 m1 m2 m3
  have d2 : Below w.heap.size w y2 := d1.trans (g2.mono (by omega))
  go_wp2_with fail
  ((with_reducible refine (works_any _ (tabs_below HT.out d2)).mono ?_); rintro e y3 ⟨rfl, g3⟩)
  have d3 : Below w.heap.size w y3 := d2.trans (g3.mono (by have := g2.size; omega))
  go_wp2
  go_ret
  exact ⟨rfl, d3⟩

set_option maxHeartbeats 6400000 in
theorem in_none (s t : ByteArray) (l c : Int) (w : World) (hs : s.size ≤ 4096) (hT : t.size ≤ 4096) (ht : Tabs w) (p1 p2 r1 r2 : Nat) (v : Bool) (k : Nat)
    (hp : ofN l c = (p1, p2)) (hz : isR l c = true) (hp1 : p1 < 4294967296) (hp2 : p2 < 4294967296) (hix : idx (p1, p2) (1, 1) s.data.toList 0 = none) (hr : readN t.data.toList = (r1, r2)) (hv : isN (r1, r2) = v) :
    Calls Tryd.prog 7 #[.string s, .int .i64 l, .int .i64 c, .string t] w fun e w' => e = .returned (.bool true) ∧ Below w.heap.size w w' := by
  have HT := Lib.hid ht
  clear ht
  have h1 := fun w' => heavy_any s w' (by omega)
  have h2 := fun w' => heavy_any t w' (by omega)
  rw [show decide (4096 < s.size) = false by simp; omega] at h1
  rw [show decide (4096 < t.size) = false by simp; omega] at h2
  have c1 := fun w' => rPos_any l c w'
  rw [hp] at c1
  have c2 := fun w' => In_any s (p1, p2) w' hp1 hp2 (by omega)
  rw [hix] at c2
  have c3 := fun w' => rIs_any l c w'
  rw [hz] at c3
  have c4 := fun w' => rIn_any s (p1, p2) w' (by omega)
  rw [hix] at c4
  have hpp : ((p1 : Int) = l) ∧ ((p2 : Int) = c) := by
    have bd := isR_in hz
    rw [ofN_in hz] at hp
    simp only [Prod.mk.injEq] at hp
    omega
  simp only [hpp.1, hpp.2] at c4
  clear hpp
  have c5 := fun w' h => Read_any t w' (by omega) h
  have c6 := fun w' => rRead_any t w' (by omega)
  have c7 := fun w' => rPos_any (readN t.data.toList).1 (readN t.data.toList).2 w'
  have c8 := fun w' => rIs_any (readN t.data.toList).1 (readN t.data.toList).2 w'
  rw [ofN_readN] at c7
  rw [isR_readN] at c8
  have hl := readN_le t.data.toList
  simp only [hr, hv] at c5 c6 c7 c8 hl
  have sm := same_of (p := (r1, r2)) (q := (r1, r2)) (z := true) hl.1 hl.2 hl.1 hl.2 (by simp)
  unfold Same at sm
  simp only at sm
  unfold readTup at c5
  rw [hv] at c5
  unfold C at c1 c2 c5 c7
  unfold R at c1 c3 c4 c6 c7 c8
  unfold inTup at c2
  simp only at c1 c2 c5 c6 c7 c8
  unfold inInt at c4
  simp only at c4
  have H1 := Lib.hid h1
  clear h1
  have H2 := Lib.hid h2
  clear h2
  have C1 := Lib.hid c1
  clear c1
  have C2 := Lib.hid c2
  clear c2
  have C3 := Lib.hid c3
  clear c3
  have C4 := Lib.hid c4
  clear c4
  have C5 := Lib.hid c5
  clear c5
  have C6 := Lib.hid c6
  clear c6
  have C7 := Lib.hid c7
  clear c7
  have C8 := Lib.hid c8
  clear c8
  clear hp hz hp1 hp2 hix hr hv hl
  go_enter Tryd.func7, Tryd.ntmps7
  go_wp2_with fail
  ((with_reducible refine (H1.out _).mono ?_); rintro e w' ⟨rfl, rfl⟩)
  go_wp2_with fail
  ((with_reducible refine (H2.out _).mono ?_); rintro e w' ⟨rfl, rfl⟩)
  go_wp2_with fail
  ((with_reducible refine (C1.out _).mono ?_); rintro e x1 ⟨rfl, g1⟩)
  have tA : Two (w.alloc (.cells #[.int .i64 l, .int .i64 c] 25)) w.heap.size l c := by refine ⟨?_, ?_, ?_, ?_⟩ <;> simp [go_sem]
  have tA1 := tA.below g1 (by simp)
  have z1 : w.heap.size < x1.heap.size := by have := g1.size; simp at this; omega
  have b1 : Below w.heap.size w x1 := (below_alloc (Below.refl _ _) _).trans (g1.mono (by simp))
  clear g1 tA
  obtain ⟨m0, m1, m2, m3⟩ := id tA1
  go_wp2_with fail
  ((with_reducible refine (C2.out _).mono ?_); rintro e w' ⟨rfl, rfl⟩)
  go_wp2_with fail
  ((with_reducible refine (C3.out _).mono ?_); rintro e x2 ⟨rfl, g2⟩)
  clear m0 m1 m2 m3
  have tA2 := tA1.below g2 z1
  have z2 : w.heap.size < x2.heap.size := by have := g2.size; omega
  have b2 : Below w.heap.size w x2 := b1.trans (g2.mono (by omega))
  clear g2 tA1
  obtain ⟨m0, m1, m2, m3⟩ := id tA2
  go_wp2_with fail
  ((with_reducible refine (C4.out _).mono ?_); rintro e x3 ⟨rfl, g3⟩)
  clear m0 m1 m2 m3
  have tA3 := tA2.below g3 z2
  have z3 : w.heap.size < x3.heap.size := by have := g3.size; omega
  have b3 : Below w.heap.size w x3 := b2.trans (g3.mono (by omega))
  clear g3 tA2
  obtain ⟨m0, m1, m2, m3⟩ := id tA3
  go_wp2_with fail
  ((with_reducible refine (C5.out _ (tabs_below HT.out b3)).mono ?_); rintro e x4 ⟨rfl, g4⟩)
  clear m0 m1 m2 m3
  have tA4 := tA3.below g4 z3
  have z4 : w.heap.size < x4.heap.size := by have := g4.size; omega
  have b4 : Below w.heap.size w x4 := b3.trans (g4.mono (by omega))
  clear g4 tA3
  obtain ⟨m0, m1, m2, m3⟩ := id tA4
  go_wp2_with fail
  ((with_reducible refine (C6.out _).mono ?_); rintro e x5 ⟨rfl, g5⟩)
  clear m0 m1 m2 m3
  have tA5 := tA4.below g5 z4
  have z5 : w.heap.size < x5.heap.size := by have := g5.size; omega
  have b5 : Below w.heap.size w x5 := b4.trans (g5.mono (by omega))
  clear g5 tA4
  obtain ⟨m0, m1, m2, m3⟩ := id tA5
  have tB : Two (x5.alloc (.cells #[.int .i64 r1, .int .i64 r2] 25)) x5.heap.size r1 r2 := by refine ⟨?_, ?_, ?_, ?_⟩ <;> simp [go_sem]
  clear m0 m1 m2 m3
  go_wp2_with fail
  ((with_reducible refine (C7.out _).mono ?_); rintro e y1 ⟨rfl, g1⟩)
  have tB1 := tB.below g1 (by simp)
  have u1 : x5.heap.size < y1.heap.size := by have := g1.size; simp at this; omega
  have d1 : Below w.heap.size w y1 := (b5.trans (below_alloc (Below.refl _ _) _ |>.mono (by omega))).trans (g1.mono (by simp; omega))
  clear g1 tB
  obtain ⟨m0, m1, m2, m3⟩ := id tB1
  go_wp2_with fail
  ((with_reducible refine (C8.out _).mono ?_); rintro e y2 ⟨rfl, g2⟩)
  clear m0 m1 m2 m3
  have d2 : Below w.heap.size w y2 := d1.trans (g2.mono (by omega))
  go_wp2_with fail
  ((with_reducible refine (works_any _ (tabs_below HT.out d2)).mono ?_); rintro e y3 ⟨rfl, g3⟩)
  have d3 : Below w.heap.size w y3 := d2.trans (g3.mono (by have := g2.size; omega))
  go_wp2
  go_ret
  exact ⟨rfl, d3⟩

set_option maxHeartbeats 6400000 in
theorem in_out (s t : ByteArray) (l c : Int) (w : World) (hs : s.size ≤ 4096) (hT : t.size ≤ 4096) (ht : Tabs w) (p1 p2 r1 r2 : Nat) (v : Bool) (k : Nat)
    (hp : ofN l c = (p1, p2)) (hz : isR l c = false) (hp1 : p1 < 4294967296) (hp2 : p2 < 4294967296) (hix : idx (p1, p2) (1, 1) s.data.toList 0 = none) (hr : readN t.data.toList = (r1, r2)) (hv : isN (r1, r2) = v) :
    Calls Tryd.prog 7 #[.string s, .int .i64 l, .int .i64 c, .string t] w fun e w' => e = .returned (.bool true) ∧ Below w.heap.size w w' := by
  have HT := Lib.hid ht
  clear ht
  have h1 := fun w' => heavy_any s w' (by omega)
  have h2 := fun w' => heavy_any t w' (by omega)
  rw [show decide (4096 < s.size) = false by simp; omega] at h1
  rw [show decide (4096 < t.size) = false by simp; omega] at h2
  have c1 := fun w' => rPos_any l c w'
  rw [hp] at c1
  have c2 := fun w' => In_any s (p1, p2) w' hp1 hp2 (by omega)
  rw [hix] at c2
  have c3 := fun w' => rIs_any l c w'
  rw [hz] at c3
  have c5 := fun w' h => Read_any t w' (by omega) h
  have c6 := fun w' => rRead_any t w' (by omega)
  have c7 := fun w' => rPos_any (readN t.data.toList).1 (readN t.data.toList).2 w'
  have c8 := fun w' => rIs_any (readN t.data.toList).1 (readN t.data.toList).2 w'
  rw [ofN_readN] at c7
  rw [isR_readN] at c8
  have hl := readN_le t.data.toList
  simp only [hr, hv] at c5 c6 c7 c8 hl
  have sm := same_of (p := (r1, r2)) (q := (r1, r2)) (z := true) hl.1 hl.2 hl.1 hl.2 (by simp)
  unfold Same at sm
  simp only at sm
  unfold readTup at c5
  rw [hv] at c5
  unfold C at c1 c2 c5 c7
  unfold R at c1 c3 c6 c7 c8
  unfold inTup at c2
  simp only at c1 c2 c5 c6 c7 c8
  have H1 := Lib.hid h1
  clear h1
  have H2 := Lib.hid h2
  clear h2
  have C1 := Lib.hid c1
  clear c1
  have C2 := Lib.hid c2
  clear c2
  have C3 := Lib.hid c3
  clear c3
  have C5 := Lib.hid c5
  clear c5
  have C6 := Lib.hid c6
  clear c6
  have C7 := Lib.hid c7
  clear c7
  have C8 := Lib.hid c8
  clear c8
  clear hp hz hp1 hp2 hix hr hv hl
  go_enter Tryd.func7, Tryd.ntmps7
  go_wp2_with fail
  ((with_reducible refine (H1.out _).mono ?_); rintro e w' ⟨rfl, rfl⟩)
  go_wp2_with fail
  ((with_reducible refine (H2.out _).mono ?_); rintro e w' ⟨rfl, rfl⟩)
  go_wp2_with fail
  ((with_reducible refine (C1.out _).mono ?_); rintro e x1 ⟨rfl, g1⟩)
  have tA : Two (w.alloc (.cells #[.int .i64 l, .int .i64 c] 25)) w.heap.size l c := by refine ⟨?_, ?_, ?_, ?_⟩ <;> simp [go_sem]
  have tA1 := tA.below g1 (by simp)
  have z1 : w.heap.size < x1.heap.size := by have := g1.size; simp at this; omega
  have b1 : Below w.heap.size w x1 := (below_alloc (Below.refl _ _) _).trans (g1.mono (by simp))
  clear g1 tA
  obtain ⟨m0, m1, m2, m3⟩ := id tA1
  go_wp2_with fail
  ((with_reducible refine (C2.out _).mono ?_); rintro e w' ⟨rfl, rfl⟩)
  go_wp2_with fail
  ((with_reducible refine (C3.out _).mono ?_); rintro e x2 ⟨rfl, g2⟩)
  clear m0 m1 m2 m3
  have tA2 := tA1.below g2 z1
  have z2 : w.heap.size < x2.heap.size := by have := g2.size; omega
  have b2 : Below w.heap.size w x2 := b1.trans (g2.mono (by omega))
  clear g2 tA1
  obtain ⟨m0, m1, m2, m3⟩ := id tA2
  go_wp2_with fail
  ((with_reducible refine (C5.out _ (tabs_below HT.out b2)).mono ?_); rintro e x3 ⟨rfl, g3⟩)
  clear m0 m1 m2 m3
  have tA3 := tA2.below g3 z2
  have z3 : w.heap.size < x3.heap.size := by have := g3.size; omega
  have b3 : Below w.heap.size w x3 := b2.trans (g3.mono (by omega))
  clear g3 tA2
  obtain ⟨m0, m1, m2, m3⟩ := id tA3
  go_wp2_with fail
  ((with_reducible refine (C6.out _).mono ?_); rintro e x4 ⟨rfl, g4⟩)
  clear m0 m1 m2 m3
  have tA4 := tA3.below g4 z3
  have z4 : w.heap.size < x4.heap.size := by have := g4.size; omega
  have b4 : Below w.heap.size w x4 := b3.trans (g4.mono (by omega))
  clear g4 tA3
  obtain ⟨m0, m1, m2, m3⟩ := id tA4
  have tB : Two (x4.alloc (.cells #[.int .i64 r1, .int .i64 r2] 25)) x4.heap.size r1 r2 := by refine ⟨?_, ?_, ?_, ?_⟩ <;> simp [go_sem]
  clear m0 m1 m2 m3
  go_wp2_with fail
  ((with_reducible refine (C7.out _).mono ?_); rintro e y1 ⟨rfl, g1⟩)
  have tB1 := tB.below g1 (by simp)
  have u1 : x4.heap.size < y1.heap.size := by have := g1.size; simp at this; omega
  have d1 : Below w.heap.size w y1 := (b4.trans (below_alloc (Below.refl _ _) _ |>.mono (by omega))).trans (g1.mono (by simp; omega))
  clear g1 tB
  obtain ⟨m0, m1, m2, m3⟩ := id tB1
  go_wp2_with fail
  ((with_reducible refine (C8.out _).mono ?_); rintro e y2 ⟨rfl, g2⟩)
  clear m0 m1 m2 m3
  have d2 : Below w.heap.size w y2 := d1.trans (g2.mono (by omega))
  go_wp2_with fail
  ((with_reducible refine (works_any _ (tabs_below HT.out d2)).mono ?_); rintro e y3 ⟨rfl, g3⟩)
  have d3 : Below w.heap.size w y3 := d2.trans (g3.mono (by have := g2.size; omega))
  go_wp2
  go_ret
  exact ⟨rfl, d3⟩

set_option maxHeartbeats 1600000 in
theorem in_heavy1 (s t : ByteArray) (l c : Int) (w : World) (hs : s.size ≤ 9223372036854775807) (hv : 4096 < s.size) (ht : Tabs w) :
    Calls Tryd.prog 7 #[.string s, .int .i64 l, .int .i64 c, .string t] w fun e w' => e = .returned (.bool true) ∧ Below w.heap.size w w' := by
  have HT := Lib.hid ht
  clear ht
  have h1 := fun w' => heavy_any s w' (by omega)
  rw [show decide (4096 < s.size) = true by simp; omega] at h1
  have H1 := Lib.hid h1
  clear h1 hv
  go_enter Tryd.func7, Tryd.ntmps7
  go_wp2_with fail
  ((with_reducible refine (H1.out _).mono ?_); rintro e w' ⟨rfl, rfl⟩)
  go_wp2_with fail
  ((with_reducible refine (works_any _ HT.out).mono ?_); rintro e x1 ⟨rfl, g1⟩)
  go_wp2
  go_ret
  exact ⟨rfl, g1⟩
set_option maxHeartbeats 1600000 in
theorem in_heavy2 (s t : ByteArray) (l c : Int) (w : World) (hs : s.size ≤ 4096) (hT : t.size ≤ 9223372036854775807) (hv : 4096 < t.size) (ht : Tabs w) :
    Calls Tryd.prog 7 #[.string s, .int .i64 l, .int .i64 c, .string t] w fun e w' => e = .returned (.bool true) ∧ Below w.heap.size w w' := by
  have HT := Lib.hid ht
  clear ht
  have h1 := fun w' => heavy_any s w' (by omega)
  have h2 := fun w' => heavy_any t w' (by omega)
  rw [show decide (4096 < s.size) = false by simp; omega] at h1
  rw [show decide (4096 < t.size) = true by simp; omega] at h2
  have H1 := Lib.hid h1
  have H2 := Lib.hid h2
  clear h1 h2 hv
  go_enter Tryd.func7, Tryd.ntmps7
  go_wp2_with fail
  ((with_reducible refine (H1.out _).mono ?_); rintro e w' ⟨rfl, rfl⟩)
  go_wp2_with fail
  ((with_reducible refine (H2.out _).mono ?_); rintro e w' ⟨rfl, rfl⟩)
  go_wp2_with fail
  ((with_reducible refine (works_any _ HT.out).mono ?_); rintro e x1 ⟨rfl, g1⟩)
  go_wp2
  go_ret
  exact ⟨rfl, g1⟩
theorem in_any (s t : ByteArray) (l c : Int) (w : World) (hs : s.size ≤ 9223372036854775807) (hT : t.size ≤ 9223372036854775807) (ht : Tabs w) :
    Calls Tryd.prog 7 #[.string s, .int .i64 l, .int .i64 c, .string t] w fun e w' => e = .returned (.bool true) ∧ Below w.heap.size w w' := by
  by_cases h1 : 4096 < s.size
  · exact in_heavy1 s t l c w hs h1 ht
  · by_cases h2 : 4096 < t.size
    · exact in_heavy2 s t l c w (by omega) hT h2 ht
    · have hl := ofN_le l c
      cases hz : isR l c
      · have e0 := ofN_out hz
        exact in_out s t l c w (by omega) (by omega) ht 0 0 _ _ _ 0 e0 hz (by omega) (by omega) (idx_zero _ _ _ (by simp)) rfl rfl
      · cases hx : idx (ofN l c) (1, 1) s.data.toList 0 with
        | none => exact in_none s t l c w (by omega) (by omega) ht _ _ _ _ _ 0 rfl hz hl.1 hl.2 hx rfl rfl
        | some k => exact in_some s t l c w (by omega) (by omega) ht _ _ _ _ _ k rfl hz hl.1 hl.2 hx rfl rfl

end Go.Proofs.YtpomnihgimgpdaaDoor.Pl
