/- The walks of the reference's Is, Pos, Behind. -/
import Derived.Test.YtkiedbanobjmlaaDoorP3
import Derived.Laws.OwnMore
set_option linter.unusedSimpArgs false
set_option linter.unusedVariables false
namespace Go.Proofs.YtkiedbanobjmlaaDoor.Pl
open Go.RowKit
open Fl

/-- The reference's place. -/
def R (l c : Int) : Value := .agg #[.int .i64 l, .int .i64 c]
def isR (l c : Int) : Bool := decide (1 ≤ l) && decide (l ≤ 1073741824) && (decide (1 ≤ c) && decide (c ≤ 1073741824))
theorem isR_in {l c : Int} (h : isR l c = true) : (1 ≤ l ∧ l ≤ 1073741824) ∧ 1 ≤ c ∧ c ≤ 1073741824 := by simpa [isR] using h
theorem ofN_in {l c : Int} (h : isR l c = true) : ofN l c = (l.toNat, c.toNat) := by
  have := isR_in h
  unfold ofN; rw [if_neg (by omega)]
theorem isR_mk {l c : Int} (h1 : 1 ≤ l) (h2 : l ≤ 1073741824) (h3 : 1 ≤ c) (h4 : c ≤ 1073741824) : isR l c = true := by simp [isR, h1, h2, h3, h4]
theorem ofN_out {l c : Int} (h : isR l c = false) : ofN l c = (0, 0) := by
  unfold ofN; rw [if_pos]
  by_cases g : 1 ≤ l ∧ l ≤ 1073741824 ∧ 1 ≤ c ∧ c ≤ 1073741824
  · rw [isR_mk g.1 g.2.1 g.2.2.1 g.2.2.2] at h; cases h
  · omega
theorem below_alloc {w wr : World} (h : Below w.heap.size w wr) (o : Obj) : Below w.heap.size w (wr.alloc o) := h.alloc h.size o

set_option maxHeartbeats 800000 in
theorem rIs_any (l c : Int) (w : World) : Calls Tryd.prog 48 #[R l c] w fun e w' => e = .returned (.bool (isR l c)) ∧ Below w.heap.size w w' := by
  unfold R
  by_cases h1 : 1 ≤ l
  · by_cases h2 : l ≤ 1073741824
    · by_cases h3 : 1 ≤ c
      · have HR := Lib.hid (show isR l c = decide (c ≤ 1073741824) from by unfold isR; simp [h1, h2, h3])
        go_enter Tryd.func48, Tryd.ntmps48
        go_wp2
        go_ret
        exact ⟨ret_bool (by rw [HR.out]), below_alloc (Below.refl _ _) _⟩
      · have HR := Lib.hid (show isR l c = false from by unfold isR; simp; omega)
        go_enter Tryd.func48, Tryd.ntmps48
        go_wp2
        go_ret
        exact ⟨ret_bool (by rw [HR.out]), below_alloc (Below.refl _ _) _⟩
    · have HR := Lib.hid (show isR l c = false from by unfold isR; simp; omega)
      go_enter Tryd.func48, Tryd.ntmps48
      go_wp2
      go_ret
      exact ⟨ret_bool (by rw [HR.out]), below_alloc (Below.refl _ _) _⟩
  · have HR := Lib.hid (show isR l c = false from by unfold isR; simp; omega)
    go_enter Tryd.func48, Tryd.ntmps48
    go_wp2
    go_ret
    exact ⟨ret_bool (by rw [HR.out]), below_alloc (Below.refl _ _) _⟩

set_option maxHeartbeats 800000 in
theorem rPos_any (l c : Int) (w : World) : Calls Tryd.prog 27 #[R l c] w fun e w' => e = .returned (C (ofN l c)) ∧ Below w.heap.size w w' := by
  have hI := fun w' => rIs_any l c w'
  unfold R at *
  cases a : isR l c
  · rw [a] at hI
    have HI := Lib.hid hI
    have HO := Lib.hid (ofN_out a)
    clear hI a
    go_enter Tryd.func27, Tryd.ntmps27
    go_wp2_with fail
    ((with_reducible refine (HI.out _).mono ?_); rintro e w' ⟨rfl, hb⟩)
    replace hb := (below_alloc (Below.refl _ _) _).trans (hb.mono (below_alloc (Below.refl _ _) _).size)
    go_wp2
    go_ret
    exact ⟨ret_c0 HO.out, hb⟩
  · rw [a] at hI
    have HI := Lib.hid hI
    have HO := Lib.hid (ofN_in a)
    have hb := isR_in a
    have e1 : floatOfInt .f64 l = fl l.toNat := by rw [show fl l.toNat = floatOfInt .f64 ((l.toNat : Nat) : Int) from rfl, show ((l.toNat : Nat) : Int) = l by omega]
    have e2 : floatOfInt .f64 c = fl c.toNat := by rw [show fl c.toNat = floatOfInt .f64 ((c.toNat : Nat) : Int) from rfl, show ((c.toNat : Nat) : Int) = c by omega]
    have E1 := Lib.hid e1
    have E2 := Lib.hid e2
    clear e1 e2 hI a hb
    go_enter Tryd.func27, Tryd.ntmps27
    go_wp2_with fail
    ((with_reducible refine (HI.out _).mono ?_); rintro e w' ⟨rfl, hb⟩)
    have k0 := (hb.cell (p := ⟨w.heap.size, 0, none⟩) (by simp)).trans (World.cell?_alloc_new _ _ _ _)
    have k1 := (hb.cell (p := ⟨w.heap.size, 1, none⟩) (by simp)).trans (World.cell?_alloc_new _ _ _ _)
    simp only [List.getElem?_toArray, List.getElem?_cons_zero, List.getElem?_cons_succ] at k0 k1
    replace hb := (below_alloc (Below.refl _ _) _).trans (hb.mono (below_alloc (Below.refl _ _) _).size)

    go_wp2
    go_ret
    exact ⟨ret_c (by rw [HO.out]; exact E1.out) (by rw [HO.out]; exact E2.out), hb⟩

end Go.Proofs.YtkiedbanobjmlaaDoor.Pl
