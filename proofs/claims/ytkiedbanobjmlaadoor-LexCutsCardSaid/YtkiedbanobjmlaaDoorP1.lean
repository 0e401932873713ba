/- The walks of the small functions of place: whole, is, Of, Line, Column, step. -/
import Derived.Test.YtkiedbanobjmlaaDoorRows
import Derived.Test.YtkiedbanobjmlaaDoorFl
import Derived.Lib.Hide
import Derived.WalkKit
import Derived.WalkLawsBesides
import Derived.Laws.ComplexArith
import Derived.OpenShut
set_option linter.unusedSimpArgs false
set_option linter.unusedVariables false
namespace Go.Proofs.YtkiedbanobjmlaaDoor.Pl
open Go.RowKit
open Fl

theorem ret_int {k : IntKind} {a b : Int} (h : a = b) : Ending.returned (.int k a) = .returned (.int k b) := by rw [h]
theorem ret_bool {a b : Bool} (h : a = b) : Ending.returned (.bool a) = .returned (.bool b) := by rw [h]

theorem fl_most : fl 1073741824 = 4742290407621132288 := by decide +kernel
theorem cmp_lt {a b : Nat} (h : a < b) : compare a b = .lt := Nat.compare_eq_lt.2 h
theorem cmp_gt {a b : Nat} (h : b < a) : compare a b = .gt := Nat.compare_eq_gt.2 h
theorem cmp_eq (a : Nat) : compare a a = .eq := Nat.compare_eq_eq.2 rfl
theorem ord_k {n k bits : Nat} (hb : fl k = bits) (hn : n < 4294967296) (hk : k < 4294967296) : FloatKind.f64.format.order (fl n) bits = some (compare n k) := by
  rw [← hb]; exact fl_order n k (by omega) (by omega)
theorem conv_fi (w : World) (n : Nat) (hn : n < 4294967296) : (convert 63 3 (.float .f64 (fl n))).run Tryd.prog w = .ok (.int .i64 n) w :=
  run_convert_float_int w _ _ _ _ _ _ (by rw [Tryd.underlying63]; rfl) Tryd.underlying3 (fl_int n (by omega))
theorem fl_of (n : Nat) : floatOfInt .f64 (n : Int) = fl n := rfl

def most : Nat := 1073741824
def wholeN (n : Nat) : Nat := if 1 ≤ n ∧ n ≤ 1073741824 then n else 0
theorem wholeN_in {n : Nat} (h0 : 1 ≤ n) (h1 : n ≤ 1073741824) : wholeN n = n := by unfold wholeN; rw [if_pos ⟨h0, h1⟩]
theorem wholeN_out {n : Nat} (h : n < 1 ∨ 1073741824 < n) : wholeN n = 0 := by unfold wholeN; rw [if_neg (by omega)]

set_option maxHeartbeats 400000 in
theorem whole_any (n : Nat) (w : World) (hn : n < 4294967296) : Calls Tryd.prog 58 #[.float .f64 (fl n)] w fun e w' => e = .returned (.int .i64 (wholeN n : Nat)) ∧ w = w' := by
  have o1 := ord_k (n := n) fl_1 hn (by omega)
  have o2 := ord_k (n := n) fl_most hn (by omega)
  have o3 := fl_order n n (by omega) (by omega)
  have hc := fun w => conv_fi w n hn
  have hf := fl_of n
  rw [cmp_eq] at o3
  rcases Nat.lt_trichotomy n 1 with h | h | h
  · have HW := Lib.hid (wholeN_out (n := n) (by omega))
    rw [cmp_lt h] at o1
    clear o2 o3 hc hf h hn
    generalize fl n = F at *
    go_enter Tryd.func58, Tryd.ntmps58
    go_wp2
    go_ret
    exact ⟨ret_int (by rw [HW.out]; rfl), rfl⟩
  · have HW := Lib.hid (wholeN_in (n := n) (by omega) (by omega))
    rw [h, cmp_eq, ← h] at o1
    rw [cmp_lt (by omega)] at o2
    clear h
    generalize fl n = F at *
    go_enter Tryd.func58, Tryd.ntmps58
    go_wp2
    go_ret
    exact ⟨ret_int (by rw [HW.out]), rfl⟩
  · rw [cmp_gt h] at o1
    rcases Nat.lt_trichotomy n 1073741824 with h2 | h2 | h2
    · have HW := Lib.hid (wholeN_in (n := n) (by omega) (by omega))
      rw [cmp_lt h2] at o2
      clear h h2
      generalize fl n = F at *
      go_enter Tryd.func58, Tryd.ntmps58
      go_wp2
      go_ret
      exact ⟨ret_int (by rw [HW.out]), rfl⟩
    · have HW := Lib.hid (wholeN_in (n := n) (by omega) (by omega))
      rw [h2, cmp_eq] at o2
      rw [← h2] at o2
      clear h h2
      generalize fl n = F at *
      go_enter Tryd.func58, Tryd.ntmps58
      go_wp2
      go_ret
      exact ⟨ret_int (by rw [HW.out]), rfl⟩
    · have HW := Lib.hid (wholeN_out (n := n) (by omega))
      rw [cmp_gt h2] at o2
      clear o3 hc hf h h2 hn
      generalize fl n = F at *
      go_enter Tryd.func58, Tryd.ntmps58
      go_wp2
      go_ret
      exact ⟨ret_int (by rw [HW.out]; rfl), rfl⟩

/-- A place as a pair: is it one? -/
def inN (n : Nat) : Bool := decide (1 ≤ n) && decide (n ≤ 1073741824)
def isN (p : Nat × Nat) : Bool := inN p.1 && inN p.2
/-- A place's value. -/
def C (p : Nat × Nat) : Value := .complex .f64 (fl p.1) (fl p.2)
theorem inN_in {n : Nat} (h : inN n = true) : 1 ≤ n ∧ n ≤ 1073741824 := by simpa [inN] using h
theorem inN_out {n : Nat} (h : inN n = false) : n < 1 ∨ 1073741824 < n := by
  have : ¬ (1 ≤ n ∧ n ≤ 1073741824) := by intro h'; simp [inN, h'] at h
  omega
theorem whole_in (n : Nat) (w : World) (h : inN n = true) : Calls Tryd.prog 58 #[.float .f64 (fl n)] w fun e w' => e = .returned (.int .i64 n) ∧ w = w' := by
  obtain ⟨h0, h1⟩ := inN_in h
  have := whole_any n w (by omega)
  rwa [wholeN_in h0 h1] at this
theorem whole_out (n : Nat) (w : World) (hn : n < 4294967296) (h : inN n = false) : Calls Tryd.prog 58 #[.float .f64 (fl n)] w fun e w' => e = .returned (.int .i64 0) ∧ w = w' := by
  have := whole_any n w hn
  rwa [wholeN_out (inN_out h)] at this

set_option maxHeartbeats 400000 in
theorem is_any (p : Nat × Nat) (w : World) (h1 : p.1 < 4294967296) (h2 : p.2 < 4294967296) : Calls Tryd.prog 43 #[C p] w fun e w' => e = .returned (.bool (isN p)) ∧ w = w' := by
  unfold C
  cases a1 : inN p.1
  · have HW := Lib.hid (whole_out p.1 w h1 a1)
    have HR := Lib.hid (show isN p = false from by unfold isN; rw [a1]; rfl)
    clear h1 h2 a1
    generalize fl p.1 = F at *
    generalize fl p.2 = G at *
    go_enter Tryd.func43, Tryd.ntmps43
    go_wp2_with fail
    ((with_reducible refine HW.out.mono ?_); rintro e w' ⟨rfl, rfl⟩)
    go_wp2
    go_ret
    exact ⟨ret_bool (by rw [HR.out]), rfl⟩
  · have HW := Lib.hid (whole_in p.1 w a1)
    have hp1 := (inN_in a1).1
    have hq1 : (0 : Int) < (p.1 : Int) := by omega
    cases a2 : inN p.2
    · have HV := Lib.hid (whole_out p.2 w h2 a2)
      have HR := Lib.hid (show isN p = false from by unfold isN; rw [a1, a2]; rfl)
      clear h1 h2 a1 a2
      generalize fl p.1 = F at *
      generalize fl p.2 = G at *
      go_enter Tryd.func43, Tryd.ntmps43
      go_wp2_with fail
      ((with_reducible refine HW.out.mono ?_); rintro e w' ⟨rfl, rfl⟩)
      go_wp2_with fail
      ((with_reducible refine HV.out.mono ?_); rintro e w' ⟨rfl, rfl⟩)
      go_wp2
      go_ret
      exact ⟨ret_bool (by rw [HR.out]), rfl⟩
    · have HV := Lib.hid (whole_in p.2 w a2)
      have hp2 := (inN_in a2).1
      have hq2 : (0 : Int) < (p.2 : Int) := by omega
      have HR := Lib.hid (show isN p = true from by unfold isN; rw [a1, a2]; rfl)
      clear h1 h2 a1 a2
      generalize fl p.1 = F at *
      generalize fl p.2 = G at *
      go_enter Tryd.func43, Tryd.ntmps43
      go_wp2_with fail
      ((with_reducible refine HW.out.mono ?_); rintro e w' ⟨rfl, rfl⟩)
      go_wp2_with fail
      ((with_reducible refine HV.out.mono ?_); rintro e w' ⟨rfl, rfl⟩)
      go_wp2
      go_ret
      exact ⟨ret_bool (by rw [HR.out]; simp; omega), rfl⟩

def ofN (l c : Int) : Nat × Nat := if l < 1 ∨ 1073741824 < l ∨ c < 1 ∨ 1073741824 < c then (0, 0) else (l.toNat, c.toNat)
theorem C_zero : C (0, 0) = .complex .f64 0 0 := by unfold C; rw [fl_0]
theorem ret_c {F G : Nat} {p : Nat × Nat} (h1 : F = fl p.1) (h2 : G = fl p.2) : Ending.returned (.complex .f64 F G) = .returned (C p) := by subst h1 h2; rfl
theorem ret_c0 {p : Nat × Nat} (h : p = (0, 0)) : Ending.returned (.complex .f64 0 0) = .returned (C p) := by rw [h, C_zero]

set_option maxHeartbeats 800000 in
theorem Of_any (l c : Int) (w : World) : Calls Tryd.prog 25 #[.int .i64 l, .int .i64 c] w fun e w' => e = .returned (C (ofN l c)) ∧ w = w' := by
  by_cases h1 : l < 1
  · have HO := Lib.hid (show ofN l c = (0, 0) from by unfold ofN; rw [if_pos (by omega)])
    go_enter Tryd.func25, Tryd.ntmps25
    go_wp2
    go_ret
    exact ⟨ret_c0 HO.out, rfl⟩
  · by_cases h2 : 1073741824 < l
    · have HO := Lib.hid (show ofN l c = (0, 0) from by unfold ofN; rw [if_pos (by omega)])
      go_enter Tryd.func25, Tryd.ntmps25
      go_wp2
      go_ret
      exact ⟨ret_c0 HO.out, rfl⟩
    · by_cases h3 : c < 1
      · have HO := Lib.hid (show ofN l c = (0, 0) from by unfold ofN; rw [if_pos (by omega)])
        go_enter Tryd.func25, Tryd.ntmps25
        go_wp2
        go_ret
        exact ⟨ret_c0 HO.out, rfl⟩
      · by_cases h4 : 1073741824 < c
        · have HO := Lib.hid (show ofN l c = (0, 0) from by unfold ofN; rw [if_pos (by omega)])
          go_enter Tryd.func25, Tryd.ntmps25
          go_wp2
          go_ret
          exact ⟨ret_c0 HO.out, rfl⟩
        · have HO := Lib.hid (show ofN l c = (l.toNat, c.toNat) from by unfold ofN; rw [if_neg (by omega)])
          have e1 : floatOfInt .f64 l = fl l.toNat := by rw [show fl l.toNat = floatOfInt .f64 ((l.toNat : Nat) : Int) from rfl, show ((l.toNat : Nat) : Int) = l by omega]
          have e2 : floatOfInt .f64 c = fl c.toNat := by rw [show fl c.toNat = floatOfInt .f64 ((c.toNat : Nat) : Int) from rfl, show ((c.toNat : Nat) : Int) = c by omega]
          have E1 := Lib.hid e1
          have E2 := Lib.hid e2
          clear e1 e2
          go_enter Tryd.func25, Tryd.ntmps25
          go_wp2
          go_ret
          exact ⟨ret_c (by rw [HO.out]; exact E1.out) (by rw [HO.out]; exact E2.out), rfl⟩

theorem Begin_any (w : World) : Calls Tryd.prog 23 #[] w fun e w' => e = .returned (C (1, 1)) ∧ w = w' := by
  go_enter Tryd.func23, Tryd.ntmps23
  go_wp2
  go_ret
  exact ⟨ret_c fl_1.symm fl_1.symm, rfl⟩

def partN (p : Nat × Nat) (n : Nat) : Nat := if isN p then n else 0

end Go.Proofs.YtkiedbanobjmlaaDoor.Pl
