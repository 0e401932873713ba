/- The walks of the small functions of place: whole, is, Of, Line, Column, step. -/
import Derived.Test.YtibpekgmgidebaaRows
import Derived.Test.YtibpekgmgidebaaFl
import Derived.Lib.Hide
import Derived.WalkKit
import Derived.WalkLawsBesides
import Derived.Laws.ComplexArith
import Derived.OpenShut
set_option linter.unusedSimpArgs false
set_option linter.unusedVariables false
namespace Go.Proofs.Ytibpekgmgidebaa.Pl
open Go.RowKit
open Fl

theorem ret_int {k : IntKind} {a b : Int} (h : a = b) : Ending.returned (.int k a) = .returned (.int k b) := by rw [h]
theorem ret_bool {a b : Bool} (h : a = b) : Ending.returned (.bool a) = .returned (.bool b) := by rw [h]

theorem fl_most : fl 1073741824 = 4742290407621132288 := by decide +kernel
theorem cmp_lt {a b : Nat} (h : a < b) : compare a b = .lt := Nat.compare_eq_lt.2 h
theorem cmp_gt {a b : Nat} (h : b < a) : compare a b = .gt := Nat.compare_eq_gt.2 h
theorem cmp_eq (a : Nat) : compare a a = .eq := Nat.compare_eq_eq.2 rfl
theorem ord_k {n k bits : Nat} (hb : fl k = bits) (hn : n < 4294967296) (hk : k < 4294967296) : FloatKind.f64.format.order (fl n) bits = some (compare n k) := by
  rw [← hb]; exact fl_order n k (by omega) (by omega)
theorem fl_of (n : Nat) : floatOfInt .f64 (n : Int) = fl n := rfl

def most : Nat := 1073741824
def wholeN (n : Nat) : Nat := if 1 ≤ n ∧ n ≤ 1073741824 then n else 0
theorem wholeN_in {n : Nat} (h0 : 1 ≤ n) (h1 : n ≤ 1073741824) : wholeN n = n := by unfold wholeN; rw [if_pos ⟨h0, h1⟩]
theorem wholeN_out {n : Nat} (h : n < 1 ∨ 1073741824 < n) : wholeN n = 0 := by unfold wholeN; rw [if_neg (by omega)]

/-- A place as a pair: is it one? -/
def inN (n : Nat) : Bool := decide (1 ≤ n) && decide (n ≤ 1073741824)
def isN (p : Nat × Nat) : Bool := inN p.1 && inN p.2
/-- A place's value. -/
def C (p : Nat × Nat) : Value := .complex .f64 (fl p.1) (fl p.2)
theorem inN_in {n : Nat} (h : inN n = true) : 1 ≤ n ∧ n ≤ 1073741824 := by simpa [inN] using h
theorem inN_out {n : Nat} (h : inN n = false) : n < 1 ∨ 1073741824 < n := by
  have : ¬ (1 ≤ n ∧ n ≤ 1073741824) := by intro h'; simp [inN, h'] at h
  omega
def ofN (l c : Int) : Nat × Nat := if l < 1 ∨ 1073741824 < l ∨ c < 1 ∨ 1073741824 < c then (0, 0) else (l.toNat, c.toNat)
theorem C_zero : C (0, 0) = .complex .f64 0 0 := by unfold C; rw [fl_0]
theorem ret_c {F G : Nat} {p : Nat × Nat} (h1 : F = fl p.1) (h2 : G = fl p.2) : Ending.returned (.complex .f64 F G) = .returned (C p) := by subst h1 h2; rfl
theorem ret_c0 {p : Nat × Nat} (h : p = (0, 0)) : Ending.returned (.complex .f64 0 0) = .returned (C p) := by rw [h, C_zero]

def partN (p : Nat × Nat) (n : Nat) : Nat := if isN p then n else 0

end Go.Proofs.Ytibpekgmgidebaa.Pl
