import Derived.Laws.FloatArith
import Derived.Test.YtkemhmfdooghkaaGreatDoorRows
import Derived.Lib.Hide
import Derived.WalkKit
import Derived.WalkLawsBesides
import Derived.Laws.ComplexArith
import Derived.OpenShut
import Derived.Laws.OwnMore
set_option linter.unusedSimpArgs false
set_option linter.unusedVariables false
set_option maxRecDepth 100000
set_option maxHeartbeats 6400000
namespace Go.Proofs.YtkemhmfdooghkaaGreatDoor
open Go.RowKit in
theorem qh {p : Prop} (h : p) : Hid p := Lib.hid h
theorem nl {n : Nat} : n ≤ n := Nat.le_refl n
end Go.Proofs.YtkemhmfdooghkaaGreatDoor
namespace Go.Proofs.YtkemhmfdooghkaaGreatDoor
namespace Fl
open Go Ieee
def fl (n : Nat) : Nat := floatOfInt .f64 (n : Int)
def Val (d : Datum) (n : Nat) : Prop := ∃ s : Nat, d = .number false (n * 2 ^ s) (-(s : Int))
theorem log2_shift (n s : Nat) (h : n ≠ 0) : (n * 2 ^ s).log2 = n.log2 + s := by
 have hp : 0 < 2 ^ s := Nat.pow_pos (by omega)
 have hne : n * 2 ^ s ≠ 0 := Nat.mul_ne_zero h (by omega)
 rw [Nat.log2_eq_iff hne]
 have h1 := Nat.log2_self_le h
 have h2 := Nat.lt_log2_self (n := n)
 rw [Nat.pow_add, show n.log2 + s + 1 = (n.log2 + 1) + s by omega, Nat.pow_add]
 exact ⟨Nat.mul_le_mul_right _ h1, Nat.mul_lt_mul_of_pos_right h2 hp⟩
theorem leastPlace_double : double.leastPlace = -1074 := by decide +kernel
theorem binade_double : double.binade = 2 ^ 52 := rfl
theorem infRung_double : double.infRung = 2047 * 2 ^ 52 := by decide +kernel
theorem signWeight_double : double.signWeight = 2 ^ 63 := by decide +kernel
theorem kept_bd (n : Nat) (h0 : n ≠ 0) (h : n < 2 ^ 53) : n.log2 ≤ 52 ∧ 2 ^ 52 ≤ n * 2 ^ (52 - n.log2) ∧ n * 2 ^ (52 - n.log2) < 2 ^ 53 := by
 have h1 := Nat.log2_self_le h0
 have h2 := Nat.lt_log2_self (n := n)
 have hL : n.log2 ≤ 52 := by
  have := (Nat.log2_lt h0 (k := 53)).2 h
  omega
 refine ⟨hL, ?_, ?_⟩
 ·have : 2 ^ n.log2 * 2 ^ (52 - n.log2) = 2 ^ 52 := by rw [← Nat.pow_add]; congr 1; omega
  rw [← this]; exact Nat.mul_le_mul_right _ h1
 ·have : 2 ^ (n.log2 + 1) * 2 ^ (52 - n.log2) = 2 ^ 53 := by rw [← Nat.pow_add]; congr 1; omega
  rw [← this]; exact Nat.mul_lt_mul_of_pos_right h2 (Nat.pow_pos (by omega))
theorem near_form (n s : Nat) (h0 : n ≠ 0) (h : n < 2 ^ 53) : double.nearest false (n * 2 ^ s) (-(s : Int)) = (n.log2 + 1022) * 2 ^ 52 + n * 2 ^ (52 - n.log2) := by
 obtain ⟨hL, k0, k1⟩ := kept_bd n h0 h
 have hp : 0 < 2 ^ s := Nat.pow_pos (by omega)
 have hne : n * 2 ^ s ≠ 0 := Nat.mul_ne_zero h0 (by omega)
 unfold Format.nearest
 rw [if_neg hne, log2_shift n s h0, leastPlace_double, binade_double, infRung_double]
 have hlast : max (-(s : Int) + ((n.log2 + s : Nat) : Int) - ((double.fractionBits : Nat) : Int)) (-1074) = (n.log2 : Int) - 52 := by
  show max (-(s : Int) + ((n.log2 + s : Nat) : Int) - 52) (-1074) = _
  omega
 simp only [hlast]
 have hkept : Toward.even.cut false ((n * 2 ^ s) <<< (-(s : Int) - ((n.log2 : Int) - 52)).toNat) ((n.log2 : Int) - 52 - -(s : Int)).toNat = n * 2 ^ (52 - n.log2) := by
  by_cases hs : s + n.log2 ≤ 52
  ·rw [show (-(s : Int) - ((n.log2 : Int) - 52)).toNat = 52 - n.log2 - s by omega, show ((n.log2 : Int) - 52 - -(s : Int)).toNat = 0 by omega]
   rw [Nat.shiftLeft_eq, Nat.mul_assoc, ← Nat.pow_add, show s + (52 - n.log2 - s) = 52 - n.log2 by omega]
   unfold Toward.cut
   simp [Nat.mod_one]
  ·rw [show (-(s : Int) - ((n.log2 : Int) - 52)).toNat = 0 by omega, show ((n.log2 : Int) - 52 - -(s : Int)).toNat = s + n.log2 - 52 by omega, Nat.shiftLeft_zero]
   unfold Toward.cut
   have hm : min (s + n.log2 - 52) ((n * 2 ^ s).log2 + 2) = s + n.log2 - 52 := by rw [log2_shift n s h0]; omega
   have hsplit : n * 2 ^ s = n * 2 ^ (52 - n.log2) * 2 ^ (s + n.log2 - 52) := by
    rw [Nat.mul_assoc, ← Nat.pow_add, show 52 - n.log2 + (s + n.log2 - 52) = s by omega]
   have hpp : 0 < 2 ^ (s + n.log2 - 52) := Nat.pow_pos (by omega)
   simp only [hm]
   rw [Nat.shiftLeft_eq, Nat.one_mul, hsplit, Nat.mul_div_cancel _ hpp, Nat.mul_mod_left]
   simp
 rw [hkept]
 have e : ((n.log2 : Int) - 52 - -1074).toNat = n.log2 + 1022 := by omega
 rw [e]
 unfold Format.word
 simp only [Bool.false_eq_true, if_false]
 have h53 : 2 ^ 53 = 2 * 2 ^ 52 := by decide +kernel
 rw [h53] at k1
 have h1 : (n.log2 + 1022) * 2 ^ 52 ≤ 1074 * 2 ^ 52 := Nat.mul_le_mul_right _ (by omega)
 apply Nat.min_eq_left
 generalize 2 ^ 52 = Q at *
 generalize n * 2 ^ (52 - n.log2) = k at *
 omega
theorem near_val (n s : Nat) (h : n < 2 ^ 53) : double.nearest false (n * 2 ^ s) (-(s : Int)) = fl n := by
 have hf : fl n = double.nearest false n 0 := by
  show double.nearest (decide ((n : Int) < 0)) (n : Int).natAbs 0 = _
  rw [show decide ((n : Int) < 0) = false by simp]
  rfl
 by_cases h0 : n = 0
 ·subst h0
  rw [hf]; unfold Format.nearest; rw [if_pos (Nat.zero_mul _), if_pos rfl]
 ·have := near_form n 0 h0 h
  rw [hf, near_form n s h0 h]
  simpa using this.symm
theorem read_val (n : Nat) (h : n < 2 ^ 53) : Val (double.read (fl n)) n := by
 by_cases h0 : n = 0
 ·subst h0
  exact ⟨1074, by decide +kernel⟩
 ·obtain ⟨hL, k0, k1⟩ := kept_bd n h0 h
  have hf : fl n = (n.log2 + 1022) * 2 ^ 52 + n * 2 ^ (52 - n.log2) := by
   rw [← near_val n 0 h, near_form n 0 h0 h]
  refine ⟨52 - n.log2, ?_⟩
  rw [hf]
  generalize hk : n * 2 ^ (52 - n.log2) = k at *
  generalize n.log2 = L at *
  unfold Format.read
  rw [signWeight_double, binade_double, infRung_double, leastPlace_double]
  have hw : (L + 1022) * 2 ^ 52 + k < 2 ^ 63 := by omega
  have hmod : ((L + 1022) * 2 ^ 52 + k) % 2 ^ 63 = (L + 1022) * 2 ^ 52 + k := Nat.mod_eq_of_lt hw
  have hdiv : ((L + 1022) * 2 ^ 52 + k) / 2 ^ 63 = 0 := Nat.div_eq_of_lt hw
  simp only [hmod, hdiv]
  rw [if_neg (by omega), if_pos (by omega)]
  have q1 : ((L + 1022) * 2 ^ 52 + k) / 2 ^ 52 = L + 1023 := by omega
  have q2 : ((L + 1022) * 2 ^ 52 + k) % 2 ^ 52 = k - 2 ^ 52 := by omega
  rw [q1, q2]
  have e1 : 2 ^ 52 + (k - 2 ^ 52) = k := by omega
  have e2 : (-1074 : Int) + ((L + 1023 - 1 : Nat) : Int) = -((52 - L : Nat) : Int) := by omega
  rw [e1, e2]
  rfl
theorem shl_mul (m s : Nat) : m <<< s = m * 2 ^ s := Nat.shiftLeft_eq m s
theorem sum_val {d e : Datum} {a b : Nat} (hd : Val d a) (he : Val e b) (h : a + b < 2 ^ 53) : (d.sum e).map double.write = some (fl (a + b)) := by
 obtain ⟨s, rfl⟩ := hd
 obtain ⟨t, rfl⟩ := he
 show some (double.write _) = _
 congr 1
 have hmin : min (-(s : Int)) (-(t : Int)) = -((max s t : Nat) : Int) := by omega
 simp only [hmin]
 have i1 : (-(s : Int) - -((max s t : Nat) : Int)).toNat = max s t - s := by omega
 have i2 : (-(t : Int) - -((max s t : Nat) : Int)).toNat = max s t - t := by omega
 rw [i1, i2]
 unfold signed
 simp only [Bool.false_eq_true, if_false, shl_mul]
 rw [Nat.mul_assoc, Nat.mul_assoc, ← Nat.pow_add, ← Nat.pow_add, show s + (max s t - s) = max s t by omega, show t + (max s t - t) = max s t by omega]
 have ht : ((a * 2 ^ max s t : Nat) : Int) + ((b * 2 ^ max s t : Nat) : Int) = (((a + b) * 2 ^ max s t : Nat) : Int) := by rw [Nat.add_mul]; exact (Int.natCast_add _ _).symm
 rw [ht]
 have hneg : (if (((a + b) * 2 ^ max s t : Nat) : Int) = 0 then (false && false) else decide ((((a + b) * 2 ^ max s t : Nat) : Int) < 0)) = false := by
  split
  ·rfl
  ·simp only [decide_eq_false_iff_not]; omega
 rw [hneg, Int.natAbs_natCast]
 exact near_val (a + b) _ h
theorem order_val {d e : Datum} {a b : Nat} (hd : Val d a) (he : Val e b) : d.order e = some (compare a b) := by
 obtain ⟨s, rfl⟩ := hd
 obtain ⟨t, rfl⟩ := he
 show some _ = _
 congr 1
 have hmin : min (-(s : Int)) (-(t : Int)) = -((max s t : Nat) : Int) := by omega
 simp only [hmin]
 have i1 : (-(s : Int) - -((max s t : Nat) : Int)).toNat = max s t - s := by omega
 have i2 : (-(t : Int) - -((max s t : Nat) : Int)).toNat = max s t - t := by omega
 rw [i1, i2]
 unfold signed
 simp only [Bool.false_eq_true, if_false, shl_mul]
 rw [Nat.mul_assoc, Nat.mul_assoc, ← Nat.pow_add, ← Nat.pow_add, show s + (max s t - s) = max s t by omega, show t + (max s t - t) = max s t by omega]
 have hp : 0 < 2 ^ max s t := Nat.pow_pos (by omega)
 generalize 2 ^ max s t = M at *
 rcases Nat.lt_trichotomy a b with h | h | h
 ·have h1 : a * M < b * M := Nat.mul_lt_mul_of_pos_right h hp
  rw [Nat.compare_eq_lt.2 h]
  exact compareOfLessAndEq_eq_lt.2 (by omega)
 ·subst h
  rw [Nat.compare_eq_eq.2 rfl]
  unfold compare
  simp [instOrdInt, compareOfLessAndEq]
 ·have h1 : b * M < a * M := Nat.mul_lt_mul_of_pos_right h hp
  rw [Nat.compare_eq_gt.2 h]
  simp only [compare, compareOfLessAndEq]
  rw [if_neg (by omega), if_neg (by omega)]
theorem int_val {d : Datum} {a : Nat} (hd : Val d a) : d.toInt .zero = some (a : Int) := by
 obtain ⟨s, rfl⟩ := hd
 unfold Datum.toInt Datum.integral
 simp only
 congr 1
 unfold signed
 simp only [Bool.false_eq_true, if_false, Nat.shiftLeft_zero]
 congr 1
 rw [show (-(s : Int)).toNat = 0 by omega, show (- -(s : Int)).toNat = s by omega, Nat.shiftLeft_zero]
 unfold Toward.cut
 simp only [Bool.toNat_false, Nat.add_zero, shl_mul, Nat.one_mul]
 by_cases h0 : a = 0
 ·subst h0; simp
 ·rw [log2_shift a s h0, show min s (a.log2 + s + 2) = s by omega]
  exact Nat.mul_div_cancel _ (Nat.pow_pos (by omega))
theorem fl_add (a b : Nat) (h : a + b < 2 ^ 53) : floatBits .add .f64 (fl a) (fl b) = some (fl (a + b)) :=
 sum_val (read_val a (by omega)) (read_val b (by omega)) h
theorem fl_order (a b : Nat) (ha : a < 2 ^ 53) (hb : b < 2 ^ 53) : FloatKind.f64.format.order (fl a) (fl b) = some (compare a b) :=
 order_val (read_val a ha) (read_val b hb)
theorem fl_int (a : Nat) (ha : a < 2 ^ 53) : floatToIntVal .f64 (fl a) .i64 = some (a : Int) := by
 unfold floatToIntVal
 rw [show (FloatKind.f64.decode (fl a)).toInt .zero = some (a : Int) from int_val (read_val a ha)]
 simp only
 rw [if_pos]
 simp [IntKind.min, IntKind.max, IntKind.signed, IntKind.bits]
 omega
theorem fl_0 : fl 0 = 0 := by decide +kernel
theorem fl_1 : fl 1 = 4607182418800017408 := by decide +kernel
end Fl
namespace Pl
open Go.RowKit
open Fl
theorem ret_int {k : IntKind} {a b : Int} (h : a = b) : Ending.returned (.int k a) = .returned (.int k b) := by rw [h]
theorem ret_bool {a b : Bool} (h : a = b) : Ending.returned (.bool a) = .returned (.bool b) := by rw [h]
theorem fl_most : fl 1073741824 = 4742290407621132288 := by decide +kernel
theorem cmp_lt {a b : Nat} (h : a < b) : compare a b = .lt := Nat.compare_eq_lt.2 h
theorem cmp_gt {a b : Nat} (h : b < a) : compare a b = .gt := Nat.compare_eq_gt.2 h
theorem cmp_eq (a : Nat) : compare a a = .eq := Nat.compare_eq_eq.2 rfl
theorem ord_k {n k bits : Nat} (hb : fl k = bits) (hn : n < 4294967296) (hk : k < 4294967296) : FloatKind.f64.format.order (fl n) bits = some (compare n k) := by
 rw [← hb]; exact fl_order n k (by omega) (by omega)
theorem conv_fi (w : World) (n : Nat) (hn : n < 4294967296) : (convert 76 3 (.float .f64 (fl n))).run Tryz.prog w = .ok (.int .i64 n) w :=
 run_convert_float_int w _ _ _ _ _ _ (by rw [Tryz.underlying76]; rfl) Tryz.underlying3 (fl_int n (by omega))
theorem fl_of (n : Nat) : floatOfInt .f64 (n : Int) = fl n := rfl
def most : Nat := 1073741824
def wholeN (n : Nat) : Nat := if 1 ≤ n ∧ n ≤ 1073741824 then n else 0
theorem wholeN_in {n : Nat} (h0 : 1 ≤ n) (h1 : n ≤ 1073741824) : wholeN n = n := by unfold wholeN; rw [if_pos ⟨h0, h1⟩]
theorem wholeN_out {n : Nat} (h : n < 1 ∨ 1073741824 < n) : wholeN n = 0 := by unfold wholeN; rw [if_neg (by omega)]
theorem whole_any (n : Nat) (w : World) (hn : n < 4294967296) : Calls Tryz.prog 95 #[.float .f64 (fl n)] w fun e w' => e = .returned (.int .i64 (wholeN n : Nat)) ∧ w = w' := by
 have o1 := ord_k (n := n) fl_1 hn (by omega)
 have o2 := ord_k (n := n) fl_most hn (by omega)
 have o3 := fl_order n n (by omega) (by omega)
 have hc := fun w => conv_fi w n hn
 have hf := fl_of n
 rw [cmp_eq] at o3
 rcases Nat.lt_trichotomy n 1 with h | h | h
 ·have HW := qh (wholeN_out (n := n) (by omega))
  rw [cmp_lt h] at o1
  clear o2 o3 hc hf h hn
  generalize fl n = F at *
  go_enter Tryz.func95, Tryz.ntmps95
  go_wp2
  go_ret
  exact ⟨ret_int (by rw [HW.out]; rfl), rfl⟩
 ·have HW := qh (wholeN_in (n := n) (by omega) (by omega))
  rw [h, cmp_eq, ← h] at o1
  rw [cmp_lt (by omega)] at o2
  clear h
  generalize fl n = F at *
  go_enter Tryz.func95, Tryz.ntmps95
  go_wp2
  go_ret
  exact ⟨ret_int (by rw [HW.out]), rfl⟩
 ·rw [cmp_gt h] at o1
  rcases Nat.lt_trichotomy n 1073741824 with h2 | h2 | h2
  ·have HW := qh (wholeN_in (n := n) (by omega) (by omega))
   rw [cmp_lt h2] at o2
   clear h h2
   generalize fl n = F at *
   go_enter Tryz.func95, Tryz.ntmps95
   go_wp2
   go_ret
   exact ⟨ret_int (by rw [HW.out]), rfl⟩
  ·have HW := qh (wholeN_in (n := n) (by omega) (by omega))
   rw [h2, cmp_eq] at o2
   rw [← h2] at o2
   clear h h2
   generalize fl n = F at *
   go_enter Tryz.func95, Tryz.ntmps95
   go_wp2
   go_ret
   exact ⟨ret_int (by rw [HW.out]), rfl⟩
  ·have HW := qh (wholeN_out (n := n) (by omega))
   rw [cmp_gt h2] at o2
   clear o3 hc hf h h2 hn
   generalize fl n = F at *
   go_enter Tryz.func95, Tryz.ntmps95
   go_wp2
   go_ret
   exact ⟨ret_int (by rw [HW.out]; rfl), rfl⟩
def inN (n : Nat) : Bool := decide (1 ≤ n) && decide (n ≤ 1073741824)
def isN (p : Nat × Nat) : Bool := inN p.1 && inN p.2
def C (p : Nat × Nat) : Value := .complex .f64 (fl p.1) (fl p.2)
theorem inN_in {n : Nat} (h : inN n = true) : 1 ≤ n ∧ n ≤ 1073741824 := by simpa [inN] using h
theorem inN_out {n : Nat} (h : inN n = false) : n < 1 ∨ 1073741824 < n := by
 have : ¬ (1 ≤ n ∧ n ≤ 1073741824) := by intro h'; simp [inN, h'] at h
 omega
theorem whole_in (n : Nat) (w : World) (h : inN n = true) : Calls Tryz.prog 95 #[.float .f64 (fl n)] w fun e w' => e = .returned (.int .i64 n) ∧ w = w' := by
 obtain ⟨h0, h1⟩ := inN_in h
 have := whole_any n w (by omega)
 rwa [wholeN_in h0 h1] at this
theorem whole_out (n : Nat) (w : World) (hn : n < 4294967296) (h : inN n = false) : Calls Tryz.prog 95 #[.float .f64 (fl n)] w fun e w' => e = .returned (.int .i64 0) ∧ w = w' := by
 have := whole_any n w hn
 rwa [wholeN_out (inN_out h)] at this
theorem is_any (p : Nat × Nat) (w : World) (h1 : p.1 < 4294967296) (h2 : p.2 < 4294967296) : Calls Tryz.prog 72 #[C p] w fun e w' => e = .returned (.bool (isN p)) ∧ w = w' := by
 unfold C
 cases a1 : inN p.1
 ·have HW := qh (whole_out p.1 w h1 a1)
  have HR := qh (show isN p = false from by unfold isN; rw [a1]; rfl)
  clear h1 h2 a1
  generalize fl p.1 = F at *
  generalize fl p.2 = G at *
  go_enter Tryz.func72, Tryz.ntmps72
  go_wp2_with fail
  ((with_reducible refine HW.out.mono ?_); rintro e w' ⟨rfl, rfl⟩)
  go_wp2
  go_ret
  exact ⟨ret_bool (by rw [HR.out]), rfl⟩
 ·have HW := qh (whole_in p.1 w a1)
  have hp1 := (inN_in a1).1
  have hq1 : (0 : Int) < (p.1 : Int) := by omega
  cases a2 : inN p.2
  ·have HV := qh (whole_out p.2 w h2 a2)
   have HR := qh (show isN p = false from by unfold isN; rw [a1, a2]; rfl)
   clear h1 h2 a1 a2
   generalize fl p.1 = F at *
   generalize fl p.2 = G at *
   go_enter Tryz.func72, Tryz.ntmps72
   go_wp2_with fail
   ((with_reducible refine HW.out.mono ?_); rintro e w' ⟨rfl, rfl⟩)
   go_wp2_with fail
   ((with_reducible refine HV.out.mono ?_); rintro e w' ⟨rfl, rfl⟩)
   go_wp2
   go_ret
   exact ⟨ret_bool (by rw [HR.out]), rfl⟩
  ·have HV := qh (whole_in p.2 w a2)
   have hp2 := (inN_in a2).1
   have hq2 : (0 : Int) < (p.2 : Int) := by omega
   have HR := qh (show isN p = true from by unfold isN; rw [a1, a2]; rfl)
   clear h1 h2 a1 a2
   generalize fl p.1 = F at *
   generalize fl p.2 = G at *
   go_enter Tryz.func72, Tryz.ntmps72
   go_wp2_with fail
   ((with_reducible refine HW.out.mono ?_); rintro e w' ⟨rfl, rfl⟩)
   go_wp2_with fail
   ((with_reducible refine HV.out.mono ?_); rintro e w' ⟨rfl, rfl⟩)
   go_wp2
   go_ret
   exact ⟨ret_bool (by rw [HR.out]; simp; omega), rfl⟩
def ofN (l c : Int) : Nat × Nat := if l < 1 ∨ 1073741824 < l ∨ c < 1 ∨ 1073741824 < c then (0, 0) else (l.toNat, c.toNat)
theorem C_zero : C (0, 0) = .complex .f64 0 0 := by unfold C; rw [fl_0]
theorem ret_c {F G : Nat} {p : Nat × Nat} (h1 : F = fl p.1) (h2 : G = fl p.2) : Ending.returned (.complex .f64 F G) = .returned (C p) := by subst h1 h2; rfl
theorem ret_c0 {p : Nat × Nat} (h : p = (0, 0)) : Ending.returned (.complex .f64 0 0) = .returned (C p) := by rw [h, C_zero]
theorem Begin_any (w : World) : Calls Tryz.prog 44 #[] w fun e w' => e = .returned (C (1, 1)) ∧ w = w' := by
 go_enter Tryz.func44, Tryz.ntmps44
 go_wp2
 go_ret
 exact ⟨ret_c fl_1.symm fl_1.symm, rfl⟩
theorem isN_part {p : Nat × Nat} (h : isN p = true) : inN p.1 = true ∧ inN p.2 = true := by simpa [isN] using h
theorem isN_bd {p : Nat × Nat} (h : isN p = true) : (1 ≤ p.1 ∧ p.1 ≤ 1073741824) ∧ (1 ≤ p.2 ∧ p.2 ≤ 1073741824) := ⟨inN_in (isN_part h).1, inN_in (isN_part h).2⟩
def stepN (p : Nat × Nat) (c : UInt8) : Nat × Nat := if c.toNat = 10 then (p.1 + 1, 1) else (p.1, p.2 + 1)
theorem stepN_bd {p : Nat × Nat} (h : isN p = true) (c : UInt8) : (stepN p c).1 ≤ 1073741825 ∧ (stepN p c).2 ≤ 1073741825 := by
 have := isN_bd h
 unfold stepN; split <;> simp <;> omega
theorem add_f (w : World) (n : Nat) (hn : n < 4294967296) : (binOp .add 76 (.float .f64 (fl n)) (.float .f64 4607182418800017408)).run Tryz.prog w = .ok (.float .f64 (fl (n + 1))) w := by
 refine run_float_arith w .add _ .f64 _ _ _ ?_
 rw [← fl_1]; exact fl_add n 1 (by omega)
theorem add_c (w : World) (l c : Nat) (hl : l < 4294967296) (hc : c < 4294967296) : (binOp .add 35 (.complex .f64 (fl l) (fl c)) (.complex .f64 0 4607182418800017408)).run Tryz.prog w = .ok (.complex .f64 (fl l) (fl (c + 1))) w := by
 refine run_complex_sum w .add (.inl rfl) _ .f64 _ _ _ _ _ _ ?_
 unfold cSumBits
 rw [show floatBits .add .f64 (fl l) 0 = some (fl l) from by have := fl_add l 0 (by omega); rwa [fl_0] at this]
 rw [show floatBits .add .f64 (fl c) 4607182418800017408 = some (fl (c + 1)) from by rw [← fl_1]; exact fl_add c 1 (by omega)]
 rfl
theorem step_any (p : Nat × Nat) (c : UInt8) (w : World) (h1 : p.1 < 4294967296) (h2 : p.2 < 4294967296) : Calls Tryz.prog 73 #[C p, .int .u8 c.toNat] w fun e w' => e = .returned (C (stepN p c)) ∧ w = w' := by
 unfold C
 have ha := fun w => add_f w p.1 h1
 have hb := fun w => add_c w p.1 p.2 h1 h2
 by_cases h : c.toNat = 10
 ·have HS := qh (show stepN p c = (p.1 + 1, 1) from by unfold stepN; rw [if_pos h])
  have hc : ((c.toNat : Int) == 10) = true := by simp [h]
  clear hb h h1 h2
  generalize fl p.1 = F at *
  generalize fl p.2 = G at *
  go_enter Tryz.func73, Tryz.ntmps73
  go_wp2
  go_ret
  exact ⟨ret_c (by rw [HS.out]) (by rw [HS.out]; exact fl_1.symm), rfl⟩
 ·have HS := qh (show stepN p c = (p.1, p.2 + 1) from by unfold stepN; rw [if_neg h])
  have hc : ((c.toNat : Int) == 10) = false := by simp; omega
  clear ha h h1 h2
  generalize hF : fl p.1 = F at *
  generalize fl p.2 = G at *
  go_enter Tryz.func73, Tryz.ntmps73
  go_wp2
  go_ret
  exact ⟨ret_c (by rw [HS.out, ← hF]) (by rw [HS.out]), rfl⟩
def behN (p : Nat × Nat) : List UInt8 → Nat × Nat
 | [] => if isN p then p else (0, 0)
 | c :: l => if isN p then behN (stepN p c) l else (0, 0)
theorem behN_out {p : Nat × Nat} (h : isN p = false) : ∀ l, behN p l = (0, 0)
 | [] => by simp [behN, h]
 | c :: l => by simp [behN, h]
theorem behN_cons {p : Nat × Nat} (h : isN p = true) (c : UInt8) (l : List UInt8) : behN p (c :: l) = behN (stepN p c) l := by simp [behN, h]
theorem drop_cons (s : ByteArray) (k : Nat) (h : k < s.size) : s.data.toList.drop k = s[k] :: s.data.toList.drop (k + 1) := by
 have hl : k < s.data.toList.length := by simpa using h
 rw [List.drop_eq_getElem_cons hl]
 rfl
theorem Behind_any (p : Nat × Nat) (s : ByteArray) (w : World) (h1 : p.1 < 2147483648) (h2 : p.2 < 2147483648) (hs : s.size ≤ 9223372036854775806) : Calls Tryz.prog 57 #[C p, .string s] w fun e w' => e = .returned (C (behN p s.data.toList)) ∧ w = w' := by
 go_enter Tryz.func57, Tryz.ntmps57
 go_wp2
 go_loop [0, 5] (fun v i => ∃ (q : Nat × Nat) (k : Nat), k ≤ s.size ∧ i = .int .i64 k ∧ v = C q ∧ q.1 < 2147483648 ∧ q.2 < 2147483648 ∧ Hid (behN p s.data.toList = behN q (s.data.toList.drop k))) (fun _ i => s.size - (intOf i).toNat)
 case atStart => exact ⟨p, 0, Nat.zero_le _, rfl, rfl, h1, h2, qh rfl⟩
 case round =>
  obtain ⟨q, k, hk, rfl, rfl, q1, q2, HB⟩ := hrel
  have HI := qh (is_any q w (by omega) (by omega))
  by_cases hlt : k < s.size
  ·have HD := qh (drop_cons s k hlt)
   cases a : isN q
   ·rw [a] at HI
    have HR := qh (show behN p s.data.toList = (0, 0) from by rw [HB.out, behN_out a])
    clear HB HD a
    go_wp2_with fail
    ((with_reducible refine HI.out.mono ?_); rintro e w' ⟨rfl, rfl⟩)
    go_wp2_with fail
    ((with_reducible refine HI.out.mono ?_); rintro e w' ⟨rfl, rfl⟩)
    go_wp2
    go_ret
    exact ⟨ret_c0 HR.out, rfl⟩
   ·rw [a] at HI
    have HS := qh (step_any q s[k] w (by omega) (by omega))
    have HN := qh (show behN p s.data.toList = behN (stepN q s[k]) (s.data.toList.drop (k + 1)) from by rw [HB.out, HD.out, behN_cons a])
    have bd := stepN_bd a s[k]
    clear HB HD a
    generalize stepN q s[k] = q' at *
    go_wp2_with fail
    ((with_reducible refine HI.out.mono ?_); rintro e w' ⟨rfl, rfl⟩)
    go_wp2_with fail
    ((with_reducible refine HS.out.mono ?_); rintro e w' ⟨rfl, rfl⟩)
    go_wp2
    go_round
    case rel => exact ⟨q', k + 1, by omega, by go_num, rfl, by omega, by omega, HN⟩
    case measure => simp [intOf]; omega
  ·have hkS : k = s.size := by omega
   subst hkS
   have HE := qh (show behN p s.data.toList = behN q [] from by rw [HB.out, List.drop_of_length_le (by simp)])
   cases a : isN q
   ·rw [a] at HI
    have HR := qh (show behN p s.data.toList = (0, 0) from by rw [HE.out, behN_out a])
    clear HB HE a
    go_wp2_with fail
    ((with_reducible refine HI.out.mono ?_); rintro e w' ⟨rfl, rfl⟩)
    go_wp2
    go_ret
    exact ⟨ret_c0 HR.out, rfl⟩
   ·rw [a] at HI
    have HR := qh (show behN p s.data.toList = q from by rw [HE.out]; simp [behN, a])
    clear HB HE a
    go_wp2_with fail
    ((with_reducible refine HI.out.mono ?_); rintro e w' ⟨rfl, rfl⟩)
    go_wp2
    go_ret
    exact ⟨by rw [HR.out]; rfl, rfl⟩
def R (l c : Int) : Value := .agg #[.int .i64 l, .int .i64 c]
def isR (l c : Int) : Bool := decide (1 ≤ l) && decide (l ≤ 1073741824) && (decide (1 ≤ c) && decide (c ≤ 1073741824))
theorem isR_in {l c : Int} (h : isR l c = true) : (1 ≤ l ∧ l ≤ 1073741824) ∧ 1 ≤ c ∧ c ≤ 1073741824 := by simpa [isR] using h
theorem ofN_in {l c : Int} (h : isR l c = true) : ofN l c = (l.toNat, c.toNat) := by
 have := isR_in h
 unfold ofN; rw [if_neg (by omega)]
theorem isR_mk {l c : Int} (h1 : 1 ≤ l) (h2 : l ≤ 1073741824) (h3 : 1 ≤ c) (h4 : c ≤ 1073741824) : isR l c = true := by simp [isR, h1, h2, h3, h4]
theorem ofN_out {l c : Int} (h : isR l c = false) : ofN l c = (0, 0) := by
 unfold ofN; rw [if_pos]
 by_cases g : 1 ≤ l ∧ l ≤ 1073741824 ∧ 1 ≤ c ∧ c ≤ 1073741824
 ·rw [isR_mk g.1 g.2.1 g.2.2.1 g.2.2.2] at h; cases h
 ·omega
theorem below_alloc {w wr : World} (h : Below w.heap.size w wr) (o : Obj) : Below w.heap.size w (wr.alloc o) := h.alloc h.size o
theorem rIs_any (l c : Int) (w : World) : Calls Tryz.prog 30 #[R l c] w fun e w' => e = .returned (.bool (isR l c)) ∧ Below w.heap.size w w' := by
 unfold R
 by_cases h1 : 1 ≤ l
 ·by_cases h2 : l ≤ 1073741824
  ·by_cases h3 : 1 ≤ c
   ·have HR := qh (show isR l c = decide (c ≤ 1073741824) from by unfold isR; simp [h1, h2, h3])
    go_enter Tryz.func30, Tryz.ntmps30
    go_wp2
    go_ret
    exact ⟨ret_bool (by rw [HR.out]), below_alloc (Below.refl _ _) _⟩
   ·have HR := qh (show isR l c = false from by unfold isR; simp; omega)
    go_enter Tryz.func30, Tryz.ntmps30
    go_wp2
    go_ret
    exact ⟨ret_bool (by rw [HR.out]), below_alloc (Below.refl _ _) _⟩
  ·have HR := qh (show isR l c = false from by unfold isR; simp; omega)
   go_enter Tryz.func30, Tryz.ntmps30
   go_wp2
   go_ret
   exact ⟨ret_bool (by rw [HR.out]), below_alloc (Below.refl _ _) _⟩
 ·have HR := qh (show isR l c = false from by unfold isR; simp; omega)
  go_enter Tryz.func30, Tryz.ntmps30
  go_wp2
  go_ret
  exact ⟨ret_bool (by rw [HR.out]), below_alloc (Below.refl _ _) _⟩
theorem rPos_any (l c : Int) (w : World) : Calls Tryz.prog 16 #[R l c] w fun e w' => e = .returned (C (ofN l c)) ∧ Below w.heap.size w w' := by
 have hI := fun w' => rIs_any l c w'
 unfold R at *
 cases a : isR l c
 ·rw [a] at hI
  have HI := qh hI
  have HO := qh (ofN_out a)
  clear hI a
  go_enter Tryz.func16, Tryz.ntmps16
  go_wp2_with fail
  ((with_reducible refine (HI.out _).mono ?_); rintro e w' ⟨rfl, hb⟩)
  replace hb := (below_alloc (Below.refl _ _) _).trans (hb.mono (below_alloc (Below.refl _ _) _).size)
  go_wp2
  go_ret
  exact ⟨ret_c0 HO.out, hb⟩
 ·rw [a] at hI
  have HI := qh hI
  have HO := qh (ofN_in a)
  have hb := isR_in a
  have e1 : floatOfInt .f64 l = fl l.toNat := by rw [show fl l.toNat = floatOfInt .f64 ((l.toNat : Nat) : Int) from rfl, show ((l.toNat : Nat) : Int) = l by omega]
  have e2 : floatOfInt .f64 c = fl c.toNat := by rw [show fl c.toNat = floatOfInt .f64 ((c.toNat : Nat) : Int) from rfl, show ((c.toNat : Nat) : Int) = c by omega]
  have E1 := qh e1
  have E2 := qh e2
  clear e1 e2 hI a hb
  go_enter Tryz.func16, Tryz.ntmps16
  go_wp2_with fail
  ((with_reducible refine (HI.out _).mono ?_); rintro e w' ⟨rfl, hb⟩)
  have k0 := (hb.cell (p := ⟨w.heap.size, 0, none⟩) (by simp)).trans (World.cell?_alloc_new _ _ _ _)
  have k1 := (hb.cell (p := ⟨w.heap.size, 1, none⟩) (by simp)).trans (World.cell?_alloc_new _ _ _ _)
  simp only [List.getElem?_toArray, List.getElem?_cons_zero, List.getElem?_cons_succ] at k0 k1
  replace hb := (below_alloc (Below.refl _ _) _).trans (hb.mono (below_alloc (Below.refl _ _) _).size)
  go_wp2
  go_ret
  exact ⟨ret_c (by rw [HO.out]; exact E1.out) (by rw [HO.out]; exact E2.out), hb⟩
def Two (w : World) (b : Nat) (l c : Int) : Prop := w.cell? ⟨b, 0, none⟩ = some (.int .i64 l) ∧ w.cell? ⟨b, 1, none⟩ = some (.int .i64 c) ∧ w.frozen? ⟨b, 0, none⟩ = false ∧ w.frozen? ⟨b, 1, none⟩ = false
theorem Two.below {w w' : World} {B b : Nat} {l c : Int} (h : Two w b l c) (hb : Below B w w') (hB : b < B) : Two w' b l c :=
 ⟨(hb.cell (p := ⟨b, 0, none⟩) hB).trans h.1, (hb.cell (p := ⟨b, 1, none⟩) hB).trans h.2.1, (hb.frozen (p := ⟨b, 0, none⟩) hB).trans h.2.2.1, (hb.frozen (p := ⟨b, 1, none⟩) hB).trans h.2.2.2⟩
theorem Two.set0 {w : World} {b : Nat} {l c : Int} (h : Two w b l c) (x : Int) : Two (w.setCell ⟨b, 0, none⟩ (.int .i64 x)) b x c :=
 ⟨World.cell?_setCell_same _ _ _ h.1, (World.cell?_setCell_other _ _ _ _ (by simp)).trans h.2.1, by rw [World.frozen?_setCell]; exact h.2.2.1, by rw [World.frozen?_setCell]; exact h.2.2.2⟩
theorem Two.set1 {w : World} {b : Nat} {l c : Int} (h : Two w b l c) (x : Int) : Two (w.setCell ⟨b, 1, none⟩ (.int .i64 x)) b l x :=
 ⟨(World.cell?_setCell_other _ _ _ _ (by simp)).trans h.1, World.cell?_setCell_same _ _ _ h.2.1, by rw [World.frozen?_setCell]; exact h.2.2.1, by rw [World.frozen?_setCell]; exact h.2.2.2⟩
theorem Two.set_far {w : World} {b : Nat} {l c : Int} (h : Two w b l c) {p : Addr} (hp : p.block ≠ b) (v : Value) : Two (w.setCell p v) b l c :=
 ⟨(World.cell?_setCell_other _ _ _ _ (by intro e; subst e; simp at hp)).trans h.1, (World.cell?_setCell_other _ _ _ _ (by intro e; subst e; simp at hp)).trans h.2.1, by rw [World.frozen?_setCell]; exact h.2.2.1, by rw [World.frozen?_setCell]; exact h.2.2.2⟩
theorem two_load {w : World} {b : Nat} {l c : Int} (h0 : w.cell? ⟨b, 0, none⟩ = some (.int .i64 l)) (h1 : w.cell? ⟨b, 1, none⟩ = some (.int .i64 c)) : (loadVar 56 ⟨b, 0, none⟩).run Tryz.prog w = .ok (.agg #[.int .i64 l, .int .i64 c]) w := by
 have hl : (loadCells ⟨b, 0, none⟩ 2).run Tryz.prog w = .ok #[.int .i64 l, .int .i64 c] w :=
  run_loadCells_list (P := Tryz.prog) w ⟨b, 0, none⟩ [.int .i64 l, .int .i64 c] (fun j v hv => by
   match j with
   | 0 => simp at hv; subst hv; simpa [Addr.add] using h0
   | 1 => simp at hv; subst hv; simpa [Addr.add] using h1
   | j + 2 => simp at hv)
 simp [loadVar, Sem.run_bind, Tryz.isAgg56, Tryz.sizeOf56, hl]
theorem two_ret {fn : Func} {p : Tmp} (h : fn.results = #[.cell p 56]) (tmps : Array Value) (w : World) (b : Nat) (l c : Int) (hp : tmps.getD p undef = .pointer (some ⟨b, 0, none⟩)) (h0 : w.cell? ⟨b, 0, none⟩ = some (.int .i64 l)) (h1 : w.cell? ⟨b, 1, none⟩ = some (.int .i64 c)) :
 (results fn tmps).run Tryz.prog w = .ok (.agg #[.int .i64 l, .int .i64 c]) w := by
 have hp' : tmps[p]?.getD undef = .pointer (some ⟨b, 0, none⟩) := by simpa using hp
 simp [results, h, hp', asAddr, two_load h0 h1]
theorem behN_pair (n m : Nat) (r : List UInt8) : behN (n, m) r = behN (ofN n m) r := by
 cases a : isN (n, m)
 ·rw [behN_out a, ofN_out, behN_out rfl]
  by_cases g : isR n m = true
  ·have := isR_in g
   simp [isN, inN] at a
   omega
  ·simpa using g
 ·have := isN_bd a
  rw [ofN_in (isR_mk (by omega) (by omega) (by omega) (by omega))]; rfl
theorem ret_R {a b : Int} {p : Nat × Nat} (h1 : a = p.1) (h2 : b = p.2) : Ending.returned (.agg #[.int .i64 a, .int .i64 b]) = .returned (.agg #[.int .i64 (p.1 : Nat), .int .i64 (p.2 : Nat)]) := by subst h1 h2; rfl
theorem rBehind_any (l c : Int) (s : ByteArray) (w : World) (hs : s.size ≤ 9223372036854775806) : Calls Tryz.prog 24 #[R l c, .string s] w fun e w' => e = .returned (R ((behN (ofN l c) s.data.toList).1 : Nat) ((behN (ofN l c) s.data.toList).2 : Nat)) ∧ Below w.heap.size w w' := by
 unfold R
 go_enter Tryz.func24, Tryz.ntmps24
 go_wp2
 go_loopw [5] (fun i wr => ∃ (l' c' : Int) (k : Nat), k ≤ s.size ∧ i = .int .i64 k ∧ Two wr w.heap.size l' c' ∧ Two wr (w.heap.size + 1) 0 0 ∧ w.heap.size + 1 < wr.heap.size ∧ Below w.heap.size w wr ∧ Hid (behN (ofN l c) s.data.toList = behN (ofN l' c') (s.data.toList.drop k))) (fun i _ => s.size - (intOf i).toNat)
 case atStart =>
  refine ⟨l, c, 0, Nat.zero_le _, rfl, ?_, ?_, ?_, below_alloc (below_alloc (Below.refl _ _) _) _, qh rfl⟩
  ·refine ⟨?_, ?_, ?_, ?_⟩ <;> simp [go_sem]
  ·refine ⟨?_, ?_, ?_, ?_⟩ <;> simp [go_sem]
  ·simp
 case round =>
  obtain ⟨l', c', k, hk, rfl, ta, tb, hsz, hb, HB⟩ := hrel
  have hI := fun w' => rIs_any l' c' w'
  unfold R at hI
  by_cases hlt : k < s.size
  ·have HD := qh (drop_cons s k hlt)
   cases a : isR l' c'
   ·rw [a] at hI
    have HI := qh hI
    have HR := qh (show behN (ofN l c) s.data.toList = (0, 0) from by rw [HB.out, ofN_out a]; exact behN_out rfl _)
    clear hI HB a HD
    obtain ⟨z0, z1, z2, z3⟩ := ta
    go_wp2_with fail
    ((with_reducible refine (HI.out _).mono ?_); rintro e w1 ⟨rfl, h1⟩)
    have tb1 := tb.below h1 (by omega)
    have tb2 := (tb1.set0 0).set1 0
    obtain ⟨b0, b1, b2, b3⟩ := tb1
    have hsz1 := h1.size
    replace h1 := hb.trans (h1.mono hb.size)
    clear z0 z1 z2 z3
    go_wp2
    (try simp only [Exit.inBlock, Exit.then])
    refine bodyPost_ret (two_ret rfl _ _ (w.heap.size + 1) 0 0 rfl tb2.1 tb2.2.1) rfl ?_
    exact ⟨ret_R (by rw [HR.out]; rfl) (by rw [HR.out]; rfl), (h1.setCell (by simp) _).setCell (by simp) _⟩
   ·have hbd := isR_in a
    have ha := ofN_in a
    rw [a] at hI
    have HI := qh hI
    have HS := qh (show behN (ofN l c) s.data.toList = behN (stepN (l'.toNat, c'.toNat) s[k]) (s.data.toList.drop (k + 1)) from by
     rw [HB.out, HD.out, ha]
     refine behN_cons ?_ _ _
     unfold isN inN
     simp
     omega)
    clear hI HB HD a ha
    obtain ⟨z0, z1, z2, z3⟩ := ta
    have ta' : Two wr w.heap.size l' c' := ⟨z0, z1, z2, z3⟩
    by_cases h10 : s[k].toNat = 10
    ·have HN := qh (show behN (ofN l c) s.data.toList = behN (ofN (l' + 1) 1) (s.data.toList.drop (k + 1)) from by
      rw [HS.out]
      unfold stepN
      rw [if_pos h10, behN_pair]
      congr 2
      show ((l'.toNat + 1 : Nat) : Int) = _
      omega)
     have hc : ((s[k].toNat : Int) == 10) = true := by simp [h10]
     clear HS h10
     have TA := qh ta'
     have TB := qh tb
     clear ta' tb
     go_wp2_with fail
     ((with_reducible refine (HI.out _).mono ?_); rintro e w1 ⟨rfl, h1⟩)
     have ta1 := TA.out.below h1 (by omega)
     have tb1 := TB.out.below h1 (by omega)
     have TA2 := qh ((ta1.set0 (l' + 1)).set1 1)
     have TB2 := qh ((tb1.set_far (p := ⟨w.heap.size, 0, none⟩) (by simp) (.int .i64 (l' + 1))).set_far (p := ⟨w.heap.size, 1, none⟩) (by simp) (.int .i64 1))
     obtain ⟨a0, a1, a2, a3⟩ := ta1
     clear tb1
     have hsz1 := h1.size
     replace h1 := hb.trans (h1.mono hb.size)
     clear z0 z1 z2 z3
     go_wp2
     go_roundw
     case rel => exact ⟨l' + 1, 1, k + 1, by omega, by go_num, TA2.out, TB2.out, by simp [World.setCell]; omega, (h1.setCell (by simp) _).setCell (by simp) _, HN⟩
     case measure => simp [intOf]; omega
    ·have HN := qh (show behN (ofN l c) s.data.toList = behN (ofN l' (c' + 1)) (s.data.toList.drop (k + 1)) from by
      rw [HS.out]
      unfold stepN
      rw [if_neg h10, behN_pair]
      congr 2
      ·show ((l'.toNat : Nat) : Int) = _
       omega
      ·show ((c'.toNat + 1 : Nat) : Int) = _
       omega)
     have hc : ((s[k].toNat : Int) == 10) = false := by simp; omega
     clear HS h10
     have TA := qh ta'
     have TB := qh tb
     clear ta' tb
     go_wp2_with fail
     ((with_reducible refine (HI.out _).mono ?_); rintro e w1 ⟨rfl, h1⟩)
     have ta1 := TA.out.below h1 (by omega)
     have tb1 := TB.out.below h1 (by omega)
     have TA2 := qh (ta1.set1 (c' + 1))
     have TB2 := qh (tb1.set_far (p := ⟨w.heap.size, 1, none⟩) (by simp) (.int .i64 (c' + 1)))
     obtain ⟨a0, a1, a2, a3⟩ := ta1
     clear tb1
     have hsz1 := h1.size
     replace h1 := hb.trans (h1.mono hb.size)
     clear z0 z1 z2 z3
     go_wp2
     go_roundw
     case rel => exact ⟨l', c' + 1, k + 1, by omega, by go_num, TA2.out, TB2.out, by simp [World.setCell]; omega, h1.setCell (by simp) _, HN⟩
     case measure => simp [intOf]; omega
  ·have hkS : k = s.size := by omega
   subst hkS
   have HE := qh (show behN (ofN l c) s.data.toList = behN (ofN l' c') [] from by rw [HB.out, List.drop_of_length_le (by simp)])
   obtain ⟨z0, z1, z2, z3⟩ := ta
   have TA := qh (show Two wr w.heap.size l' c' from ⟨z0, z1, z2, z3⟩)
   have TB := qh tb
   cases a : isR l' c'
   ·rw [a] at hI
    have HI := qh hI
    have HR := qh (show behN (ofN l c) s.data.toList = (0, 0) from by rw [HB.out, ofN_out a]; exact behN_out rfl _)
    clear hI HB HE a tb
    go_wp2_with fail
    ((with_reducible refine (HI.out _).mono ?_); rintro e w1 ⟨rfl, h1⟩)
    have tb1 := TB.out.below h1 (by omega)
    have tb2 := (tb1.set0 0).set1 0
    obtain ⟨b0, b1, b2, b3⟩ := tb1
    have hsz1 := h1.size
    replace h1 := hb.trans (h1.mono hb.size)
    clear z0 z1 z2 z3
    go_wp2
    (try simp only [Exit.inBlock, Exit.then])
    refine bodyPost_ret (two_ret rfl _ _ (w.heap.size + 1) 0 0 rfl tb2.1 tb2.2.1) rfl ?_
    exact ⟨ret_R (by rw [HR.out]; rfl) (by rw [HR.out]; rfl), (h1.setCell (by simp) _).setCell (by simp) _⟩
   ·have hbd := isR_in a
    have HR := qh (show behN (ofN l c) s.data.toList = (l'.toNat, c'.toNat) from by
     rw [HE.out, ofN_in a]
     have : isN (l'.toNat, c'.toNat) = true := by unfold isN inN; simp; omega
     simp [behN, this])
    rw [a] at hI
    have HI := qh hI
    clear hI HB HE a tb
    go_wp2_with fail
    ((with_reducible refine (HI.out _).mono ?_); rintro e w1 ⟨rfl, h1⟩)
    have ta1 := TA.out.below h1 (by omega)
    have tb1 := TB.out.below h1 (by omega)
    have tb2 := (tb1.set0 l').set1 c'
    obtain ⟨b0, b1, b2, b3⟩ := tb1
    obtain ⟨a0, a1, a2, a3⟩ := ta1
    have hsz1 := h1.size
    replace h1 := hb.trans (h1.mono hb.size)
    clear z0 z1 z2 z3
    go_wp2
    (try simp only [Exit.inBlock, Exit.then])
    refine bodyPost_ret (two_ret rfl _ _ (w.heap.size + 1) l' c' rfl tb2.1 tb2.2.1) rfl ?_
    exact ⟨ret_R (by rw [HR.out]; simp; omega) (by rw [HR.out]; simp; omega), (h1.setCell (by simp) _).setCell (by simp) _⟩
end Pl
end Go.Proofs.YtkemhmfdooghkaaGreatDoor
