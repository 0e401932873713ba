/- Whole numbers as floating-point words: they are kept exactly, added exactly, stand to each other as they do. -/
import Derived.Laws.FloatArith
set_option linter.unusedSimpArgs false
set_option linter.unusedVariables false
namespace Go.Proofs.Ytibpekgmgidebaa.Fl
open Go Ieee

/-- The word of a whole number. -/
def fl (n : Nat) : Nat := floatOfInt .f64 (n : Int)
/-- A datum that is the whole number n. -/
def Val (d : Datum) (n : Nat) : Prop := ∃ s : Nat, d = .number false (n * 2 ^ s) (-(s : Int))

theorem log2_shift (n s : Nat) (h : n ≠ 0) : (n * 2 ^ s).log2 = n.log2 + s := by
  have hp : 0 < 2 ^ s := Nat.pow_pos (by omega)
  have hne : n * 2 ^ s ≠ 0 := Nat.mul_ne_zero h (by omega)
  rw [Nat.log2_eq_iff hne]
  have h1 := Nat.log2_self_le h
  have h2 := Nat.lt_log2_self (n := n)
  rw [Nat.pow_add, show n.log2 + s + 1 = (n.log2 + 1) + s by omega, Nat.pow_add]
  exact ⟨Nat.mul_le_mul_right _ h1, Nat.mul_lt_mul_of_pos_right h2 hp⟩

theorem leastPlace_double : double.leastPlace = -1074 := by decide +kernel
theorem binade_double : double.binade = 2 ^ 52 := rfl
theorem infRung_double : double.infRung = 2047 * 2 ^ 52 := by decide +kernel
theorem signWeight_double : double.signWeight = 2 ^ 63 := by decide +kernel

theorem kept_bd (n : Nat) (h0 : n ≠ 0) (h : n < 2 ^ 53) : n.log2 ≤ 52 ∧ 2 ^ 52 ≤ n * 2 ^ (52 - n.log2) ∧ n * 2 ^ (52 - n.log2) < 2 ^ 53 := by
  have h1 := Nat.log2_self_le h0
  have h2 := Nat.lt_log2_self (n := n)
  have hL : n.log2 ≤ 52 := by
    have := (Nat.log2_lt h0 (k := 53)).2 h
    omega
  refine ⟨hL, ?_, ?_⟩
  · have : 2 ^ n.log2 * 2 ^ (52 - n.log2) = 2 ^ 52 := by rw [← Nat.pow_add]; congr 1; omega
    rw [← this]; exact Nat.mul_le_mul_right _ h1
  · have : 2 ^ (n.log2 + 1) * 2 ^ (52 - n.log2) = 2 ^ 53 := by rw [← Nat.pow_add]; congr 1; omega
    rw [← this]; exact Nat.mul_lt_mul_of_pos_right h2 (Nat.pow_pos (by omega))

/-- The word of a whole number, however its magnitude is written. -/
theorem near_form (n s : Nat) (h0 : n ≠ 0) (h : n < 2 ^ 53) : double.nearest false (n * 2 ^ s) (-(s : Int)) = (n.log2 + 1022) * 2 ^ 52 + n * 2 ^ (52 - n.log2) := by
  obtain ⟨hL, k0, k1⟩ := kept_bd n h0 h
  have hp : 0 < 2 ^ s := Nat.pow_pos (by omega)
  have hne : n * 2 ^ s ≠ 0 := Nat.mul_ne_zero h0 (by omega)
  unfold Format.nearest
  rw [if_neg hne, log2_shift n s h0, leastPlace_double, binade_double, infRung_double]
  have hlast : max (-(s : Int) + ((n.log2 + s : Nat) : Int) - ((double.fractionBits : Nat) : Int)) (-1074) = (n.log2 : Int) - 52 := by
    show max (-(s : Int) + ((n.log2 + s : Nat) : Int) - 52) (-1074) = _
    omega
  simp only [hlast]
  have hkept : Toward.even.cut false ((n * 2 ^ s) <<< (-(s : Int) - ((n.log2 : Int) - 52)).toNat) ((n.log2 : Int) - 52 - -(s : Int)).toNat = n * 2 ^ (52 - n.log2) := by
    by_cases hs : s + n.log2 ≤ 52
    · rw [show (-(s : Int) - ((n.log2 : Int) - 52)).toNat = 52 - n.log2 - s by omega, show ((n.log2 : Int) - 52 - -(s : Int)).toNat = 0 by omega]
      rw [Nat.shiftLeft_eq, Nat.mul_assoc, ← Nat.pow_add, show s + (52 - n.log2 - s) = 52 - n.log2 by omega]
      unfold Toward.cut
      simp [Nat.mod_one]
    · rw [show (-(s : Int) - ((n.log2 : Int) - 52)).toNat = 0 by omega, show ((n.log2 : Int) - 52 - -(s : Int)).toNat = s + n.log2 - 52 by omega, Nat.shiftLeft_zero]
      unfold Toward.cut
      have hm : min (s + n.log2 - 52) ((n * 2 ^ s).log2 + 2) = s + n.log2 - 52 := by rw [log2_shift n s h0]; omega
      have hsplit : n * 2 ^ s = n * 2 ^ (52 - n.log2) * 2 ^ (s + n.log2 - 52) := by
        rw [Nat.mul_assoc, ← Nat.pow_add, show 52 - n.log2 + (s + n.log2 - 52) = s by omega]
      have hpp : 0 < 2 ^ (s + n.log2 - 52) := Nat.pow_pos (by omega)
      simp only [hm]
      rw [Nat.shiftLeft_eq, Nat.one_mul, hsplit, Nat.mul_div_cancel _ hpp, Nat.mul_mod_left]
      simp
  rw [hkept]
  have e : ((n.log2 : Int) - 52 - -1074).toNat = n.log2 + 1022 := by omega
  rw [e]
  unfold Format.word
  simp only [Bool.false_eq_true, if_false]
  have h53 : 2 ^ 53 = 2 * 2 ^ 52 := by decide +kernel
  rw [h53] at k1
  have h1 : (n.log2 + 1022) * 2 ^ 52 ≤ 1074 * 2 ^ 52 := Nat.mul_le_mul_right _ (by omega)
  apply Nat.min_eq_left
  generalize 2 ^ 52 = Q at *
  generalize n * 2 ^ (52 - n.log2) = k at *
  omega
theorem near_val (n s : Nat) (h : n < 2 ^ 53) : double.nearest false (n * 2 ^ s) (-(s : Int)) = fl n := by
  have hf : fl n = double.nearest false n 0 := by
    show double.nearest (decide ((n : Int) < 0)) (n : Int).natAbs 0 = _
    rw [show decide ((n : Int) < 0) = false by simp]
    rfl
  by_cases h0 : n = 0
  · subst h0
    rw [hf]; unfold Format.nearest; rw [if_pos (Nat.zero_mul _), if_pos rfl]
  · have := near_form n 0 h0 h
    rw [hf, near_form n s h0 h]
    simpa using this.symm

theorem read_val (n : Nat) (h : n < 2 ^ 53) : Val (double.read (fl n)) n := by
  by_cases h0 : n = 0
  · subst h0
    exact ⟨1074, by decide +kernel⟩
  · obtain ⟨hL, k0, k1⟩ := kept_bd n h0 h
    have hf : fl n = (n.log2 + 1022) * 2 ^ 52 + n * 2 ^ (52 - n.log2) := by
      rw [← near_val n 0 h, near_form n 0 h0 h]
    refine ⟨52 - n.log2, ?_⟩
    rw [hf]
    generalize hk : n * 2 ^ (52 - n.log2) = k at *
    generalize n.log2 = L at *
    unfold Format.read
    rw [signWeight_double, binade_double, infRung_double, leastPlace_double]
    have hw : (L + 1022) * 2 ^ 52 + k < 2 ^ 63 := by omega
    have hmod : ((L + 1022) * 2 ^ 52 + k) % 2 ^ 63 = (L + 1022) * 2 ^ 52 + k := Nat.mod_eq_of_lt hw
    have hdiv : ((L + 1022) * 2 ^ 52 + k) / 2 ^ 63 = 0 := Nat.div_eq_of_lt hw
    simp only [hmod, hdiv]
    rw [if_neg (by omega), if_pos (by omega)]
    have q1 : ((L + 1022) * 2 ^ 52 + k) / 2 ^ 52 = L + 1023 := by omega
    have q2 : ((L + 1022) * 2 ^ 52 + k) % 2 ^ 52 = k - 2 ^ 52 := by omega
    rw [q1, q2]
    have e1 : 2 ^ 52 + (k - 2 ^ 52) = k := by omega
    have e2 : (-1074 : Int) + ((L + 1023 - 1 : Nat) : Int) = -((52 - L : Nat) : Int) := by omega
    rw [e1, e2]
    rfl

theorem shl_mul (m s : Nat) : m <<< s = m * 2 ^ s := Nat.shiftLeft_eq m s
theorem sum_val {d e : Datum} {a b : Nat} (hd : Val d a) (he : Val e b) (h : a + b < 2 ^ 53) : (d.sum e).map double.write = some (fl (a + b)) := by
  obtain ⟨s, rfl⟩ := hd
  obtain ⟨t, rfl⟩ := he
  show some (double.write _) = _
  congr 1
  have hmin : min (-(s : Int)) (-(t : Int)) = -((max s t : Nat) : Int) := by omega
  simp only [hmin]
  have i1 : (-(s : Int) - -((max s t : Nat) : Int)).toNat = max s t - s := by omega
  have i2 : (-(t : Int) - -((max s t : Nat) : Int)).toNat = max s t - t := by omega
  rw [i1, i2]
  unfold signed
  simp only [Bool.false_eq_true, if_false, shl_mul]
  rw [Nat.mul_assoc, Nat.mul_assoc, ← Nat.pow_add, ← Nat.pow_add, show s + (max s t - s) = max s t by omega, show t + (max s t - t) = max s t by omega]
  have ht : ((a * 2 ^ max s t : Nat) : Int) + ((b * 2 ^ max s t : Nat) : Int) = (((a + b) * 2 ^ max s t : Nat) : Int) := by rw [Nat.add_mul]; exact (Int.natCast_add _ _).symm
  rw [ht]
  have hneg : (if (((a + b) * 2 ^ max s t : Nat) : Int) = 0 then (false && false) else decide ((((a + b) * 2 ^ max s t : Nat) : Int) < 0)) = false := by
    split
    · rfl
    · simp only [decide_eq_false_iff_not]; omega
  rw [hneg, Int.natAbs_natCast]
  exact near_val (a + b) _ h
theorem order_val {d e : Datum} {a b : Nat} (hd : Val d a) (he : Val e b) : d.order e = some (compare a b) := by
  obtain ⟨s, rfl⟩ := hd
  obtain ⟨t, rfl⟩ := he
  show some _ = _
  congr 1
  have hmin : min (-(s : Int)) (-(t : Int)) = -((max s t : Nat) : Int) := by omega
  simp only [hmin]
  have i1 : (-(s : Int) - -((max s t : Nat) : Int)).toNat = max s t - s := by omega
  have i2 : (-(t : Int) - -((max s t : Nat) : Int)).toNat = max s t - t := by omega
  rw [i1, i2]
  unfold signed
  simp only [Bool.false_eq_true, if_false, shl_mul]
  rw [Nat.mul_assoc, Nat.mul_assoc, ← Nat.pow_add, ← Nat.pow_add, show s + (max s t - s) = max s t by omega, show t + (max s t - t) = max s t by omega]
  have hp : 0 < 2 ^ max s t := Nat.pow_pos (by omega)
  generalize 2 ^ max s t = M at *
  rcases Nat.lt_trichotomy a b with h | h | h
  · have h1 : a * M < b * M := Nat.mul_lt_mul_of_pos_right h hp
    rw [Nat.compare_eq_lt.2 h]
    exact compareOfLessAndEq_eq_lt.2 (by omega)
  · subst h
    rw [Nat.compare_eq_eq.2 rfl]
    unfold compare
    simp [instOrdInt, compareOfLessAndEq]
  · have h1 : b * M < a * M := Nat.mul_lt_mul_of_pos_right h hp
    rw [Nat.compare_eq_gt.2 h]
    simp only [compare, compareOfLessAndEq]
    rw [if_neg (by omega), if_neg (by omega)]
theorem int_val {d : Datum} {a : Nat} (hd : Val d a) : d.toInt .zero = some (a : Int) := by
  obtain ⟨s, rfl⟩ := hd
  unfold Datum.toInt Datum.integral
  simp only
  congr 1
  unfold signed
  simp only [Bool.false_eq_true, if_false, Nat.shiftLeft_zero]
  congr 1
  rw [show (-(s : Int)).toNat = 0 by omega, show (- -(s : Int)).toNat = s by omega, Nat.shiftLeft_zero]
  unfold Toward.cut
  simp only [Bool.toNat_false, Nat.add_zero, shl_mul, Nat.one_mul]
  by_cases h0 : a = 0
  · subst h0; simp
  · rw [log2_shift a s h0, show min s (a.log2 + s + 2) = s by omega]
    exact Nat.mul_div_cancel _ (Nat.pow_pos (by omega))

/-! ### What the walks ask -/
theorem fl_add (a b : Nat) (h : a + b < 2 ^ 53) : floatBits .add .f64 (fl a) (fl b) = some (fl (a + b)) :=
  sum_val (read_val a (by omega)) (read_val b (by omega)) h
theorem fl_order (a b : Nat) (ha : a < 2 ^ 53) (hb : b < 2 ^ 53) : FloatKind.f64.format.order (fl a) (fl b) = some (compare a b) :=
  order_val (read_val a ha) (read_val b hb)
theorem fl_int (a : Nat) (ha : a < 2 ^ 53) : floatToIntVal .f64 (fl a) .i64 = some (a : Int) := by
  unfold floatToIntVal
  rw [show (FloatKind.f64.decode (fl a)).toInt .zero = some (a : Int) from int_val (read_val a ha)]
  simp only
  rw [if_pos]
  simp [IntKind.min, IntKind.max, IntKind.signed, IntKind.bits]
  omega
theorem fl_0 : fl 0 = 0 := by decide +kernel
theorem fl_1 : fl 1 = 4607182418800017408 := by decide +kernel

end Go.Proofs.Ytibpekgmgidebaa.Fl
