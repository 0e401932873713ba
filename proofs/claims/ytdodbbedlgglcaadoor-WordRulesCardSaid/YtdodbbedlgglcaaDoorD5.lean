/- The walks of word.Of, Takes, Within and of the reference's functions but sets, Does and Text: each returns what its plain function says. -/
import Derived.Test.YtdodbbedlgglcaaDoorD4
import Derived.Test.YtdodbbedlgglcaaDoorWPlain2
set_option linter.unusedSimpArgs false
set_option linter.unusedVariables false
namespace Go.Proofs.YtdodbbedlgglcaaDoor.Wd
open Go.RowKit
open WPlain

def ofTup (r : Nat × Bool) : Value := .tuple #[.int .u16 (r.1 : Nat), .bool r.2]
theorem ret_of {a : Int} {b : Bool} {r : Nat × Bool} (h1 : a = r.1) (h2 : b = r.2) : Ending.returned (.tuple #[.int .u16 a, .bool b]) = .returned (ofTup r) := by subst h1 h2; rfl

set_option maxHeartbeats 400000 in
theorem rint_any (n : Nat) (w : World) (h : n < 65536) : Calls Tryd.prog 19 #[.int .u16 n] w fun e w' => e = .returned (.int .i64 (sg n)) ∧ w = w' := by
  by_cases hn : 32768 ≤ n
  · have h1 : (32768 : Int) ≤ (n : Int) := by omega
    go_enter Tryd.func19, Tryd.ntmps19
    go_wp2
    go_ret
    exact ⟨ret_int (by unfold sg; rw [if_neg (by omega)]), rfl⟩
  · have h1 : ¬ (32768 : Int) ≤ (n : Int) := by omega
    go_enter Tryd.func19, Tryd.ntmps19
    go_wp2
    go_ret
    exact ⟨ret_int (by unfold sg; rw [if_pos (by omega)]), rfl⟩

set_option maxHeartbeats 800000 in
theorem of_any (n : Int) (w : World) : Calls Tryd.prog 17 #[.int .i64 n] w fun e w' => e = .returned (ofTup (ofP n)) ∧ w = w' := by
  by_cases h1 : n < -32768
  · go_enter Tryd.func17, Tryd.ntmps17
    go_wp2
    go_ret2
    exact ⟨ret_of (by simp [ofP, h1]) (by simp [ofP, h1]), rfl⟩
  · by_cases h2 : 65535 < n
    · go_enter Tryd.func17, Tryd.ntmps17
      go_wp2
      go_ret2
      exact ⟨ret_of (by simp [ofP, h2]) (by simp [ofP, h2]), rfl⟩
    · have h1' : -32768 ≤ n := by omega
      have h2' : n ≤ 65535 := by omega
      have HO := Lib.hid (show ofP n = ((n % 65536).toNat, true) from by unfold ofP; rw [if_neg (by omega)])
      by_cases h3 : n < 0
      · go_enter Tryd.func17, Tryd.ntmps17
        go_wp2
        go_ret2
        exact ⟨ret_of (by rw [HO.out]; simp only [IntKind.wrap_u16]; omega) (by rw [HO.out]), rfl⟩
      · go_enter Tryd.func17, Tryd.ntmps17
        go_wp2
        go_ret2
        exact ⟨ret_of (by rw [HO.out]; simp only [IntKind.wrap_u16]; omega) (by rw [HO.out]), rfl⟩

set_option maxHeartbeats 800000 in
theorem rof_any (n : Int) (w : World) : Calls Tryd.prog 18 #[.int .i64 n] w fun e w' => e = .returned (ofTup (ofP n)) ∧ w = w' := by
  by_cases h1 : n < -32768
  · go_enter Tryd.func18, Tryd.ntmps18
    go_wp2
    go_ret2
    exact ⟨ret_of (by simp [ofP, h1]) (by simp [ofP, h1]), rfl⟩
  · by_cases h2 : 65535 < n
    · go_enter Tryd.func18, Tryd.ntmps18
      go_wp2
      go_ret2
      exact ⟨ret_of (by simp [ofP, h2]) (by simp [ofP, h2]), rfl⟩
    · have h1' : -32768 ≤ n := by omega
      have h2' : n ≤ 65535 := by omega
      have HO := Lib.hid (show ofP n = ((n % 65536).toNat, true) from by unfold ofP; rw [if_neg (by omega)])
      by_cases h3 : n < 0
      · go_enter Tryd.func18, Tryd.ntmps18
        go_wp2
        go_ret2
        exact ⟨ret_of (by rw [HO.out]; simp only [IntKind.wrap_u16]; omega) (by rw [HO.out]), rfl⟩
      · go_enter Tryd.func18, Tryd.ntmps18
        go_wp2
        go_ret2
        exact ⟨ret_of (by rw [HO.out]; simp only [IntKind.wrap_u16]; omega) (by rw [HO.out]), rfl⟩

set_option maxHeartbeats 1600000 in
theorem takes_any (op : Nat) (w : World) (h : op < 256) : Calls Tryd.prog 11 #[.int .u8 op] w fun e w' => e = .returned (.int .i64 (takesP op)) ∧ w = w' := by
  by_cases h1 : op < 1
  · have h1' : (op : Int) < 1 := by omega
    go_enter Tryd.func11, Tryd.ntmps11
    go_wp2
    go_ret
    exact ⟨ret_int (by unfold takesP; rw [if_pos (by omega)]), rfl⟩
  · have h1' : ¬ (op : Int) < 1 := by omega
    by_cases h2 : 31 < op
    · have h2' : (31 : Int) < (op : Int) := by omega
      go_enter Tryd.func11, Tryd.ntmps11
      go_wp2
      go_ret
      exact ⟨ret_int (by unfold takesP; rw [if_pos (by omega)]), rfl⟩
    · have h2' : ¬ (31 : Int) < (op : Int) := by omega
      rcases takes_cases op with ⟨h6, e⟩ | ⟨h6, h7, e⟩ | ⟨h6, h7, h23, e⟩ | ⟨h6, h7, h23, h30, e⟩ | ⟨h6, h7, h23, h30, e⟩
      all_goals
        have E := Lib.hid (e (by omega) (by omega))
        clear e
        go_enter Tryd.func11, Tryd.ntmps11
        go_wp2
        go_ret
        exact ⟨ret_int (by rw [E.out]), rfl⟩

set_option maxHeartbeats 1600000 in
theorem rtakes_any (op : Nat) (w : World) (h : op < 256) : Calls Tryd.prog 12 #[.int .u8 op] w fun e w' => e = .returned (.int .i64 (takesP op)) ∧ w = w' := by
  by_cases h1 : op < 1
  · have h1' : (op : Int) < 1 := by omega
    go_enter Tryd.func12, Tryd.ntmps12
    go_wp2
    go_ret
    exact ⟨ret_int (by unfold takesP; rw [if_pos (by omega)]), rfl⟩
  · have h1' : ¬ (op : Int) < 1 := by omega
    by_cases h2 : 31 < op
    · have h2' : (31 : Int) < (op : Int) := by omega
      go_enter Tryd.func12, Tryd.ntmps12
      go_wp2
      go_ret
      exact ⟨ret_int (by unfold takesP; rw [if_pos (by omega)]), rfl⟩
    · have h2' : ¬ (31 : Int) < (op : Int) := by omega
      rcases takes_cases op with ⟨h6, e⟩ | ⟨h6, h7, e⟩ | ⟨h6, h7, h23, e⟩ | ⟨h6, h7, h23, h30, e⟩ | ⟨h6, h7, h23, h30, e⟩
      all_goals
        have E := Lib.hid (e (by omega) (by omega))
        clear e
        go_enter Tryd.func12, Tryd.ntmps12
        go_wp2
        go_ret
        exact ⟨ret_int (by rw [E.out]), rfl⟩

set_option maxHeartbeats 1600000 in
theorem within_any (s : Bool) (a lo hi : Nat) (w : World) (ha : a < 65536) (hl : lo < 65536) (hh : hi < 65536) : Calls Tryd.prog 20 #[.bool s, .int .u16 a, .int .u16 lo, .int .u16 hi] w fun e w' => e = .returned (.bool (withinP s a lo hi)) ∧ w = w' := by
  cases s
  · by_cases h1 : lo ≤ a
    · have h1' : (lo : Int) ≤ (a : Int) := by omega
      by_cases h2 : a ≤ hi
      all_goals
        have h2' : ((a : Int) ≤ (hi : Int)) = (a ≤ hi) := by simp
        go_enter Tryd.func20, Tryd.ntmps20
        go_wp2
        go_ret
        exact ⟨ret_bool (by simp [withinP, h1, h2]), rfl⟩
    · have h1' : ¬ (lo : Int) ≤ (a : Int) := by omega
      go_enter Tryd.func20, Tryd.ntmps20
      go_wp2
      go_ret
      exact ⟨ret_bool (by simp [withinP, h1]), rfl⟩
  · have s1 := Lib.hid (int_any a w ha)
    have s2 := Lib.hid (int_any lo w hl)
    have s3 := Lib.hid (int_any hi w hh)
    have HW : Hid (withinP true a lo hi = (decide (sg lo ≤ sg a) && decide (sg a ≤ sg hi))) := rfl
    generalize withinP true a lo hi = R at *
    generalize sg a = x at *
    generalize sg lo = y at *
    generalize sg hi = z at *
    by_cases h1 : y ≤ x
    · have HR := Lib.hid (show R = decide (x ≤ z) from by rw [HW.out]; simp [h1])
      by_cases h2 : x ≤ z
      all_goals
        go_enter Tryd.func20, Tryd.ntmps20
        go_wp2_with fail
        (refine s2.out.mono ?_)
        rintro e w' ⟨rfl, rfl⟩
        go_wp2_with fail
        (refine s1.out.mono ?_)
        rintro e w' ⟨rfl, rfl⟩
        go_wp2_with fail
        (refine s1.out.mono ?_)
        rintro e w' ⟨rfl, rfl⟩
        go_wp2_with fail
        (refine s3.out.mono ?_)
        rintro e w' ⟨rfl, rfl⟩
        go_wp2
        go_ret
        exact ⟨ret_bool (by rw [HR.out]; first | done | rfl | (simp; omega)), rfl⟩
    · have HR := Lib.hid (show R = false from by rw [HW.out]; simp [h1])
      go_enter Tryd.func20, Tryd.ntmps20
      go_wp2_with fail
      (refine s2.out.mono ?_)
      rintro e w' ⟨rfl, rfl⟩
      go_wp2_with fail
      (refine s1.out.mono ?_)
      rintro e w' ⟨rfl, rfl⟩
      go_wp2
      go_ret
      exact ⟨ret_bool (by rw [HR.out]), rfl⟩

set_option maxHeartbeats 1600000 in
theorem rwithin_any (s : Bool) (a lo hi : Nat) (w : World) (ha : a < 65536) (hl : lo < 65536) (hh : hi < 65536) : Calls Tryd.prog 21 #[.bool s, .int .u16 a, .int .u16 lo, .int .u16 hi] w fun e w' => e = .returned (.bool (withinP s a lo hi)) ∧ w = w' := by
  cases s
  · by_cases h1 : lo ≤ a
    · have h1' : (lo : Int) ≤ (a : Int) := by omega
      by_cases h2 : a ≤ hi
      all_goals
        have h2' : ((a : Int) ≤ (hi : Int)) = (a ≤ hi) := by simp
        go_enter Tryd.func21, Tryd.ntmps21
        go_wp2
        go_ret
        exact ⟨ret_bool (by simp [withinP, h1, h2]), rfl⟩
    · have h1' : ¬ (lo : Int) ≤ (a : Int) := by omega
      go_enter Tryd.func21, Tryd.ntmps21
      go_wp2
      go_ret
      exact ⟨ret_bool (by simp [withinP, h1]), rfl⟩
  · have s1 := Lib.hid (rint_any a w ha)
    have s2 := Lib.hid (rint_any lo w hl)
    have s3 := Lib.hid (rint_any hi w hh)
    have HW : Hid (withinP true a lo hi = (decide (sg lo ≤ sg a) && decide (sg a ≤ sg hi))) := rfl
    generalize withinP true a lo hi = R at *
    generalize sg a = x at *
    generalize sg lo = y at *
    generalize sg hi = z at *
    by_cases h1 : y ≤ x
    · have HR := Lib.hid (show R = decide (x ≤ z) from by rw [HW.out]; simp [h1])
      by_cases h2 : x ≤ z
      all_goals
        go_enter Tryd.func21, Tryd.ntmps21
        go_wp2_with fail
        (refine s1.out.mono ?_)
        rintro e w' ⟨rfl, rfl⟩
        go_wp2_with fail
        (refine s2.out.mono ?_)
        rintro e w' ⟨rfl, rfl⟩
        go_wp2_with fail
        (refine s1.out.mono ?_)
        rintro e w' ⟨rfl, rfl⟩
        go_wp2_with fail
        (refine s3.out.mono ?_)
        rintro e w' ⟨rfl, rfl⟩
        go_wp2
        go_ret
        exact ⟨ret_bool (by rw [HR.out]; first | done | rfl | (simp; omega)), rfl⟩
    · have HR := Lib.hid (show R = false from by rw [HW.out]; simp [h1])
      go_enter Tryd.func21, Tryd.ntmps21
      go_wp2_with fail
      (refine s1.out.mono ?_)
      rintro e w' ⟨rfl, rfl⟩
      go_wp2_with fail
      (refine s2.out.mono ?_)
      rintro e w' ⟨rfl, rfl⟩
      go_wp2
      go_ret
      exact ⟨ret_bool (by rw [HR.out]), rfl⟩

set_option maxHeartbeats 800000 in
theorem rfits_any (n low high : Int) (w : World) (hl : -32768 ≤ low) (hh : high ≤ 65535) : Calls Tryd.prog 25 #[.int .i64 n, .int .i64 low, .int .i64 high] w fun e w' => e = .returned (tup (fitsP n low high)) ∧ w = w' := by
  by_cases h1 : n < low
  · go_enter Tryd.func25, Tryd.ntmps25
    go_wp2
    go_ret2
    exact ⟨ret_tup (by simp [fitsP, h1]) (by simp [fitsP, h1]), rfl⟩
  · by_cases h2 : high < n
    · go_enter Tryd.func25, Tryd.ntmps25
      go_wp2
      go_ret2
      exact ⟨ret_tup (by simp [fitsP, h2]) (by simp [fitsP, h2]), rfl⟩
    · have hc := rof_any n w
      have h3 : ¬ n < -32768 := by omega
      have h4 : ¬ 65535 < n := by omega
      rw [show ofP n = ((n % 65536).toNat, true) from by simp [ofP, h3, h4]] at hc
      have HF := Lib.hid (show fitsP n low high = ((n % 65536).toNat, 0) from by unfold fitsP; rw [if_neg (by omega)])
      unfold ofTup at hc
      have HC := Lib.hid hc
      clear hc
      generalize (n % 65536).toNat = r at *
      go_enter Tryd.func25, Tryd.ntmps25
      go_wp2_with fail
      ((with_reducible refine HC.out.mono ?_); rintro e w' ⟨rfl, rfl⟩)
      go_wp2
      go_ret2
      exact ⟨by rw [HF.out]; rfl, rfl⟩

set_option maxHeartbeats 400000 in
theorem so_any (so : Bool) (w : World) : Calls Tryd.prog 26 #[.bool so] w fun e w' => e = .returned (tup (isP so)) ∧ w = w' := by
  cases so
  all_goals
    go_enter Tryd.func26, Tryd.ntmps26
    go_wp2
    go_ret2
    exact ⟨rfl, rfl⟩

set_option maxHeartbeats 400000 in
theorem rasks0 (a b : Int) (w : World) : Calls Tryd.prog 27 #[.int .u8 0, .int .i64 a, .int .i64 b] w fun e w' => e = .returned (tup (isP (decide (a < b)))) ∧ w = w' := by
  have hz := so_any (decide (a < b)) w
  unfold tup at hz
  have HZ := Lib.hid hz
  clear hz
  generalize hd : decide (a < b) = d at *
  go_enter Tryd.func27, Tryd.ntmps27
  go_wp2_with fail
  refine HZ.out.mono ?_
  rintro e w' ⟨rfl, rfl⟩
  go_wp2
  go_ret2
  exact ⟨rfl, rfl⟩

set_option maxHeartbeats 400000 in
theorem rasks1 (a b : Int) (w : World) : Calls Tryd.prog 27 #[.int .u8 1, .int .i64 a, .int .i64 b] w fun e w' => e = .returned (tup (isP (decide (a ≤ b)))) ∧ w = w' := by
  have hz := so_any (decide (a ≤ b)) w
  unfold tup at hz
  have HZ := Lib.hid hz
  clear hz
  generalize hd : decide (a ≤ b) = d at *
  go_enter Tryd.func27, Tryd.ntmps27
  go_wp2_with fail
  refine HZ.out.mono ?_
  rintro e w' ⟨rfl, rfl⟩
  go_wp2
  go_ret2
  exact ⟨rfl, rfl⟩

set_option maxHeartbeats 400000 in
theorem rasks2 (a b : Int) (w : World) : Calls Tryd.prog 27 #[.int .u8 2, .int .i64 a, .int .i64 b] w fun e w' => e = .returned (tup (isP (decide (b < a)))) ∧ w = w' := by
  have hz := so_any (decide (b < a)) w
  unfold tup at hz
  have HZ := Lib.hid hz
  clear hz
  generalize hd : decide (b < a) = d at *
  go_enter Tryd.func27, Tryd.ntmps27
  go_wp2_with fail
  refine HZ.out.mono ?_
  rintro e w' ⟨rfl, rfl⟩
  go_wp2
  go_ret2
  exact ⟨rfl, rfl⟩

set_option maxHeartbeats 400000 in
theorem rasks3 (a b : Int) (w : World) : Calls Tryd.prog 27 #[.int .u8 3, .int .i64 a, .int .i64 b] w fun e w' => e = .returned (tup (isP (decide (b ≤ a)))) ∧ w = w' := by
  have hz := so_any (decide (b ≤ a)) w
  unfold tup at hz
  have HZ := Lib.hid hz
  clear hz
  generalize hd : decide (b ≤ a) = d at *
  go_enter Tryd.func27, Tryd.ntmps27
  go_wp2_with fail
  refine HZ.out.mono ?_
  rintro e w' ⟨rfl, rfl⟩
  go_wp2
  go_ret2
  exact ⟨rfl, rfl⟩

set_option maxHeartbeats 1600000 in
theorem quopp (a b : Int) (w : World) (ha : a.natAbs ≤ 65536) (hb : b.natAbs ≤ 65536) (sa : 0 ≤ a) (sb : 0 < b) : Calls Tryd.prog 73 #[.int .i64 a, .int .i64 b] w fun e w' => e = .returned (.tuple #[.int .i64 (a.tdiv b), .int .i64 (a.tmod b)]) ∧ w = w' := by
  obtain ⟨f1, f2, f3⟩ := quo_facts a b ha hb _ rfl
  have hl := quo_pp a b (by omega) (by omega)
  have HT := Lib.hid f3
  have hq : a / b = a.tdiv b := hl
  generalize a.tdiv b = Q at *
  have b1 : -65536 ≤ a := by omega
  have b2 : a ≤ 65536 := by omega
  have b3 : -65536 ≤ b := by omega
  have b4 : b ≤ 65536 := by omega
  have b5 : -65536 ≤ Q := by omega
  have b6 : Q ≤ 65536 := by omega
  have b7 : -4294967296 ≤ b * Q := by omega
  have b8 : b * Q ≤ 4294967296 := by omega
  have e1 : IntKind.i64.wrap (Q) = Q := IntWalk.i64_in _ (by omega)
  have e2 : IntKind.i64.wrap (-Q) = -Q := IntWalk.i64_in _ (by omega)
  have e3 : IntKind.i64.wrap (b * Q) = b * Q := IntWalk.i64_in _ (by omega)
  have e4 : IntKind.i64.wrap (a - b * Q) = a - b * Q := IntWalk.i64_in _ (by omega)
  have m1 : ¬ a < -a := by omega
  have m1' : ¬ a < 0 := by omega
  have m2 : ¬ b < -b := by omega
  have m2' : ¬ b < 0 := by omega
  clear ha hb f1 f2 f3 hl
  go_enter Tryd.func73, Tryd.ntmps73
  go_wp2
  all_goals
    go_ret2
    exact ⟨by rw [← HT.out]; simp only [e1, e2, e3, e4, Int.neg_neg]; try rfl, rfl⟩

set_option maxHeartbeats 1600000 in
theorem quopn (a b : Int) (w : World) (ha : a.natAbs ≤ 65536) (hb : b.natAbs ≤ 65536) (sa : 0 ≤ a) (sb : b < 0) : Calls Tryd.prog 73 #[.int .i64 a, .int .i64 b] w fun e w' => e = .returned (.tuple #[.int .i64 (a.tdiv b), .int .i64 (a.tmod b)]) ∧ w = w' := by
  obtain ⟨f1, f2, f3⟩ := quo_facts a b ha hb _ rfl
  have hl := quo_pn a b (by omega) (by omega)
  have HT := Lib.hid f3
  have b1 : -65536 ≤ a := by omega
  have b2 : a ≤ 65536 := by omega
  have b3 : -65536 ≤ b := by omega
  have b4 : b ≤ 65536 := by omega
  have b5 : -65536 ≤ a.tdiv b := by omega
  have b6 : a.tdiv b ≤ 65536 := by omega
  have b7 : -4294967296 ≤ b * a.tdiv b := by omega
  have b8 : b * a.tdiv b ≤ 4294967296 := by omega
  have e1 : IntKind.i64.wrap (a.tdiv b) = a.tdiv b := IntWalk.i64_in _ (by omega)
  have e2 : IntKind.i64.wrap (-a.tdiv b) = -a.tdiv b := IntWalk.i64_in _ (by omega)
  have e3 : IntKind.i64.wrap (b * a.tdiv b) = b * a.tdiv b := IntWalk.i64_in _ (by omega)
  have e4 : IntKind.i64.wrap (a - b * a.tdiv b) = a - b * a.tdiv b := IntWalk.i64_in _ (by omega)
  have m1 : ¬ a < -a := by omega
  have m1' : ¬ a < 0 := by omega
  have m2 : b < -b := by omega
  clear ha hb f1 f2 f3 hl
  go_enter Tryd.func73, Tryd.ntmps73
  go_wp2
  all_goals
    go_ret2
    exact ⟨by rw [← HT.out]; simp only [e1, e2, e3, e4, Int.neg_neg]; try rfl, rfl⟩

set_option maxHeartbeats 1600000 in
theorem quonp (a b : Int) (w : World) (ha : a.natAbs ≤ 65536) (hb : b.natAbs ≤ 65536) (sa : a < 0) (sb : 0 < b) : Calls Tryd.prog 73 #[.int .i64 a, .int .i64 b] w fun e w' => e = .returned (.tuple #[.int .i64 (a.tdiv b), .int .i64 (a.tmod b)]) ∧ w = w' := by
  obtain ⟨f1, f2, f3⟩ := quo_facts a b ha hb _ rfl
  have hl := quo_np a b (by omega) (by omega)
  have HT := Lib.hid f3
  have b1 : -65536 ≤ a := by omega
  have b2 : a ≤ 65536 := by omega
  have b3 : -65536 ≤ b := by omega
  have b4 : b ≤ 65536 := by omega
  have b5 : -65536 ≤ a.tdiv b := by omega
  have b6 : a.tdiv b ≤ 65536 := by omega
  have b7 : -4294967296 ≤ b * a.tdiv b := by omega
  have b8 : b * a.tdiv b ≤ 4294967296 := by omega
  have e1 : IntKind.i64.wrap (a.tdiv b) = a.tdiv b := IntWalk.i64_in _ (by omega)
  have e2 : IntKind.i64.wrap (-a.tdiv b) = -a.tdiv b := IntWalk.i64_in _ (by omega)
  have e3 : IntKind.i64.wrap (b * a.tdiv b) = b * a.tdiv b := IntWalk.i64_in _ (by omega)
  have e4 : IntKind.i64.wrap (a - b * a.tdiv b) = a - b * a.tdiv b := IntWalk.i64_in _ (by omega)
  have m1 : a < -a := by omega
  have m2 : ¬ b < -b := by omega
  have m2' : ¬ b < 0 := by omega
  clear ha hb f1 f2 f3 hl
  go_enter Tryd.func73, Tryd.ntmps73
  go_wp2
  all_goals
    go_ret2
    exact ⟨by rw [← HT.out]; simp only [e1, e2, e3, e4, Int.neg_neg]; try rfl, rfl⟩

set_option maxHeartbeats 1600000 in
theorem quonn (a b : Int) (w : World) (ha : a.natAbs ≤ 65536) (hb : b.natAbs ≤ 65536) (sa : a < 0) (sb : b < 0) : Calls Tryd.prog 73 #[.int .i64 a, .int .i64 b] w fun e w' => e = .returned (.tuple #[.int .i64 (a.tdiv b), .int .i64 (a.tmod b)]) ∧ w = w' := by
  obtain ⟨f1, f2, f3⟩ := quo_facts a b ha hb _ rfl
  have hl := quo_nn a b (by omega) (by omega)
  have HT := Lib.hid f3
  have b1 : -65536 ≤ a := by omega
  have b2 : a ≤ 65536 := by omega
  have b3 : -65536 ≤ b := by omega
  have b4 : b ≤ 65536 := by omega
  have b5 : -65536 ≤ a.tdiv b := by omega
  have b6 : a.tdiv b ≤ 65536 := by omega
  have b7 : -4294967296 ≤ b * a.tdiv b := by omega
  have b8 : b * a.tdiv b ≤ 4294967296 := by omega
  have e1 : IntKind.i64.wrap (a.tdiv b) = a.tdiv b := IntWalk.i64_in _ (by omega)
  have e2 : IntKind.i64.wrap (-a.tdiv b) = -a.tdiv b := IntWalk.i64_in _ (by omega)
  have e3 : IntKind.i64.wrap (b * a.tdiv b) = b * a.tdiv b := IntWalk.i64_in _ (by omega)
  have e4 : IntKind.i64.wrap (a - b * a.tdiv b) = a - b * a.tdiv b := IntWalk.i64_in _ (by omega)
  have m1 : a < -a := by omega
  have m2 : b < -b := by omega
  clear ha hb f1 f2 f3 hl
  go_enter Tryd.func73, Tryd.ntmps73
  go_wp2
  all_goals
    go_ret2
    exact ⟨by rw [← HT.out]; simp only [e1, e2, e3, e4, Int.neg_neg]; try rfl, rfl⟩

end Go.Proofs.YtdodbbedlgglcaaDoor.Wd
