/- The walks of the small functions of package word, and of the functions that word.does puts into its map: what each returns. -/
import Derived.Test.YtdodbbedlgglcaaDoorD1
import Derived.Test.YtdodbbedlgglcaaDoorWPlain
import Derived.OpenShut
set_option linter.unusedSimpArgs false
set_option linter.unusedVariables false
namespace Go.Proofs.YtdodbbedlgglcaaDoor.Wd
open Go.RowKit
open WPlain

def tup (r : Nat × Nat) : Value := .tuple #[.int .u16 (r.1 : Nat), .int .u8 (r.2 : Nat)]
theorem ret_tup {a b : Int} {r : Nat × Nat} (h1 : a = r.1) (h2 : b = r.2) : Ending.returned (.tuple #[.int .u16 a, .int .u8 b]) = .returned (tup r) := by subst h1 h2; rfl
theorem asks_index0 (x0 x1 x2 x3 : Bool) (W : World) : (Instr.index 55 (.agg #[.bool x0, .bool x1, .bool x2, .bool x3]) (.int .u8 0)).run Tryd.prog W = .ok (.bool x0) W := by kernel_rfl
theorem asks_index1 (x0 x1 x2 x3 : Bool) (W : World) : (Instr.index 55 (.agg #[.bool x0, .bool x1, .bool x2, .bool x3]) (.int .u8 1)).run Tryd.prog W = .ok (.bool x1) W := by kernel_rfl
theorem asks_index2 (x0 x1 x2 x3 : Bool) (W : World) : (Instr.index 55 (.agg #[.bool x0, .bool x1, .bool x2, .bool x3]) (.int .u8 2)).run Tryd.prog W = .ok (.bool x2) W := by kernel_rfl
theorem asks_index3 (x0 x1 x2 x3 : Bool) (W : World) : (Instr.index 55 (.agg #[.bool x0, .bool x1, .bool x2, .bool x3]) (.int .u8 3)).run Tryd.prog W = .ok (.bool x3) W := by kernel_rfl
theorem tup_eq (x t : Nat) : tup (x, t) = .tuple #[.int .u16 (x : Nat), .int .u8 (t : Nat)] := rfl

set_option maxHeartbeats 400000 in
theorem fits_any (n low high : Int) (w : World) : Calls Tryd.prog 75 #[.int .i64 n, .int .i64 low, .int .i64 high] w fun e w' => e = .returned (tup (fitsP n low high)) ∧ w = w' := by
  by_cases h1 : n < low
  · go_enter Tryd.func75, Tryd.ntmps75
    go_wp2
    go_ret2
    exact ⟨ret_tup (by simp [fitsP, h1]) (by simp [fitsP, h1]), rfl⟩
  · by_cases h2 : high < n
    · go_enter Tryd.func75, Tryd.ntmps75
      go_wp2
      go_ret2
      exact ⟨ret_tup (by simp [fitsP, h2]) (by simp [fitsP, h2]), rfl⟩
    · go_enter Tryd.func75, Tryd.ntmps75
      go_wp2
      go_ret2
      have h1' : ¬ n < low := by omega
      have h2' : ¬ high < n := by omega
      exact ⟨ret_tup (by simp [fitsP, h1', h2', IntKind.wrap_u16]; omega) (by simp [fitsP, h1', h2']), rfl⟩

set_option maxHeartbeats 400000 in
theorem signed_any (n : Int) (w : World) : Calls Tryd.prog 31 #[.int .i64 n] w fun e w' => e = .returned (tup (signedP n)) ∧ w = w' := by
  have hf := fits_any n (-32768) 32767 w
  unfold tup at hf
  go_enter Tryd.func31, Tryd.ntmps31
  go_wp2_with fail
  ((with_reducible refine hf.mono ?_); rintro e w' ⟨rfl, rfl⟩)
  go_wp2
  go_ret2
  exact ⟨rfl, rfl⟩

set_option maxHeartbeats 400000 in
theorem bare_any (n : Int) (w : World) : Calls Tryd.prog 42 #[.int .i64 n] w fun e w' => e = .returned (tup (bareP n)) ∧ w = w' := by
  have hf := fits_any n 0 65535 w
  unfold tup at hf
  go_enter Tryd.func42, Tryd.ntmps42
  go_wp2_with fail
  ((with_reducible refine hf.mono ?_); rintro e w' ⟨rfl, rfl⟩)
  go_wp2
  go_ret2
  exact ⟨rfl, rfl⟩

set_option maxHeartbeats 400000 in
theorem is_any (so : Bool) (w : World) : Calls Tryd.prog 50 #[.bool so] w fun e w' => e = .returned (tup (isP so)) ∧ w = w' := by
  cases so
  all_goals
    go_enter Tryd.func50, Tryd.ntmps50
    go_wp2
    go_ret2
    exact ⟨rfl, rfl⟩

set_option maxHeartbeats 400000 in
theorem plain_any (n : Int) (w : World) : Calls Tryd.prog 64 #[.int .u16 n] w fun e w' => e = .returned (.tuple #[.int .u16 n, .int .u8 0]) ∧ w = w' := by
  go_enter Tryd.func64, Tryd.ntmps64
  go_wp2
  go_ret2
  exact ⟨rfl, rfl⟩

set_option maxHeartbeats 400000 in
theorem int_any (n : Nat) (w : World) (h : n < 65536) : Calls Tryd.prog 15 #[.int .u16 n] w fun e w' => e = .returned (.int .i64 (sg n)) ∧ w = w' := by
  go_enter Tryd.func15, Tryd.ntmps15
  go_wp2
  go_ret
  exact ⟨ret_int (by rw [sg_wrap n h]; have := sg_bd n h; unfold wrap64; omega), rfl⟩

set_option maxHeartbeats 400000 in
theorem row_any (a b : Nat) (w : World) (ha : a < 65536) (hb : b < 65536) : Calls Tryd.prog 71 #[.int .u16 a, .int .u16 b] w fun e w' => e = .returned (tup (rowP a b)) ∧ w = w' := by
  by_cases h1 : 15 < a
  · have h1' : (15 : Int) < (a : Int) := by omega
    go_enter Tryd.func71, Tryd.ntmps71
    go_wp2
    go_ret2
    exact ⟨ret_tup (by simp [rowP, h1]) (by simp [rowP, h1]), rfl⟩
  · have h1' : ¬ (15 : Int) < (a : Int) := by omega
    by_cases h2 : 15 < b
    · have h2' : (15 : Int) < (b : Int) := by omega
      go_enter Tryd.func71, Tryd.ntmps71
      go_wp2
      go_ret2
      exact ⟨ret_tup (by simp [rowP, h2]) (by simp [rowP, h2]), rfl⟩
    · have h2' : ¬ (15 : Int) < (b : Int) := by omega
      go_enter Tryd.func71, Tryd.ntmps71
      go_wp2
      go_loop [6, 7] (fun s i => ∃ k S : Nat, a ≤ k ∧ k ≤ 16 ∧ (k ≤ b + 1 ∨ k = a) ∧ i = .int .u16 k ∧ s = .int .u16 S ∧ S = rowTo a b k) (fun _ i => 16 - (intOf i).toNat)
      case atStart => exact ⟨a, 0, Nat.le_refl _, by omega, .inr rfl, rfl, rfl, (rowTo_start a b).symm⟩
      case round =>
        obtain ⟨k, S, hk0, hk, hk1, rfl, rfl, hS⟩ := hrel
        have hSl : S < 65536 := by rw [hS]; rcases rowTo_lt a b k with h | h <;> omega
        by_cases hlt : k ≤ b
        · have hi : (k : Int) ≤ (b : Int) := by omega
          have hN := Lib.hid (rowTo_succ a b k hk0 hlt)
          rw [← hS] at hN
          have hP : 2 ^ k < 65536 := two_pow_lt (by omega)
          have hE : IntKind.u16.wrap (2 ^ k) = ((2 ^ k : Nat) : Int) := shl_one k (by omega)
          have HS := Lib.hid hS
          clear hS
          generalize hQ : (2 ^ k : Nat) = R at *
          have HQ := Lib.hid hQ
          clear hQ
          go_wp2
          go_round
          case rel => exact ⟨k + 1, S ||| R, by omega, by omega, .inl (by omega), by go_num, by rw [u16_or_nat S R hSl hP], hN.out.symm⟩
          case measure => simp [intOf]; omega
        · have hi : ¬ (k : Int) ≤ (b : Int) := by omega
          have hF := Lib.hid (rowTo_end a b k hk hk0 (by omega))
          rw [← hS] at hF
          clear hS
          go_wp2
          go_ret2
          exact ⟨ret_tup (by rw [hF.out]; simp [rowP, h1, h2]) (by simp [rowP, h1, h2]), rfl⟩

set_option maxHeartbeats 400000 in
theorem asks_int0 (a b : Int) (w : World) : Calls Tryd.prog 53 #[.int .u8 0, .int .i64 a, .int .i64 b] w fun e w' => e = .returned (tup (isP (decide (a < b)))) ∧ w = w' := by
  have hi := fun (x0 x1 x2 x3 : Bool) (W : World) => asks_index0 x0 x1 x2 x3 W
  have hz := is_any (decide (a < b)) w
  unfold tup at hz
  have HZ := Lib.hid hz
  clear hz
  generalize hd : decide (a < b) = d at *
  go_enter Tryd.func53, Tryd.ntmps53
  go_wp2_with fail
  (first | (refine HZ.out.mono ?_) | (go_show; fail))
  rintro e w' ⟨rfl, rfl⟩
  go_wp2
  go_ret2
  exact ⟨rfl, rfl⟩

set_option maxHeartbeats 400000 in
theorem asks_int1 (a b : Int) (w : World) : Calls Tryd.prog 53 #[.int .u8 1, .int .i64 a, .int .i64 b] w fun e w' => e = .returned (tup (isP (decide (a ≤ b)))) ∧ w = w' := by
  have hi := fun (x0 x1 x2 x3 : Bool) (W : World) => asks_index1 x0 x1 x2 x3 W
  have hz := is_any (decide (a ≤ b)) w
  unfold tup at hz
  have HZ := Lib.hid hz
  clear hz
  generalize hd : decide (a ≤ b) = d at *
  go_enter Tryd.func53, Tryd.ntmps53
  go_wp2_with fail
  (first | (refine HZ.out.mono ?_) | (go_show; fail))
  rintro e w' ⟨rfl, rfl⟩
  go_wp2
  go_ret2
  exact ⟨rfl, rfl⟩

set_option maxHeartbeats 400000 in
theorem asks_int2 (a b : Int) (w : World) : Calls Tryd.prog 53 #[.int .u8 2, .int .i64 a, .int .i64 b] w fun e w' => e = .returned (tup (isP (decide (b < a)))) ∧ w = w' := by
  have hi := fun (x0 x1 x2 x3 : Bool) (W : World) => asks_index2 x0 x1 x2 x3 W
  have hz := is_any (decide (b < a)) w
  unfold tup at hz
  have HZ := Lib.hid hz
  clear hz
  generalize hd : decide (b < a) = d at *
  go_enter Tryd.func53, Tryd.ntmps53
  go_wp2_with fail
  (first | (refine HZ.out.mono ?_) | (go_show; fail))
  rintro e w' ⟨rfl, rfl⟩
  go_wp2
  go_ret2
  exact ⟨rfl, rfl⟩

set_option maxHeartbeats 400000 in
theorem asks_int3 (a b : Int) (w : World) : Calls Tryd.prog 53 #[.int .u8 3, .int .i64 a, .int .i64 b] w fun e w' => e = .returned (tup (isP (decide (b ≤ a)))) ∧ w = w' := by
  have hi := fun (x0 x1 x2 x3 : Bool) (W : World) => asks_index3 x0 x1 x2 x3 W
  have hz := is_any (decide (b ≤ a)) w
  unfold tup at hz
  have HZ := Lib.hid hz
  clear hz
  generalize hd : decide (b ≤ a) = d at *
  go_enter Tryd.func53, Tryd.ntmps53
  go_wp2_with fail
  (first | (refine HZ.out.mono ?_) | (go_show; fail))
  rintro e w' ⟨rfl, rfl⟩
  go_wp2
  go_ret2
  exact ⟨rfl, rfl⟩

set_option maxHeartbeats 400000 in
theorem asks_uint160 (a b : Int) (w : World) : Calls Tryd.prog 58 #[.int .u8 0, .int .u16 a, .int .u16 b] w fun e w' => e = .returned (tup (isP (decide (a < b)))) ∧ w = w' := by
  have hi := fun (x0 x1 x2 x3 : Bool) (W : World) => asks_index0 x0 x1 x2 x3 W
  have hz := is_any (decide (a < b)) w
  unfold tup at hz
  have HZ := Lib.hid hz
  clear hz
  generalize hd : decide (a < b) = d at *
  go_enter Tryd.func58, Tryd.ntmps58
  go_wp2_with fail
  (first | (refine HZ.out.mono ?_) | (go_show; fail))
  rintro e w' ⟨rfl, rfl⟩
  go_wp2
  go_ret2
  exact ⟨rfl, rfl⟩

set_option maxHeartbeats 400000 in
theorem asks_uint161 (a b : Int) (w : World) : Calls Tryd.prog 58 #[.int .u8 1, .int .u16 a, .int .u16 b] w fun e w' => e = .returned (tup (isP (decide (a ≤ b)))) ∧ w = w' := by
  have hi := fun (x0 x1 x2 x3 : Bool) (W : World) => asks_index1 x0 x1 x2 x3 W
  have hz := is_any (decide (a ≤ b)) w
  unfold tup at hz
  have HZ := Lib.hid hz
  clear hz
  generalize hd : decide (a ≤ b) = d at *
  go_enter Tryd.func58, Tryd.ntmps58
  go_wp2_with fail
  (first | (refine HZ.out.mono ?_) | (go_show; fail))
  rintro e w' ⟨rfl, rfl⟩
  go_wp2
  go_ret2
  exact ⟨rfl, rfl⟩

set_option maxHeartbeats 400000 in
theorem asks_uint162 (a b : Int) (w : World) : Calls Tryd.prog 58 #[.int .u8 2, .int .u16 a, .int .u16 b] w fun e w' => e = .returned (tup (isP (decide (b < a)))) ∧ w = w' := by
  have hi := fun (x0 x1 x2 x3 : Bool) (W : World) => asks_index2 x0 x1 x2 x3 W
  have hz := is_any (decide (b < a)) w
  unfold tup at hz
  have HZ := Lib.hid hz
  clear hz
  generalize hd : decide (b < a) = d at *
  go_enter Tryd.func58, Tryd.ntmps58
  go_wp2_with fail
  (first | (refine HZ.out.mono ?_) | (go_show; fail))
  rintro e w' ⟨rfl, rfl⟩
  go_wp2
  go_ret2
  exact ⟨rfl, rfl⟩

set_option maxHeartbeats 400000 in
theorem asks_uint163 (a b : Int) (w : World) : Calls Tryd.prog 58 #[.int .u8 3, .int .u16 a, .int .u16 b] w fun e w' => e = .returned (tup (isP (decide (b ≤ a)))) ∧ w = w' := by
  have hi := fun (x0 x1 x2 x3 : Bool) (W : World) => asks_index3 x0 x1 x2 x3 W
  have hz := is_any (decide (b ≤ a)) w
  unfold tup at hz
  have HZ := Lib.hid hz
  clear hz
  generalize hd : decide (b ≤ a) = d at *
  go_enter Tryd.func58, Tryd.ntmps58
  go_wp2_with fail
  (first | (refine HZ.out.mono ?_) | (go_show; fail))
  rintro e w' ⟨rfl, rfl⟩
  go_wp2
  go_ret2
  exact ⟨rfl, rfl⟩

end Go.Proofs.YtdodbbedlgglcaaDoor.Wd
