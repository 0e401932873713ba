/- The walk of the reference's sets: each op of sets, by itself, is what its plain function says. -/
import Derived.Test.YtdodbbedlgglcaaDoorD5
set_option linter.unusedSimpArgs false
set_option linter.unusedVariables false
namespace Go.Proofs.YtdodbbedlgglcaaDoor.Wd
open Go.RowKit
open WPlain

set_option maxHeartbeats 800000 in
theorem sets28 (a b : Nat) (w : World) (ha : a < 65536) (hb : b < 65536) : Calls Tryd.prog 28 #[.int .u8 28, .int .u16 a, .int .u16 b] w fun e w' => e = .returned (tup (opP 28 a b)) ∧ w = w' := by
  by_cases hk : a < 16
  · have hk' : (a : Int) < 16 := by omega
    have hc := so_any (b.testBit a) w
    unfold tup at hc
    have HC := Lib.hid hc
    clear hc
    have HE := Lib.hid (show opP 28 a b = isP (b.testBit a) from by show isP _ = _; simp [hk])
    have he := in_mod b a
    generalize b.testBit a = z at *
    go_enter Tryd.func28, Tryd.ntmps28
    go_wp2_with fail
    ((with_reducible refine HC.out.mono ?_); rintro e w' ⟨rfl, rfl⟩)
    go_wp2
    go_ret2
    exact ⟨by rw [HE.out]; rfl, rfl⟩
  · have hk' : ¬ (a : Int) < 16 := by omega
    have hc := so_any false w
    unfold tup at hc
    have HC := Lib.hid hc
    clear hc
    have HE := Lib.hid (show opP 28 a b = isP false from by show isP _ = _; simp [hk])
    go_enter Tryd.func28, Tryd.ntmps28
    go_wp2_with fail
    ((with_reducible refine HC.out.mono ?_); rintro e w' ⟨rfl, rfl⟩)
    go_wp2
    go_ret2
    exact ⟨by rw [HE.out]; rfl, rfl⟩

set_option maxRecDepth 100000 in
set_option maxHeartbeats 4000000 in
theorem sets24 (a b : Nat) (w : World) (ha : a < 65536) (hb : b < 65536) : Calls Tryd.prog 28 #[.int .u8 24, .int .u16 a, .int .u16 b] w fun e w' => e = .returned (tup (opP 24 a b)) ∧ w = w' := by
  have HF := Lib.hid (set24_eq a b ha hb)
  go_enter Tryd.func28, Tryd.ntmps28
  go_wp2
  go_loop [8, 9, 10, 11, 12, 13] (fun s p i _ _ _ => ∃ k S : Nat, k ≤ 16 ∧ i = .int .u16 k ∧ s = .int .u16 S ∧ S = sumSet (fun j => a.testBit j || b.testBit j) k ∧ p = .bool (partTo a b k)) (fun _ _ i _ _ _ => 16 - (intOf i).toNat)
  case atStart => exact ⟨0, 0, Nat.zero_le _, rfl, rfl, rfl, rfl⟩
  case round =>
    obtain ⟨k, S, hk, rfl, rfl, hS, rfl⟩ := hrel
    have hSl : S < 65536 := by
      rw [hS]
      have h1 := sumSet_lt (fun j => a.testBit j || b.testBit j) k
      have h2 : 2 ^ k ≤ 2 ^ 16 := Nat.pow_le_pow_right (by omega) hk
      omega
    by_cases hlt : k < 16
    · have hN := Lib.hid (show sumSet (fun j => a.testBit j || b.testBit j) (k + 1) = S + if (a.testBit k || b.testBit k) then 2 ^ k else 0 from by rw [hS]; rfl)
      have hb2 : S + 2 ^ k ≤ 65535 := by rw [hS]; exact sum_bd _ k hlt
      have hPN := Lib.hid (show partTo a b (k + 1) = (partTo a b k && (!(a).testBit k || (b).testBit k)) from rfl)
      have hE : IntKind.u16.wrap (2 ^ k) = ((2 ^ k : Nat) : Int) := shl_one k hlt
      have hx := in_mod a k
      have hy := in_mod b k
      clear hS
      generalize partTo a b k = pk at *
      generalize (a).testBit k = x at *
      generalize (b).testBit k = y at *
      generalize (2 ^ k : Nat) = R at *
      cases x <;> cases y <;> cases pk
      all_goals
        go_wp2
        all_goals
          go_round
          case rel => exact ⟨k + 1, _, by omega, by go_num, by first | rfl | go_num, by rw [hN.out]; simp, by rw [hPN.out]; rfl⟩
          case measure => simp [intOf]; omega
    · have hk16 : k = 16 := by omega
      subst hk16
      have HS := Lib.hid hS
      clear hS
      go_wp2
      go_ret2
      exact ⟨by rw [HF.out]; exact ret_tup (by rw [HS.out]) rfl, rfl⟩

set_option maxRecDepth 100000 in
set_option maxHeartbeats 4000000 in
theorem sets25 (a b : Nat) (w : World) (ha : a < 65536) (hb : b < 65536) : Calls Tryd.prog 28 #[.int .u8 25, .int .u16 a, .int .u16 b] w fun e w' => e = .returned (tup (opP 25 a b)) ∧ w = w' := by
  have HF := Lib.hid (set25_eq a b ha hb)
  go_enter Tryd.func28, Tryd.ntmps28
  go_wp2
  go_loop [8, 9, 10, 11, 12, 13] (fun s p i _ _ _ => ∃ k S : Nat, k ≤ 16 ∧ i = .int .u16 k ∧ s = .int .u16 S ∧ S = sumSet (fun j => a.testBit j && !b.testBit j) k ∧ p = .bool (partTo a b k)) (fun _ _ i _ _ _ => 16 - (intOf i).toNat)
  case atStart => exact ⟨0, 0, Nat.zero_le _, rfl, rfl, rfl, rfl⟩
  case round =>
    obtain ⟨k, S, hk, rfl, rfl, hS, rfl⟩ := hrel
    have hSl : S < 65536 := by
      rw [hS]
      have h1 := sumSet_lt (fun j => a.testBit j && !b.testBit j) k
      have h2 : 2 ^ k ≤ 2 ^ 16 := Nat.pow_le_pow_right (by omega) hk
      omega
    by_cases hlt : k < 16
    · have hN := Lib.hid (show sumSet (fun j => a.testBit j && !b.testBit j) (k + 1) = S + if (a.testBit k && !b.testBit k) then 2 ^ k else 0 from by rw [hS]; rfl)
      have hb2 : S + 2 ^ k ≤ 65535 := by rw [hS]; exact sum_bd _ k hlt
      have hPN := Lib.hid (show partTo a b (k + 1) = (partTo a b k && (!(a).testBit k || (b).testBit k)) from rfl)
      have hE : IntKind.u16.wrap (2 ^ k) = ((2 ^ k : Nat) : Int) := shl_one k hlt
      have hx := in_mod a k
      have hy := in_mod b k
      clear hS
      generalize partTo a b k = pk at *
      generalize (a).testBit k = x at *
      generalize (b).testBit k = y at *
      generalize (2 ^ k : Nat) = R at *
      cases x <;> cases y <;> cases pk
      all_goals
        go_wp2
        all_goals
          go_round
          case rel => exact ⟨k + 1, _, by omega, by go_num, by first | rfl | go_num, by rw [hN.out]; simp, by rw [hPN.out]; rfl⟩
          case measure => simp [intOf]; omega
    · have hk16 : k = 16 := by omega
      subst hk16
      have HS := Lib.hid hS
      clear hS
      go_wp2
      go_ret2
      exact ⟨by rw [HF.out]; exact ret_tup (by rw [HS.out]) rfl, rfl⟩

set_option maxRecDepth 100000 in
set_option maxHeartbeats 4000000 in
theorem sets26 (a b : Nat) (w : World) (ha : a < 65536) (hb : b < 65536) : Calls Tryd.prog 28 #[.int .u8 26, .int .u16 a, .int .u16 b] w fun e w' => e = .returned (tup (opP 26 a b)) ∧ w = w' := by
  have HF := Lib.hid (set26_eq a b ha hb)
  go_enter Tryd.func28, Tryd.ntmps28
  go_wp2
  go_loop [8, 9, 10, 11, 12, 13] (fun s p i _ _ _ => ∃ k S : Nat, k ≤ 16 ∧ i = .int .u16 k ∧ s = .int .u16 S ∧ S = sumSet (fun j => a.testBit j && b.testBit j) k ∧ p = .bool (partTo a b k)) (fun _ _ i _ _ _ => 16 - (intOf i).toNat)
  case atStart => exact ⟨0, 0, Nat.zero_le _, rfl, rfl, rfl, rfl⟩
  case round =>
    obtain ⟨k, S, hk, rfl, rfl, hS, rfl⟩ := hrel
    have hSl : S < 65536 := by
      rw [hS]
      have h1 := sumSet_lt (fun j => a.testBit j && b.testBit j) k
      have h2 : 2 ^ k ≤ 2 ^ 16 := Nat.pow_le_pow_right (by omega) hk
      omega
    by_cases hlt : k < 16
    · have hN := Lib.hid (show sumSet (fun j => a.testBit j && b.testBit j) (k + 1) = S + if (a.testBit k && b.testBit k) then 2 ^ k else 0 from by rw [hS]; rfl)
      have hb2 : S + 2 ^ k ≤ 65535 := by rw [hS]; exact sum_bd _ k hlt
      have hPN := Lib.hid (show partTo a b (k + 1) = (partTo a b k && (!(a).testBit k || (b).testBit k)) from rfl)
      have hE : IntKind.u16.wrap (2 ^ k) = ((2 ^ k : Nat) : Int) := shl_one k hlt
      have hx := in_mod a k
      have hy := in_mod b k
      clear hS
      generalize partTo a b k = pk at *
      generalize (a).testBit k = x at *
      generalize (b).testBit k = y at *
      generalize (2 ^ k : Nat) = R at *
      cases x <;> cases y <;> cases pk
      all_goals
        go_wp2
        all_goals
          go_round
          case rel => exact ⟨k + 1, _, by omega, by go_num, by first | rfl | go_num, by rw [hN.out]; simp, by rw [hPN.out]; rfl⟩
          case measure => simp [intOf]; omega
    · have hk16 : k = 16 := by omega
      subst hk16
      have HS := Lib.hid hS
      clear hS
      go_wp2
      go_ret2
      exact ⟨by rw [HF.out]; exact ret_tup (by rw [HS.out]) rfl, rfl⟩

set_option maxRecDepth 100000 in
set_option maxHeartbeats 4000000 in
theorem sets27 (a b : Nat) (w : World) (ha : a < 65536) (hb : b < 65536) : Calls Tryd.prog 28 #[.int .u8 27, .int .u16 a, .int .u16 b] w fun e w' => e = .returned (tup (opP 27 a b)) ∧ w = w' := by
  have HF := Lib.hid (set27_eq a b ha hb)
  go_enter Tryd.func28, Tryd.ntmps28
  go_wp2
  go_loop [8, 9, 10, 11, 12, 13] (fun s p i _ _ _ => ∃ k S : Nat, k ≤ 16 ∧ i = .int .u16 k ∧ s = .int .u16 S ∧ S = sumSet (fun j => a.testBit j != b.testBit j) k ∧ p = .bool (partTo a b k)) (fun _ _ i _ _ _ => 16 - (intOf i).toNat)
  case atStart => exact ⟨0, 0, Nat.zero_le _, rfl, rfl, rfl, rfl⟩
  case round =>
    obtain ⟨k, S, hk, rfl, rfl, hS, rfl⟩ := hrel
    have hSl : S < 65536 := by
      rw [hS]
      have h1 := sumSet_lt (fun j => a.testBit j != b.testBit j) k
      have h2 : 2 ^ k ≤ 2 ^ 16 := Nat.pow_le_pow_right (by omega) hk
      omega
    by_cases hlt : k < 16
    · have hN := Lib.hid (show sumSet (fun j => a.testBit j != b.testBit j) (k + 1) = S + if (a.testBit k != b.testBit k) then 2 ^ k else 0 from by rw [hS]; rfl)
      have hb2 : S + 2 ^ k ≤ 65535 := by rw [hS]; exact sum_bd _ k hlt
      have hPN := Lib.hid (show partTo a b (k + 1) = (partTo a b k && (!(a).testBit k || (b).testBit k)) from rfl)
      have hE : IntKind.u16.wrap (2 ^ k) = ((2 ^ k : Nat) : Int) := shl_one k hlt
      have hx := in_mod a k
      have hy := in_mod b k
      clear hS
      generalize partTo a b k = pk at *
      generalize (a).testBit k = x at *
      generalize (b).testBit k = y at *
      generalize (2 ^ k : Nat) = R at *
      cases x <;> cases y <;> cases pk
      all_goals
        go_wp2
        all_goals
          go_round
          case rel => exact ⟨k + 1, _, by omega, by go_num, by first | rfl | go_num, by rw [hN.out]; simp, by rw [hPN.out]; rfl⟩
          case measure => simp [intOf]; omega
    · have hk16 : k = 16 := by omega
      subst hk16
      have HS := Lib.hid hS
      clear hS
      go_wp2
      go_ret2
      exact ⟨by rw [HF.out]; exact ret_tup (by rw [HS.out]) rfl, rfl⟩

set_option maxRecDepth 100000 in
set_option maxHeartbeats 4000000 in
theorem sets29 (a b : Nat) (w : World) (ha : a < 65536) (hb : b < 65536) : Calls Tryd.prog 28 #[.int .u8 29, .int .u16 a, .int .u16 b] w fun e w' => e = .returned (tup (opP 29 a b)) ∧ w = w' := by
  have HF := Lib.hid (set29_eq a b ha hb)
  have hc := so_any (partTo a b 16) w
  unfold tup at hc
  have HC := Lib.hid hc
  clear hc
  go_enter Tryd.func28, Tryd.ntmps28
  go_wp2
  go_loop [8, 9, 10, 11, 12, 13] (fun s p i _ _ _ => ∃ k S : Nat, k ≤ 16 ∧ i = .int .u16 k ∧ s = .int .u16 S ∧ S = sumSet (fun _ => false) k ∧ p = .bool (partTo a b k)) (fun _ _ i _ _ _ => 16 - (intOf i).toNat)
  case atStart => exact ⟨0, 0, Nat.zero_le _, rfl, rfl, rfl, rfl⟩
  case round =>
    obtain ⟨k, S, hk, rfl, rfl, hS, rfl⟩ := hrel
    have hSl : S < 65536 := by
      rw [hS]
      have h1 := sumSet_lt (fun _ => false) k
      have h2 : 2 ^ k ≤ 2 ^ 16 := Nat.pow_le_pow_right (by omega) hk
      omega
    by_cases hlt : k < 16
    · have hN := Lib.hid (show sumSet (fun _ => false) (k + 1) = S + if (false) then 2 ^ k else 0 from by rw [hS]; rfl)
      have hb2 : S + 2 ^ k ≤ 65535 := by rw [hS]; exact sum_bd _ k hlt
      have hPN := Lib.hid (show partTo a b (k + 1) = (partTo a b k && (!(a).testBit k || (b).testBit k)) from rfl)
      have hE : IntKind.u16.wrap (2 ^ k) = ((2 ^ k : Nat) : Int) := shl_one k hlt
      have hx := in_mod a k
      have hy := in_mod b k
      clear hS
      generalize partTo a b k = pk at *
      generalize (a).testBit k = x at *
      generalize (b).testBit k = y at *
      generalize (2 ^ k : Nat) = R at *
      cases x <;> cases y <;> cases pk
      all_goals
        go_wp2
        all_goals
          go_round
          case rel => exact ⟨k + 1, _, by omega, by go_num, by first | rfl | go_num, by rw [hN.out]; simp, by rw [hPN.out]; rfl⟩
          case measure => simp [intOf]; omega
    · have hk16 : k = 16 := by omega
      subst hk16
      have HS := Lib.hid hS
      clear hS
      go_wp2_with fail
      ((with_reducible refine HC.out.mono ?_); rintro e w' ⟨rfl, rfl⟩)
      go_wp2
      go_ret2
      exact ⟨by rw [HF.out]; rfl, rfl⟩

set_option maxRecDepth 100000 in
set_option maxHeartbeats 4000000 in
theorem sets30 (a b : Nat) (w : World) (ha : a < 65536) (hb : b < 65536) : Calls Tryd.prog 28 #[.int .u8 30, .int .u16 a, .int .u16 b] w fun e w' => e = .returned (tup (opP 30 a b)) ∧ w = w' := by
  by_cases h1 : 15 < a
  · have h1' : (15 : Int) < (a : Int) := by omega
    have HF := Lib.hid (show opP 30 a b = (0, 2) from by show rowP a a = _; unfold rowP; rw [if_pos (by omega)])
    go_enter Tryd.func28, Tryd.ntmps28
    go_wp2
    go_ret2
    exact ⟨by rw [HF.out]; rfl, rfl⟩
  · have h1' : ¬ (15 : Int) < (a : Int) := by omega
    by_cases h2 : 15 < a
    · exact absurd h2 h1
    · have h2' : ¬ (15 : Int) < (a : Int) := by omega
      have HF := Lib.hid (show opP 30 a b = (sumSet (fun j => decide (a ≤ j) && decide (j ≤ a)) 16, 0) from setrow_eq a a (by omega) (by omega))
      go_enter Tryd.func28, Tryd.ntmps28
      go_wp2
      go_loop [8, 9, 10, 11, 12, 13] (fun s p i _ _ _ => ∃ k S : Nat, k ≤ 16 ∧ i = .int .u16 k ∧ s = .int .u16 S ∧ S = sumSet (fun j => decide (a ≤ j) && decide (j ≤ a)) k ∧ p = .bool (partTo a a k)) (fun _ _ i _ _ _ => 16 - (intOf i).toNat)
      case atStart => exact ⟨0, 0, Nat.zero_le _, rfl, rfl, rfl, rfl⟩
      case round =>
        obtain ⟨k, S, hk, rfl, rfl, hS, rfl⟩ := hrel
        have hSl : S < 65536 := by
          rw [hS]
          have h1 := sumSet_lt (fun j => decide (a ≤ j) && decide (j ≤ a)) k
          have h2 : 2 ^ k ≤ 2 ^ 16 := Nat.pow_le_pow_right (by omega) hk
          omega
        by_cases hlt : k < 16
        · have hN := Lib.hid (show sumSet (fun j => decide (a ≤ j) && decide (j ≤ a)) (k + 1) = S + if (decide (a ≤ k) && decide (k ≤ a)) then 2 ^ k else 0 from by rw [hS]; rfl)
          have hb2 : S + 2 ^ k ≤ 65535 := by rw [hS]; exact sum_bd _ k hlt
          have hPN := Lib.hid (show partTo a a (k + 1) = (partTo a a k && (!(a).testBit k || (a).testBit k)) from rfl)
          have hE : IntKind.u16.wrap (2 ^ k) = ((2 ^ k : Nat) : Int) := shl_one k hlt
          have hx := in_mod a k
          have hy := in_mod a k
          clear hS
          have hd1 : decide ((a : Int) ≤ (k : Int)) = decide (a ≤ k) := by simp
          have hd2 : decide ((k : Int) ≤ (a : Int)) = decide (k ≤ a) := by simp
          by_cases g1 : a ≤ k <;> by_cases g2 : k ≤ a
          all_goals
            have g1' := g1
            have g2' := g2
            simp only [g1, g2, decide_true, decide_false] at hd1 hd2
            clear g1 g2
            generalize partTo a a k = pk at *
            generalize (a).testBit k = x at *
            generalize (a).testBit k = y at *
            generalize (2 ^ k : Nat) = R at *
            cases x <;> cases y <;> cases pk
            all_goals
              go_wp2
              all_goals
                go_round
                case rel => exact ⟨k + 1, _, by omega, by go_num, by first | rfl | go_num, by rw [hN.out]; simp [g1', g2'], by rw [hPN.out]; rfl⟩
                case measure => simp [intOf]; omega
        · have hk16 : k = 16 := by omega
          subst hk16
          have HS := Lib.hid hS
          clear hS
          go_wp2
          go_ret2
          exact ⟨by rw [HF.out]; exact ret_tup (by rw [HS.out]) rfl, rfl⟩

set_option maxRecDepth 100000 in
set_option maxHeartbeats 4000000 in
theorem sets31 (a b : Nat) (w : World) (ha : a < 65536) (hb : b < 65536) : Calls Tryd.prog 28 #[.int .u8 31, .int .u16 a, .int .u16 b] w fun e w' => e = .returned (tup (opP 31 a b)) ∧ w = w' := by
  by_cases h1 : 15 < a
  · have h1' : (15 : Int) < (a : Int) := by omega
    have HF := Lib.hid (show opP 31 a b = (0, 2) from by show rowP a b = _; unfold rowP; rw [if_pos (by omega)])
    go_enter Tryd.func28, Tryd.ntmps28
    go_wp2
    go_ret2
    exact ⟨by rw [HF.out]; rfl, rfl⟩
  · have h1' : ¬ (15 : Int) < (a : Int) := by omega
    by_cases h2 : 15 < b
    · have h2' : (15 : Int) < (b : Int) := by omega
      have HF := Lib.hid (show opP 31 a b = (0, 2) from by show rowP a b = _; unfold rowP; rw [if_pos (by omega)])
      go_enter Tryd.func28, Tryd.ntmps28
      go_wp2
      go_ret2
      exact ⟨by rw [HF.out]; rfl, rfl⟩
    · have h2' : ¬ (15 : Int) < (b : Int) := by omega
      have HF := Lib.hid (show opP 31 a b = (sumSet (fun j => decide (a ≤ j) && decide (j ≤ b)) 16, 0) from setrow_eq a b (by omega) (by omega))
      go_enter Tryd.func28, Tryd.ntmps28
      go_wp2
      go_loop [8, 9, 10, 11, 12, 13] (fun s p i _ _ _ => ∃ k S : Nat, k ≤ 16 ∧ i = .int .u16 k ∧ s = .int .u16 S ∧ S = sumSet (fun j => decide (a ≤ j) && decide (j ≤ b)) k ∧ p = .bool (partTo a b k)) (fun _ _ i _ _ _ => 16 - (intOf i).toNat)
      case atStart => exact ⟨0, 0, Nat.zero_le _, rfl, rfl, rfl, rfl⟩
      case round =>
        obtain ⟨k, S, hk, rfl, rfl, hS, rfl⟩ := hrel
        have hSl : S < 65536 := by
          rw [hS]
          have h1 := sumSet_lt (fun j => decide (a ≤ j) && decide (j ≤ b)) k
          have h2 : 2 ^ k ≤ 2 ^ 16 := Nat.pow_le_pow_right (by omega) hk
          omega
        by_cases hlt : k < 16
        · have hN := Lib.hid (show sumSet (fun j => decide (a ≤ j) && decide (j ≤ b)) (k + 1) = S + if (decide (a ≤ k) && decide (k ≤ b)) then 2 ^ k else 0 from by rw [hS]; rfl)
          have hb2 : S + 2 ^ k ≤ 65535 := by rw [hS]; exact sum_bd _ k hlt
          have hPN := Lib.hid (show partTo a b (k + 1) = (partTo a b k && (!(a).testBit k || (b).testBit k)) from rfl)
          have hE : IntKind.u16.wrap (2 ^ k) = ((2 ^ k : Nat) : Int) := shl_one k hlt
          have hx := in_mod a k
          have hy := in_mod b k
          clear hS
          have hd1 : decide ((a : Int) ≤ (k : Int)) = decide (a ≤ k) := by simp
          have hd2 : decide ((k : Int) ≤ (b : Int)) = decide (k ≤ b) := by simp
          by_cases g1 : a ≤ k <;> by_cases g2 : k ≤ b
          all_goals
            have g1' := g1
            have g2' := g2
            simp only [g1, g2, decide_true, decide_false] at hd1 hd2
            clear g1 g2
            generalize partTo a b k = pk at *
            generalize (a).testBit k = x at *
            generalize (b).testBit k = y at *
            generalize (2 ^ k : Nat) = R at *
            cases x <;> cases y <;> cases pk
            all_goals
              go_wp2
              all_goals
                go_round
                case rel => exact ⟨k + 1, _, by omega, by go_num, by first | rfl | go_num, by rw [hN.out]; simp [g1', g2'], by rw [hPN.out]; rfl⟩
                case measure => simp [intOf]; omega
        · have hk16 : k = 16 := by omega
          subst hk16
          have HS := Lib.hid hS
          clear hS
          go_wp2
          go_ret2
          exact ⟨by rw [HF.out]; exact ret_tup (by rw [HS.out]) rfl, rfl⟩

end Go.Proofs.YtdodbbedlgglcaaDoor.Wd
