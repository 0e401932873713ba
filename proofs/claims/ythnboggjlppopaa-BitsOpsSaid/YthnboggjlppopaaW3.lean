/- The walks of separatumref02.With, Without, Row, Part: loops over the numbers from 0 to 15. -/
import Derived.Test.YthnboggjlppopaaW2
namespace Go.Proofs.Ythnboggjlppopaa
open Go.RowKit

theorem sum_bd (p : Nat → Bool) (k : Nat) (hk : k < 16) : Plain.sumSet p k + 2 ^ k ≤ 65535 := by
  have h1 := Plain.sumSet_lt p k
  have h2 := Plain.two_pow_le hk
  omega

set_option maxHeartbeats 1000000 in
theorem rwith_any (s : Nat) (A : Option Addr) (n c : Nat) (zs : List Int) (w : World) (B : Nat) (hs : s < 65536) (h : Ints w B A n zs) (hn : n ≤ 9223372036854775807) :
    Calls Try.prog 11 #[.int .u16 s, .slice A n c] w fun e w' => e = .returned (.int .u16 (Plain.with_ s zs)) ∧ w = w' := by
  go_enter Try.func11, Try.ntmps11
  go_wp2
  go_loop [5, 6] (fun t i => ∃ k T : Nat, k ≤ 16 ∧ i = .int .i64 k ∧ t = .int .u16 T ∧ T = Plain.sumSet (Plain.pWith s zs) k) (fun _ i => 16 - (intOf i).toNat)
  case atStart => exact ⟨0, 0, Nat.zero_le _, rfl, rfl, rfl⟩
  case round =>
    obtain ⟨k, T, hk, rfl, rfl, hT⟩ := hrel
    by_cases hlt : k < 16
    · have hS : Hid (Plain.sumSet (Plain.pWith s zs) (k + 1) = T + if Plain.has s k || Plain.isIn zs (k : Int) then 2 ^ k else 0) := by
        unfold Hid; rw [hT]; rfl
      have hb : T + 2 ^ k ≤ 65535 := by rw [hT]; exact sum_bd _ k hlt
      clear hT
      generalize hX : Plain.has s k = x at *
      generalize hY : Plain.isIn zs (k : Int) = y at *
      generalize hQ : 2 ^ k = Q at *
      have HX := Lib.hid hX
      have HY := Lib.hid hY
      have HQ := Lib.hid hQ
      clear hX hY hQ
      cases x <;> cases y
      all_goals
        go_wp2_with (first
          | (go_at_call 9; refine (rhas_any s _ _ hs).mono ?_; rintro e w' ⟨rfl, rfl⟩; rw [HX.out])
          | (go_at_call 26; refine (in_any _ _ _ zs _ _ B h hn).mono ?_; rintro e w' ⟨rfl, rfl⟩; rw [HY.out])
          | (go_at_call 24; refine (power_any k _ hlt).mono ?_; rintro e w' ⟨rfl, rfl⟩; rw [HQ.out]))
        go_round
        case rel => exact ⟨k + 1, _, by omega, by go_num, by first | rfl | go_num, by rw [hS.out]; simp⟩
        case measure => simp [intOf]; omega
    · have e : k = 16 := by omega
      subst e
      have HT := Lib.hid hT
      clear hT
      go_wp2
      go_ret
      exact ⟨ret_int (by rw [HT.out, Plain.ref_with hs]), rfl⟩

set_option maxHeartbeats 1000000 in
theorem rwithout_any (s : Nat) (A : Option Addr) (n c : Nat) (zs : List Int) (w : World) (B : Nat) (hs : s < 65536) (h : Ints w B A n zs) (hn : n ≤ 9223372036854775807) :
    Calls Try.prog 13 #[.int .u16 s, .slice A n c] w fun e w' => e = .returned (.int .u16 (Plain.without s zs)) ∧ w = w' := by
  go_enter Try.func13, Try.ntmps13
  go_wp2
  go_loop [5, 6] (fun t i => ∃ k T : Nat, k ≤ 16 ∧ i = .int .i64 k ∧ t = .int .u16 T ∧ T = Plain.sumSet (Plain.pWithout s zs) k) (fun _ i => 16 - (intOf i).toNat)
  case atStart => exact ⟨0, 0, Nat.zero_le _, rfl, rfl, rfl⟩
  case round =>
    obtain ⟨k, T, hk, rfl, rfl, hT⟩ := hrel
    by_cases hlt : k < 16
    · have hS : Hid (Plain.sumSet (Plain.pWithout s zs) (k + 1) = T + if Plain.has s k && !Plain.isIn zs (k : Int) then 2 ^ k else 0) := by
        unfold Hid; rw [hT]; rfl
      have hb : T + 2 ^ k ≤ 65535 := by rw [hT]; exact sum_bd _ k hlt
      clear hT
      generalize hX : Plain.has s k = x at *
      generalize hY : Plain.isIn zs (k : Int) = y at *
      generalize hQ : 2 ^ k = Q at *
      have HX := Lib.hid hX
      have HY := Lib.hid hY
      have HQ := Lib.hid hQ
      clear hX hY hQ
      cases x <;> cases y
      all_goals
        go_wp2_with (first
          | (go_at_call 9; refine (rhas_any s _ _ hs).mono ?_; rintro e w' ⟨rfl, rfl⟩; rw [HX.out])
          | (go_at_call 26; refine (in_any _ _ _ zs _ _ B h hn).mono ?_; rintro e w' ⟨rfl, rfl⟩; rw [HY.out])
          | (go_at_call 24; refine (power_any k _ hlt).mono ?_; rintro e w' ⟨rfl, rfl⟩; rw [HQ.out]))
        go_round
        case rel => exact ⟨k + 1, _, by omega, by go_num, by first | rfl | go_num, by rw [hS.out]; simp⟩
        case measure => simp [intOf]; omega
    · have e : k = 16 := by omega
      subst e
      have HT := Lib.hid hT
      clear hT
      go_wp2
      go_ret
      exact ⟨ret_int (by rw [HT.out, Plain.ref_without hs]), rfl⟩

set_option maxHeartbeats 1000000 in
theorem rrow_any (low high : Int) (w : World) :
    Calls Try.prog 21 #[.int .i64 low, .int .i64 high] w fun e w' => e = .returned (.int .u16 (Plain.row low high)) ∧ w = w' := by
  go_enter Try.func21, Try.ntmps21
  go_wp2
  go_loop [5, 6] (fun t i => ∃ k T : Nat, k ≤ 16 ∧ i = .int .i64 k ∧ t = .int .u16 T ∧ T = Plain.sumSet (Plain.pRow low high) k) (fun _ i => 16 - (intOf i).toNat)
  case atStart => exact ⟨0, 0, Nat.zero_le _, rfl, rfl, rfl⟩
  case round =>
    obtain ⟨k, T, hk, rfl, rfl, hT⟩ := hrel
    by_cases hlt : k < 16
    · have hS : Hid (Plain.sumSet (Plain.pRow low high) (k + 1) = T + if decide (low ≤ (k : Int)) && decide ((k : Int) ≤ high) then 2 ^ k else 0) := by
        unfold Hid; rw [hT]; rfl
      have hb : T + 2 ^ k ≤ 65535 := by rw [hT]; exact sum_bd _ k hlt
      clear hT
      generalize hQ : 2 ^ k = Q at *
      have HQ := Lib.hid hQ
      clear hQ
      by_cases hx : low ≤ (k : Int)
      · by_cases hy : (k : Int) ≤ high
        · go_wp2_with (go_at_call 24; refine (power_any k _ hlt).mono ?_; rintro e w' ⟨rfl, rfl⟩; rw [HQ.out])
          go_round
          case rel => exact ⟨k + 1, T + Q, by omega, by go_num, by go_num, by rw [hS.out]; simp [hx, hy]⟩
          case measure => simp [intOf]; omega
        · go_wp2
          go_round
          case rel => exact ⟨k + 1, T, by omega, by go_num, rfl, by rw [hS.out]; simp [hx, hy]⟩
          case measure => simp [intOf]; omega
      · go_wp2
        go_round
        case rel => exact ⟨k + 1, T, by omega, by go_num, rfl, by rw [hS.out]; simp [hx]⟩
        case measure => simp [intOf]; omega
    · have e : k = 16 := by omega
      subst e
      have HT := Lib.hid hT
      clear hT
      go_wp2
      go_ret
      exact ⟨ret_int (by rw [HT.out]; rfl), rfl⟩

set_option maxHeartbeats 1000000 in
theorem rpart_any (s t : Nat) (w : World) (hs : s < 65536) (ht : t < 65536) :
    Calls Try.prog 19 #[.int .u16 s, .int .u16 t] w fun e w' => e = .returned (.bool (Plain.part s t)) ∧ w = w' := by
  go_enter Try.func19, Try.ntmps19
  go_wp2
  go_loop [5] (fun i => ∃ k : Nat, k ≤ 16 ∧ i = .int .i64 k ∧ Plain.partTo s t k = true) (fun i => 16 - (intOf i).toNat)
  case atStart => exact ⟨0, Nat.zero_le _, rfl, rfl⟩
  case round =>
    obtain ⟨k, hk, rfl, hT⟩ := hrel
    by_cases hlt : k < 16
    · have hS : Hid (Plain.partTo s t (k + 1) = !(Plain.has s k && !Plain.has t k)) := by
        unfold Hid; rw [Plain.partTo, hT]; simp
      have hF : Hid (Plain.has s k = true → Plain.has t k = false → Plain.part s t = false) := by
        unfold Hid
        intro h1 h2
        cases hp : Plain.part s t
        · rfl
        · rw [Plain.has_nat _ _ hlt] at h1 h2
          have := (Plain.part_iff hs ht).1 hp k hlt h1
          rw [h2] at this; cases this
      clear hT
      generalize hX : Plain.has s k = x at *
      generalize hY : Plain.has t k = y at *
      have HX := Lib.hid hX
      have HY := Lib.hid hY
      clear hX hY
      cases x
      · go_wp2_with (go_at_call 9; refine (rhas_any s _ _ hs).mono ?_; rintro e w' ⟨rfl, rfl⟩; rw [HX.out])
        go_round
        case rel => exact ⟨k + 1, by omega, by go_num, by rw [hS.out]; rfl⟩
        case measure => simp [intOf]; omega
      · cases y
        · go_wp2_with fail
          refine (rhas_any s _ _ hs).mono ?_
          rintro e w' ⟨rfl, rfl⟩
          rw [HX.out]
          go_wp2_with fail
          refine (rhas_any t _ _ ht).mono ?_
          rintro e w' ⟨rfl, rfl⟩
          rw [HY.out]
          go_wp2
          go_ret
          exact ⟨ret_bool (hF.out (by trivial) (by trivial)).symm, rfl⟩
        · go_wp2_with fail
          refine (rhas_any s _ _ hs).mono ?_
          rintro e w' ⟨rfl, rfl⟩
          rw [HX.out]
          go_wp2_with fail
          refine (rhas_any t _ _ ht).mono ?_
          rintro e w' ⟨rfl, rfl⟩
          rw [HY.out]
          go_wp2
          go_round
          case rel => exact ⟨k + 1, by omega, by go_num, by rw [hS.out]; rfl⟩
          case measure => simp [intOf]; omega
    · have e : k = 16 := by omega
      subst e
      have HT := Lib.hid hT
      clear hT
      go_wp2
      go_ret
      exact ⟨ret_bool (by rw [← Plain.part_ref hs ht, HT.out]), rfl⟩

end Go.Proofs.Ythnboggjlppopaa
