/- The walks of the functions of bits and separatumref02 that make no memory: each returns what its plain function says. -/
import Derived.Test.YthnboggjlppopaaRows
import Derived.Test.YthnboggjlppopaaPlain
import Derived.Test.YthnboggjlppopaaBase
import Derived.BigQuiet
import Derived.Deep.QuietTactic
namespace Go.Proofs.Ythnboggjlppopaa
open Go.RowKit

set_option maxHeartbeats 400000 in
theorem may_any (i : Int) (w : World) :
    Calls Try.prog 23 #[.int .i64 i] w fun e w' => e = .returned (.bool (Plain.may i)) ∧ w = w' := by
  by_cases h0 : 0 ≤ i
  · by_cases h1 : i < 16
    · go_enter Try.func23, Try.ntmps23
      go_wp2
      go_ret
      exact ⟨by simp [Plain.may, h0, h1], rfl⟩
    · go_enter Try.func23, Try.ntmps23
      go_wp2
      go_ret
      exact ⟨by simp [Plain.may, h0, h1], rfl⟩
  · go_enter Try.func23, Try.ntmps23
    go_wp2
    go_ret
    exact ⟨ret_bool (by unfold Plain.may; simp; omega), rfl⟩

theorem has_eq (s : Nat) (i : Int) (hs : s < 65536) (h : Plain.may i = true) : (bits .and .u16 ((s : Int) / 2 ^ i.toNat) 1 == 1) = s.testBit i.toNat := by
  have hi := Plain.may_yes h
  have hd : ((s : Int) / 2 ^ i.toNat) = ((s / 2 ^ i.toNat : Nat) : Int) := by simp
  have hl : s / 2 ^ i.toNat < 65536 := Nat.lt_of_le_of_lt (Nat.div_le_self _ _) hs
  rw [hd, show (1 : Int) = ((1 : Nat) : Int) from rfl, u16_and_nat _ 1 hl (by omega), nat_mask1, ← Plain.test_eq]
  rw [Bool.eq_iff_iff]; simp; omega

set_option maxHeartbeats 400000 in
theorem has_any (s : Nat) (i : Int) (w : World) (hs : s < 65536) :
    Calls Try.prog 8 #[.int .u16 s, .int .i64 i] w fun e w' => e = .returned (.bool (Plain.has s i)) ∧ w = w' := by
  cases hm : Plain.may i
  · have hm' := Lib.hid hm
    clear hm
    go_enter Try.func8, Try.ntmps8
    go_wp2_with (go_at_call 23; refine (may_any _ _).mono ?_; rintro e w' ⟨rfl, rfl⟩; rw [hm'.out])
    go_ret
    exact ⟨by simp [Plain.has, hm'.out], rfl⟩
  · have hi := Plain.may_yes hm
    have he := has_eq s i hs hm
    have hm' := Lib.hid hm
    have he' := Lib.hid he
    have h0 : (0 : Int) ≤ i := hi.1
    clear hm he
    go_enter Try.func8, Try.ntmps8
    go_wp2_with (go_at_call 23; refine (may_any _ _).mono ?_; rintro e w' ⟨rfl, rfl⟩; rw [hm'.out])
    go_ret
    exact ⟨ret_bool (by rw [he'.out]; simp [Plain.has, hm'.out]), rfl⟩

set_option maxHeartbeats 400000 in
theorem power_any (n : Nat) (w : World) (hn : n < 16) :
    Calls Try.prog 24 #[.int .i64 n] w fun e w' => e = .returned (.int .u16 (2 ^ n : Nat)) ∧ w = w' := by
  go_enter Try.func24, Try.ntmps24
  go_wp2
  go_loop [3, 4] (fun p i => ∃ k P : Nat, k ≤ n ∧ i = .int .i64 k ∧ p = .int .u16 P ∧ P = 2 ^ k) (fun _ i => n - (intOf i).toNat)
  case atStart => exact ⟨0, 1, Nat.zero_le _, rfl, rfl, rfl⟩
  case round =>
    obtain ⟨k, P, hk, rfl, rfl, hP⟩ := hrel
    by_cases hlt : k < n
    · have hb : P ≤ 32768 := by rw [hP]; exact Plain.two_pow_le (by omega)
      have hb2 : 2 * P = 2 ^ (k + 1) := by rw [hP, Nat.pow_succ]; omega
      have hb3 : 2 * P ≤ 32768 := by rw [hb2]; exact Plain.two_pow_le (by omega)
      have HP := Lib.hid hb2
      clear hb2 hP
      go_wp2
      go_round
      case rel => exact ⟨k + 1, 2 * P, by omega, by go_num, by go_num, HP.out⟩
      case measure => simp [intOf]; omega
    · have e : k = n := by omega
      subst e
      have HP := Lib.hid hP
      clear hP
      go_wp2
      go_ret
      exact ⟨ret_int (by rw [HP.out]; simp), rfl⟩

theorem rhas_eq (s k : Nat) (hs : s < 65536) : ((IntKind.u16.wrap ((s : Int) / ((2 ^ k : Nat) : Int))).tmod 2 == 1) = s.testBit k := by
  have hd : (s : Int) / ((2 ^ k : Nat) : Int) = ((s / 2 ^ k : Nat) : Int) := rfl
  have hl : s / 2 ^ k < 65536 := Nat.lt_of_le_of_lt (Nat.div_le_self _ _) hs
  rw [hd, IntKind.wrap_u16, ← Plain.test_eq]
  generalize s / 2 ^ k = d at *
  rw [show (d : Int) % 65536 = (d : Int) by omega]
  have : (d : Int).tmod 2 = ((d % 2 : Nat) : Int) := rfl
  rw [this]
  rw [Bool.eq_iff_iff]; simp; omega

set_option maxHeartbeats 400000 in
theorem rhas_any (s : Nat) (i : Int) (w : World) (hs : s < 65536) :
    Calls Try.prog 9 #[.int .u16 s, .int .i64 i] w fun e w' => e = .returned (.bool (Plain.has s i)) ∧ w = w' := by
  by_cases h0 : 0 ≤ i
  · by_cases h1 : i < 16
    · obtain ⟨k, rfl⟩ := Int.eq_ofNat_of_zero_le h0
      have hk : k < 16 := by omega
      have he := Lib.hid (rhas_eq s k hs)
      have hp : 1 ≤ 2 ^ k := Nat.one_le_two_pow
      generalize hQ : 2 ^ k = Q at *
      have HQ := Lib.hid hQ
      clear hQ
      go_enter Try.func9, Try.ntmps9
      go_wp2_with (go_at_call 24; refine (power_any k _ hk).mono ?_; rintro e w' ⟨rfl, rfl⟩; rw [HQ.out])
      go_ret
      exact ⟨ret_bool (by rw [Plain.has_nat s k hk, ← he.out]), rfl⟩
    · go_enter Try.func9, Try.ntmps9
      go_wp2
      go_ret
      exact ⟨ret_bool (by unfold Plain.has Plain.may; simp; omega), rfl⟩
  · go_enter Try.func9, Try.ntmps9
    go_wp2
    go_ret
    exact ⟨ret_bool (by unfold Plain.has Plain.may; simp; omega), rfl⟩

set_option maxHeartbeats 400000 in
theorem part_any (s t : Nat) (w : World) (hs : s < 65536) (ht : t < 65536) :
    Calls Try.prog 18 #[.int .u16 s, .int .u16 t] w fun e w' => e = .returned (.bool (Plain.part s t)) ∧ w = w' := by
  go_enter Try.func18, Try.ntmps18
  go_wp2
  go_ret
  exact ⟨ret_bool (by rw [u16_andNot_nat s t hs ht]; unfold Plain.part; rw [Bool.eq_iff_iff]; simp), rfl⟩

end Go.Proofs.Ythnboggjlppopaa
