/- The walks of the program's letter, digit, hex, part; of run, at each function that it is handed. -/
import Derived.Test.YtibpekgmgidebaaR8
set_option linter.unusedSimpArgs false
set_option linter.unusedVariables false
namespace Go.Proofs.Ytibpekgmgidebaa.Lx
open Go.RowKit
open Pl Fl

theorem u8_eqI (c : UInt8) (k : Nat) (h : k < 256) : ((c.toNat : Int) == (k : Int)) = (c == UInt8.ofNat k) := by
  rw [Bool.eq_iff_iff, beq_iff_eq, beq_iff_eq]
  constructor
  · intro e; apply UInt8.toNat_inj.1; rw [UInt8.toNat_ofNat']; omega
  · intro e; rw [e, UInt8.toNat_ofNat']; omega
def isB' (c : UInt8) : Bool := c == 9 || c == 10 || c == 13 || c == 32
set_option maxHeartbeats 800000 in
theorem letter_any (c : UInt8) (w : World) : Calls Try.prog 33 #[.int .u8 c.toNat] w fun e w' => e = .returned (.bool (isL c)) ∧ w = w' := by
  unfold isL
  generalize c.toNat = n
  go_enter Try.func33, Try.ntmps33
  go_wp2
  all_goals
    go_ret
    exact ⟨ret_bool (by rw [Bool.eq_iff_iff]; first | (simp only [Bool.or_eq_true, Bool.and_eq_true, decide_eq_true_eq, true_iff, Bool.false_eq_true, false_iff, not_or, not_and]; omega) | (simp; omega)), rfl⟩
set_option maxHeartbeats 800000 in
theorem digit_any (c : UInt8) (w : World) : Calls Try.prog 41 #[.int .u8 c.toNat] w fun e w' => e = .returned (.bool (isD c)) ∧ w = w' := by
  unfold isD
  generalize c.toNat = n
  go_enter Try.func41, Try.ntmps41
  go_wp2
  all_goals
    go_ret
    exact ⟨ret_bool (by rw [Bool.eq_iff_iff]; first | (simp only [Bool.or_eq_true, Bool.and_eq_true, decide_eq_true_eq, true_iff, Bool.false_eq_true, false_iff, not_or, not_and]; omega) | (simp; omega)), rfl⟩
set_option maxHeartbeats 1600000 in
theorem part_any (c : UInt8) (w : World) : Calls Try.prog 35 #[.int .u8 c.toNat] w fun e w' => e = .returned (.bool (isP c)) ∧ w = w' := by
  have HL := Lib.hid (letter_any c w)
  have HD := Lib.hid (digit_any c w)
  have HP := Lib.hid (show isP c = (isL c || isD c) from rfl)
  go_enter Try.func35, Try.ntmps35
  go_wp2_with fail
  ((with_reducible refine HL.out.mono ?_); rintro e w1 ⟨rfl, rfl⟩)
  cases hl : isL c
  · go_wp2_with fail
    ((with_reducible refine HD.out.mono ?_); rintro e w1 ⟨rfl, rfl⟩)
    cases hd : isD c
    all_goals
      have HR := Lib.hid (show isP c = _ by rw [HP.out, hl, hd])
      go_wp2
      go_ret
      exact ⟨by rw [HR.out]; rfl, rfl⟩
  · have HR := Lib.hid (show isP c = true by rw [HP.out, hl]; rfl)
    go_wp2
    go_ret
    exact ⟨by rw [HR.out]; rfl, rfl⟩
def isBl (c : UInt8) : Bool := c == 32 || c == 9 || c == 10 || c == 13
theorem isBl_eq : isBl = isB' := by
  funext c; unfold isBl isB'
  cases (c == 32) <;> cases (c == 9) <;> cases (c == 10) <;> cases (c == 13) <;> rfl
set_option maxHeartbeats 3200000 in
theorem run_part (s : ByteArray) (hs : s.size ≤ 9223372036854775800) (w : World) : Calls Try.prog 34 #[.string s, .func (.func 35) #[] #[]] w fun e w' => e = .returned (.int .i64 (runN isP s.data.toList : Nat)) ∧ w = w' := by
  have HF := Lib.hid (fun (c : UInt8) => part_any c w)
  go_enter Try.func34, Try.ntmps34
  go_wp2
  go_loop [5] (fun i => ∃ k : Nat, k ≤ s.size ∧ i = .int .i64 k ∧ Hid (runN isP s.data.toList = k + runN isP (s.data.toList.drop k))) (fun i => s.size - (intOf i).toNat)
  case atStart => exact ⟨0, Nat.zero_le _, rfl, Lib.hid (by simp)⟩
  case round =>
    obtain ⟨k, hk, rfl, HB⟩ := hrel
    have x0 : (0 : Int) ≤ (k : Int) := by omega
    by_cases hlt : k < s.size
    · have HD := Lib.hid (drop_cons s k hlt)
      have x1 : (k : Int) < (s.size : Int) := by omega
      go_wp2_with fail
      ((with_reducible refine (HF.out _).mono ?_); rintro e w1 ⟨rfl, rfl⟩)
      cases hp : isP s[k]
      · have HK := Lib.hid (show runN isP s.data.toList = k by rw [HB.out, HD.out, runN_no hp]; rfl)
        clear HB HD hp
        go_wp2
        go_ret
        exact ⟨ret_int (by rw [HK.out]), rfl⟩
      · have HN := Lib.hid (show runN isP s.data.toList = (k + 1) + runN isP (s.data.toList.drop (k + 1)) by rw [HB.out, HD.out, runN_yes hp]; omega)
        clear HB HD hp
        go_wp2
        go_round
        case rel => exact ⟨k + 1, by omega, by go_num, HN⟩
        case measure => simp [intOf]; omega
    · have hks : k = s.size := by omega
      have HK := Lib.hid (show runN isP s.data.toList = s.size by rw [HB.out, List.drop_of_length_le (by simp; omega), runN_nil]; omega)
      clear HB
      go_wp2
      go_ret
      exact ⟨ret_int (by rw [HK.out]), rfl⟩
end Go.Proofs.Ytibpekgmgidebaa.Lx
