/- The walks of the program's letter, digit, hex, part; of run, at each function that it is handed. -/
import Derived.Test.YtkiedbanobjmlaaDoorR8
set_option linter.unusedSimpArgs false
set_option linter.unusedVariables false
namespace Go.Proofs.YtkiedbanobjmlaaDoor.Lx
open Go.RowKit
open Pl Fl

theorem u8_eqI (c : UInt8) (k : Nat) (h : k < 256) : ((c.toNat : Int) == (k : Int)) = (c == UInt8.ofNat k) := by
  rw [Bool.eq_iff_iff, beq_iff_eq, beq_iff_eq]
  constructor
  · intro e; apply UInt8.toNat_inj.1; rw [UInt8.toNat_ofNat']; omega
  · intro e; rw [e, UInt8.toNat_ofNat']; omega
def isB' (c : UInt8) : Bool := c == 9 || c == 10 || c == 13 || c == 32
set_option maxHeartbeats 800000 in
theorem letter_any (c : UInt8) (w : World) : Calls Tryd.prog 33 #[.int .u8 c.toNat] w fun e w' => e = .returned (.bool (isL c)) ∧ w = w' := by
  unfold isL
  generalize c.toNat = n
  go_enter Tryd.func33, Tryd.ntmps33
  go_wp2
  all_goals
    go_ret
    exact ⟨ret_bool (by rw [Bool.eq_iff_iff]; first | (simp only [Bool.or_eq_true, Bool.and_eq_true, decide_eq_true_eq, true_iff, Bool.false_eq_true, false_iff, not_or, not_and]; omega) | (simp; omega)), rfl⟩
set_option maxHeartbeats 800000 in
theorem digit_any (c : UInt8) (w : World) : Calls Tryd.prog 53 #[.int .u8 c.toNat] w fun e w' => e = .returned (.bool (isD c)) ∧ w = w' := by
  unfold isD
  generalize c.toNat = n
  go_enter Tryd.func53, Tryd.ntmps53
  go_wp2
  all_goals
    go_ret
    exact ⟨ret_bool (by rw [Bool.eq_iff_iff]; first | (simp only [Bool.or_eq_true, Bool.and_eq_true, decide_eq_true_eq, true_iff, Bool.false_eq_true, false_iff, not_or, not_and]; omega) | (simp; omega)), rfl⟩
set_option maxHeartbeats 1600000 in
theorem hex_any (c : UInt8) (w : World) : Calls Tryd.prog 71 #[.int .u8 c.toNat] w fun e w' => e = .returned (.bool (isX c)) ∧ w = w' := by
  have HD := Lib.hid (digit_any c w)
  have HX := Lib.hid (show isX c = (isD c || decide (65 ≤ c.toNat) && decide (c.toNat ≤ 70)) from rfl)
  go_enter Tryd.func71, Tryd.ntmps71
  go_wp2_with fail
  ((with_reducible refine HD.out.mono ?_); rintro e w1 ⟨rfl, rfl⟩)
  cases hd : isD c
  · by_cases q1 : 65 ≤ c.toNat
    · by_cases q2 : c.toNat ≤ 70
      · have HR := Lib.hid (show isX c = true by rw [HX.out, hd]; simp [q1, q2])
        go_wp2
        all_goals
          go_ret
          exact ⟨by rw [HR.out]; simp; try omega, rfl⟩
      · have HR := Lib.hid (show isX c = false by rw [HX.out, hd]; simp; omega)
        go_wp2
        all_goals
          go_ret
          exact ⟨by rw [HR.out]; simp; try omega, rfl⟩
    · have HR := Lib.hid (show isX c = false by rw [HX.out, hd]; simp; omega)
      go_wp2
      all_goals
        go_ret
        exact ⟨by rw [HR.out]; rfl, rfl⟩
  · have HR := Lib.hid (show isX c = true by rw [HX.out, hd]; rfl)
    go_wp2
    go_ret
    exact ⟨by rw [HR.out]; rfl, rfl⟩
set_option maxHeartbeats 1600000 in
theorem part_any (c : UInt8) (w : World) : Calls Tryd.prog 35 #[.int .u8 c.toNat] w fun e w' => e = .returned (.bool (isP c)) ∧ w = w' := by
  have HL := Lib.hid (letter_any c w)
  have HD := Lib.hid (digit_any c w)
  have HP := Lib.hid (show isP c = (isL c || isD c) from rfl)
  go_enter Tryd.func35, Tryd.ntmps35
  go_wp2_with fail
  ((with_reducible refine HL.out.mono ?_); rintro e w1 ⟨rfl, rfl⟩)
  cases hl : isL c
  · go_wp2_with fail
    ((with_reducible refine HD.out.mono ?_); rintro e w1 ⟨rfl, rfl⟩)
    cases hd : isD c
    all_goals
      have HR := Lib.hid (show isP c = _ by rw [HP.out, hl, hd])
      go_wp2
      go_ret
      exact ⟨by rw [HR.out]; rfl, rfl⟩
  · have HR := Lib.hid (show isP c = true by rw [HP.out, hl]; rfl)
    go_wp2
    go_ret
    exact ⟨by rw [HR.out]; rfl, rfl⟩
def isBl (c : UInt8) : Bool := c == 32 || c == 9 || c == 10 || c == 13
set_option maxHeartbeats 1600000 in
theorem blankF_any (c : UInt8) (w : World) : Calls Tryd.prog 59 #[.int .u8 c.toNat] w fun e w' => e = .returned (.bool (isBl c)) ∧ w = w' := by
  have t9 : ((c.toNat : Int) == 9) = (c == 9) := u8_eqI c 9 (by omega)
  have t10 : ((c.toNat : Int) == 10) = (c == 10) := u8_eqI c 10 (by omega)
  have t13 : ((c.toNat : Int) == 13) = (c == 13) := u8_eqI c 13 (by omega)
  have t32 : ((c.toNat : Int) == 32) = (c == 32) := u8_eqI c 32 (by omega)
  have HB := Lib.hid (show isBl c = (c == 32 || c == 9 || c == 10 || c == 13) from rfl)
  generalize isBl c = r at *
  generalize (c == 9) = e9 at *
  generalize (c == 10) = e10 at *
  generalize (c == 13) = e13 at *
  generalize (c == 32) = e32 at *
  go_enter Tryd.func59, Tryd.ntmps59
  cases e32
  · cases e9
    · cases e10
      · cases e13
        all_goals
          go_wp2
          go_ret
          exact ⟨by rw [HB.out]; rfl, rfl⟩
      · go_wp2
        go_ret
        exact ⟨by rw [HB.out]; rfl, rfl⟩
    · go_wp2
      go_ret
      exact ⟨by rw [HB.out]; rfl, rfl⟩
  · go_wp2
    go_ret
    exact ⟨by rw [HB.out]; rfl, rfl⟩
theorem isBl_eq : isBl = isB' := by
  funext c; unfold isBl isB'
  cases (c == 32) <;> cases (c == 9) <;> cases (c == 10) <;> cases (c == 13) <;> rfl
set_option maxHeartbeats 1600000 in
theorem textF_any (c : UInt8) (s : ByteArray) (h0 : 0 < s.size) (g : Nat) (w : World) (hg : w.cell? ⟨g, 0, none⟩ = some (.string s)) : Calls Tryd.prog 73 #[.int .u8 c.toNat, .pointer (some ⟨g, 0, none⟩)] w fun e w' => e = .returned (.bool (isQ s[0] c)) ∧ w = w' := by
  have i0 : (0 : Int) < (s.size : Int) := by omega
  have t10 : ((c.toNat : Int) != 10) = (c != 10) := by rw [bne, bne, show ((c.toNat : Int) == 10) = (c == 10) from u8_eqI c 10 (by omega)]
  have tq : ((c.toNat : Int) != (s[0].toNat : Int)) = (c != s[0]) := by
    rw [bne, bne]
    congr 1
    rw [Bool.eq_iff_iff, beq_iff_eq, beq_iff_eq]
    exact ⟨fun e => UInt8.toNat_inj.1 (by omega), fun e => by rw [e]⟩
  have HQ := Lib.hid (show isQ s[0] c = (c != s[0] && c != 10) from rfl)
  generalize isQ s[0] c = q at *
  go_enter Tryd.func73, Tryd.ntmps73
  generalize (c != s[0]) = b1 at *
  generalize (c != 10) = b2 at *
  cases b1
  · go_wp2
    go_ret
    exact ⟨by rw [HQ.out]; rfl, rfl⟩
  · cases b2
    all_goals
      go_wp2
      go_ret
      exact ⟨by rw [HQ.out]; rfl, rfl⟩
set_option maxHeartbeats 3200000 in
theorem run_part (s : ByteArray) (hs : s.size ≤ 9223372036854775800) (w : World) : Calls Tryd.prog 34 #[.string s, .func (.func 35) #[] #[]] w fun e w' => e = .returned (.int .i64 (runN isP s.data.toList : Nat)) ∧ w = w' := by
  have HF := Lib.hid (fun (c : UInt8) => part_any c w)
  go_enter Tryd.func34, Tryd.ntmps34
  go_wp2
  go_loop [5] (fun i => ∃ k : Nat, k ≤ s.size ∧ i = .int .i64 k ∧ Hid (runN isP s.data.toList = k + runN isP (s.data.toList.drop k))) (fun i => s.size - (intOf i).toNat)
  case atStart => exact ⟨0, Nat.zero_le _, rfl, Lib.hid (by simp)⟩
  case round =>
    obtain ⟨k, hk, rfl, HB⟩ := hrel
    have x0 : (0 : Int) ≤ (k : Int) := by omega
    by_cases hlt : k < s.size
    · have HD := Lib.hid (drop_cons s k hlt)
      have x1 : (k : Int) < (s.size : Int) := by omega
      go_wp2_with fail
      ((with_reducible refine (HF.out _).mono ?_); rintro e w1 ⟨rfl, rfl⟩)
      cases hp : isP s[k]
      · have HK := Lib.hid (show runN isP s.data.toList = k by rw [HB.out, HD.out, runN_no hp]; rfl)
        clear HB HD hp
        go_wp2
        go_ret
        exact ⟨ret_int (by rw [HK.out]), rfl⟩
      · have HN := Lib.hid (show runN isP s.data.toList = (k + 1) + runN isP (s.data.toList.drop (k + 1)) by rw [HB.out, HD.out, runN_yes hp]; omega)
        clear HB HD hp
        go_wp2
        go_round
        case rel => exact ⟨k + 1, by omega, by go_num, HN⟩
        case measure => simp [intOf]; omega
    · have hks : k = s.size := by omega
      have HK := Lib.hid (show runN isP s.data.toList = s.size by rw [HB.out, List.drop_of_length_le (by simp; omega), runN_nil]; omega)
      clear HB
      go_wp2
      go_ret
      exact ⟨ret_int (by rw [HK.out]), rfl⟩
set_option maxHeartbeats 3200000 in
theorem run_hex (s : ByteArray) (hs : s.size ≤ 9223372036854775800) (w : World) : Calls Tryd.prog 34 #[.string s, .func (.func 71) #[] #[]] w fun e w' => e = .returned (.int .i64 (runN isX s.data.toList : Nat)) ∧ w = w' := by
  have HF := Lib.hid (fun (c : UInt8) => hex_any c w)
  go_enter Tryd.func34, Tryd.ntmps34
  go_wp2
  go_loop [5] (fun i => ∃ k : Nat, k ≤ s.size ∧ i = .int .i64 k ∧ Hid (runN isX s.data.toList = k + runN isX (s.data.toList.drop k))) (fun i => s.size - (intOf i).toNat)
  case atStart => exact ⟨0, Nat.zero_le _, rfl, Lib.hid (by simp)⟩
  case round =>
    obtain ⟨k, hk, rfl, HB⟩ := hrel
    have x0 : (0 : Int) ≤ (k : Int) := by omega
    by_cases hlt : k < s.size
    · have HD := Lib.hid (drop_cons s k hlt)
      have x1 : (k : Int) < (s.size : Int) := by omega
      go_wp2_with fail
      ((with_reducible refine (HF.out _).mono ?_); rintro e w1 ⟨rfl, rfl⟩)
      cases hp : isX s[k]
      · have HK := Lib.hid (show runN isX s.data.toList = k by rw [HB.out, HD.out, runN_no hp]; rfl)
        clear HB HD hp
        go_wp2
        go_ret
        exact ⟨ret_int (by rw [HK.out]), rfl⟩
      · have HN := Lib.hid (show runN isX s.data.toList = (k + 1) + runN isX (s.data.toList.drop (k + 1)) by rw [HB.out, HD.out, runN_yes hp]; omega)
        clear HB HD hp
        go_wp2
        go_round
        case rel => exact ⟨k + 1, by omega, by go_num, HN⟩
        case measure => simp [intOf]; omega
    · have hks : k = s.size := by omega
      have HK := Lib.hid (show runN isX s.data.toList = s.size by rw [HB.out, List.drop_of_length_le (by simp; omega), runN_nil]; omega)
      clear HB
      go_wp2
      go_ret
      exact ⟨ret_int (by rw [HK.out]), rfl⟩
set_option maxHeartbeats 3200000 in
theorem run_blank (s : ByteArray) (hs : s.size ≤ 9223372036854775800) (w : World) : Calls Tryd.prog 34 #[.string s, .func (.func 59) #[] #[]] w fun e w' => e = .returned (.int .i64 (runN isBl s.data.toList : Nat)) ∧ w = w' := by
  have HF := Lib.hid (fun (c : UInt8) => blankF_any c w)
  go_enter Tryd.func34, Tryd.ntmps34
  go_wp2
  go_loop [5] (fun i => ∃ k : Nat, k ≤ s.size ∧ i = .int .i64 k ∧ Hid (runN isBl s.data.toList = k + runN isBl (s.data.toList.drop k))) (fun i => s.size - (intOf i).toNat)
  case atStart => exact ⟨0, Nat.zero_le _, rfl, Lib.hid (by simp)⟩
  case round =>
    obtain ⟨k, hk, rfl, HB⟩ := hrel
    have x0 : (0 : Int) ≤ (k : Int) := by omega
    by_cases hlt : k < s.size
    · have HD := Lib.hid (drop_cons s k hlt)
      have x1 : (k : Int) < (s.size : Int) := by omega
      go_wp2_with fail
      ((with_reducible refine (HF.out _).mono ?_); rintro e w1 ⟨rfl, rfl⟩)
      cases hp : isBl s[k]
      · have HK := Lib.hid (show runN isBl s.data.toList = k by rw [HB.out, HD.out, runN_no hp]; rfl)
        clear HB HD hp
        go_wp2
        go_ret
        exact ⟨ret_int (by rw [HK.out]), rfl⟩
      · have HN := Lib.hid (show runN isBl s.data.toList = (k + 1) + runN isBl (s.data.toList.drop (k + 1)) by rw [HB.out, HD.out, runN_yes hp]; omega)
        clear HB HD hp
        go_wp2
        go_round
        case rel => exact ⟨k + 1, by omega, by go_num, HN⟩
        case measure => simp [intOf]; omega
    · have hks : k = s.size := by omega
      have HK := Lib.hid (show runN isBl s.data.toList = s.size by rw [HB.out, List.drop_of_length_le (by simp; omega), runN_nil]; omega)
      clear HB
      go_wp2
      go_ret
      exact ⟨ret_int (by rw [HK.out]), rfl⟩
set_option maxHeartbeats 3200000 in
theorem run_text {t : ByteArray} (h0 : 0 < t.size) (g : Nat) (s : ByteArray) (hs : s.size ≤ 9223372036854775800) (w : World) (hg : w.cell? ⟨g, 0, none⟩ = some (.string t)) : Calls Tryd.prog 34 #[.string s, .func (.func 73) #[] #[.pointer (some ⟨g, 0, none⟩)]] w fun e w' => e = .returned (.int .i64 (runN (isQ t[0]) s.data.toList : Nat)) ∧ w = w' := by
  have HF := Lib.hid (fun (c : UInt8) => textF_any c t h0 g w hg)
  go_enter Tryd.func34, Tryd.ntmps34
  go_wp2
  go_loop [5] (fun i => ∃ k : Nat, k ≤ s.size ∧ i = .int .i64 k ∧ Hid (runN (isQ t[0]) s.data.toList = k + runN (isQ t[0]) (s.data.toList.drop k))) (fun i => s.size - (intOf i).toNat)
  case atStart => exact ⟨0, Nat.zero_le _, rfl, Lib.hid (by simp)⟩
  case round =>
    obtain ⟨k, hk, rfl, HB⟩ := hrel
    have x0 : (0 : Int) ≤ (k : Int) := by omega
    by_cases hlt : k < s.size
    · have HD := Lib.hid (drop_cons s k hlt)
      have x1 : (k : Int) < (s.size : Int) := by omega
      go_wp2_with fail
      ((with_reducible refine (HF.out _).mono ?_); rintro e w1 ⟨rfl, rfl⟩)
      cases hp : (isQ t[0]) s[k]
      · have HK := Lib.hid (show runN (isQ t[0]) s.data.toList = k by rw [HB.out, HD.out, runN_no hp]; rfl)
        clear HB HD hp
        go_wp2
        go_ret
        exact ⟨ret_int (by rw [HK.out]), rfl⟩
      · have HN := Lib.hid (show runN (isQ t[0]) s.data.toList = (k + 1) + runN (isQ t[0]) (s.data.toList.drop (k + 1)) by rw [HB.out, HD.out, runN_yes hp]; omega)
        clear HB HD hp
        go_wp2
        go_round
        case rel => exact ⟨k + 1, by omega, by go_num, HN⟩
        case measure => simp [intOf]; omega
    · have hks : k = s.size := by omega
      have HK := Lib.hid (show runN (isQ t[0]) s.data.toList = s.size by rw [HB.out, List.drop_of_length_le (by simp; omega), runN_nil]; omega)
      clear HB
      go_wp2
      go_ret
      exact ⟨ret_int (by rw [HK.out]), rfl⟩
end Go.Proofs.YtkiedbanobjmlaaDoor.Lx
