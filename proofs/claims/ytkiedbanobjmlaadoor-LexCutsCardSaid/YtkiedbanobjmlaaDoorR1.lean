/- The walks of the reference's letter, digit, value. -/
import Derived.Test.YtkiedbanobjmlaaDoorP5
set_option linter.unusedSimpArgs false
set_option linter.unusedVariables false
namespace Go.Proofs.YtkiedbanobjmlaaDoor.Lx
open Go.RowKit
open Pl

def isL (c : UInt8) : Bool := decide (65 ≤ c.toNat) && decide (c.toNat ≤ 90) || decide (97 ≤ c.toNat) && decide (c.toNat ≤ 122)
def isD (c : UInt8) : Bool := decide (48 ≤ c.toNat) && decide (c.toNat ≤ 57)
theorem u8_lt (c : UInt8) : c.toNat < 256 := UInt8.toNat_lt c

set_option maxHeartbeats 800000 in
theorem rletter_any (c : UInt8) (w : World) : Calls Tryd.prog 36 #[.int .u8 c.toNat] w fun e w' => e = .returned (.bool (isL c)) ∧ w = w' := by
  unfold isL
  generalize c.toNat = n
  go_enter Tryd.func36, Tryd.ntmps36
  go_wp2
  all_goals
    go_ret
    exact ⟨ret_bool (by rw [Bool.eq_iff_iff]; first | (simp only [Bool.or_eq_true, Bool.and_eq_true, decide_eq_true_eq, true_iff, Bool.false_eq_true, false_iff, not_or, not_and]; omega) | (simp; omega)), rfl⟩
set_option maxHeartbeats 800000 in
theorem rdigit_any (c : UInt8) (w : World) : Calls Tryd.prog 37 #[.int .u8 c.toNat] w fun e w' => e = .returned (.bool (isD c)) ∧ w = w' := by
  unfold isD
  generalize c.toNat = n
  go_enter Tryd.func37, Tryd.ntmps37
  go_wp2
  all_goals
    go_ret
    exact ⟨ret_bool (by rw [Bool.eq_iff_iff]; first | (simp only [Bool.or_eq_true, Bool.and_eq_true, decide_eq_true_eq, true_iff, Bool.false_eq_true, false_iff, not_or, not_and]; omega) | (simp; omega)), rfl⟩

/-- What a digit is worth, a capital letter too. -/
def dgt (c : UInt8) : Nat := if 65 ≤ c.toNat then c.toNat - 55 else c.toNat - 48
def valN (base most : Nat) : Nat → List UInt8 → Option Nat
  | n, [] => if n ≤ most then some n else none
  | n, c :: r => if base ≤ dgt c ∨ most < n then none else valN base most (n * base + dgt c) r
def valR (base most : Nat) (l : List UInt8) : Option Nat := if l = [] then none else valN base most 0 l
theorem empty_iff (s : ByteArray) : s.data.toList = [] ↔ s.size = 0 := by
  rw [← List.length_eq_zero_iff]; simp

set_option maxHeartbeats 3200000 in
theorem value_any (s : ByteArray) (base most : Nat) (hb : base ≤ 16) (hm : most ≤ 65535) (hs : s.size ≤ 9223372036854775806) (h48 : ∀ c ∈ s.data.toList, 48 ≤ c.toNat) (w : World) :
    Calls Tryd.prog 65 #[.string s, .int .i64 base, .int .i64 most] w fun e w' => (∃ m : Nat, m ≤ 2000000 ∧ e = .returned (.tuple #[.int .i64 m, .bool (valR base most s.data.toList).isSome]) ∧ (∀ v, valR base most s.data.toList = some v → m = v)) ∧ w = w' := by
  have H48 := Lib.hid h48
  clear h48
  go_enter Tryd.func65, Tryd.ntmps65
  go_wp2
  go_loop [8, 9] (fun v i => ∃ (n k : Nat), k ≤ s.size ∧ i = .int .i64 k ∧ v = .int .i64 n ∧ n ≤ 2000000 ∧ Hid (valN base most 0 s.data.toList = valN base most n (s.data.toList.drop k))) (fun _ i => s.size - (intOf i).toNat)
  case atStart => exact ⟨0, 0, Nat.zero_le _, rfl, rfl, by omega, Lib.hid rfl⟩
  case round =>
    obtain ⟨n, k, hk, rfl, rfl, hn, HB⟩ := hrel
    by_cases hlt : k < s.size
    · have HD := Lib.hid (drop_cons s k hlt)
      have hc := H48.out s[k] (by rw [← List.take_append_drop k s.data.toList, HD.out]; simp)
      have hc2 := u8_lt s[k]
      have HR : Hid (valR base most s.data.toList = valN base most 0 s.data.toList) := Lib.hid (by unfold valR; rw [if_neg (by intro e; rw [e] at HD; have := HD.out; simp at this)])
      have HV := Lib.hid (show valN base most n (s.data.toList.drop k) = if base ≤ dgt s[k] ∨ most < n then none else valN base most (n * base + dgt s[k]) (s.data.toList.drop (k + 1)) by rw [HD.out]; rfl)
      have hdg : (65 ≤ s[k].toNat → dgt s[k] = s[k].toNat - 55) ∧ (s[k].toNat < 65 → dgt s[k] = s[k].toNat - 48) := ⟨fun h => by unfold dgt; rw [if_pos h], fun h => by unfold dgt; rw [if_neg (by omega)]⟩
      have hnb : n ≤ most → n * base ≤ 1048560 := fun h => by
        have := Nat.mul_le_mul (Nat.le_trans h hm) hb
        omega
      have hnc : ((n : Int) * (base : Int)) = ((n * base : Nat) : Int) := by simp
      generalize dgt s[k] = dd at *
      generalize n * base = nb at *
      generalize hx : s[k].toNat = x at *
      clear HD H48
      by_cases bad : base ≤ dd ∨ most < n
      · rw [if_pos bad] at HV
        have HN := Lib.hid (show valR base most s.data.toList = none by rw [HR.out, HB.out, HV.out])
        clear HR HB HV hnc
        go_wp2
        all_goals first
          | (exfalso; omega)
          | (go_ret2; exact ⟨⟨0, by omega, by rw [HN.out]; rfl, fun v hv => by rw [HN.out] at hv; cases hv⟩, rfl⟩)
      · rw [if_neg bad] at HV
        have hnb' := hnb (by omega)
        have HN := Lib.hid (show valN base most 0 s.data.toList = valN base most (nb + dd) (s.data.toList.drop (k + 1)) by rw [HB.out, HV.out])
        clear HR HB HV hnb
        go_wp2
        all_goals first
          | (exfalso; omega)
          | (go_round
             case rel => exact ⟨nb + dd, k + 1, by omega, by go_num, by go_num, by omega, HN⟩
             case measure => simp [intOf]; omega)
    · have hkS : k = s.size := by omega
      subst hkS
      have HE := Lib.hid (show valN base most 0 s.data.toList = if n ≤ most then some n else none by rw [HB.out, List.drop_of_length_le (by simp)]; rfl)
      have hR : valR base most s.data.toList = if s.size = 0 then none else if n ≤ most then some n else none := by
        unfold valR
        rw [HE.out]
        by_cases h0 : s.size = 0
        · rw [if_pos ((empty_iff s).2 h0), if_pos h0]
        · rw [if_neg (fun e => h0 ((empty_iff s).1 e)), if_neg h0]
      have HR := Lib.hid hR
      clear hR HE HB H48
      have hl : s.toList = s.data.toList := ByteArray.toList_eq s
      by_cases h0 : s.size = 0
      · have hnil : s.toList = [] := by rw [hl]; exact (empty_iff s).2 h0
        have HN := Lib.hid (show valR base most s.data.toList = none by rw [HR.out, if_pos h0])
        clear HR hl
        go_wp2
        all_goals
          go_ret2
          exact ⟨⟨n, hn, by rw [HN.out]; rfl, fun v hv => by rw [HN.out] at hv; cases hv⟩, rfl⟩
      · have hnil : ¬ s.toList = [] := by rw [hl]; exact fun e => h0 ((empty_iff s).1 e)
        by_cases hle : n ≤ most
        · have HN := Lib.hid (show valR base most s.data.toList = some n by rw [HR.out, if_neg h0, if_pos hle])
          clear HR hl
          have hle' : decide ((n : Int) ≤ (most : Int)) = true := by simp; omega
          go_wp2
          all_goals
            go_ret2
            exact ⟨⟨n, hn, by rw [HN.out]; simp; try omega, fun v hv => by rw [HN.out] at hv; injection hv⟩, rfl⟩
        · have HN := Lib.hid (show valR base most s.data.toList = none by rw [HR.out, if_neg h0, if_neg hle])
          clear HR hl
          go_wp2
          all_goals
            go_ret2
            exact ⟨⟨n, hn, by rw [HN.out]; simp; try omega, fun v hv => by rw [HN.out] at hv; cases hv⟩, rfl⟩
end Go.Proofs.YtkiedbanobjmlaaDoor.Lx
