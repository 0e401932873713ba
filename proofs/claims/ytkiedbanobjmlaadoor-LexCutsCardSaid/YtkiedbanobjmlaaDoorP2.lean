/- The walks of Line, Column, step, Behind, Before. -/
import Derived.Test.YtkiedbanobjmlaaDoorP1
set_option linter.unusedSimpArgs false
set_option linter.unusedVariables false
namespace Go.Proofs.YtkiedbanobjmlaaDoor.Pl
open Go.RowKit
open Fl

theorem isN_part {p : Nat × Nat} (h : isN p = true) : inN p.1 = true ∧ inN p.2 = true := by simpa [isN] using h
theorem isN_bd {p : Nat × Nat} (h : isN p = true) : (1 ≤ p.1 ∧ p.1 ≤ 1073741824) ∧ (1 ≤ p.2 ∧ p.2 ≤ 1073741824) := ⟨inN_in (isN_part h).1, inN_in (isN_part h).2⟩

def stepN (p : Nat × Nat) (c : UInt8) : Nat × Nat := if c.toNat = 10 then (p.1 + 1, 1) else (p.1, p.2 + 1)
theorem stepN_bd {p : Nat × Nat} (h : isN p = true) (c : UInt8) : (stepN p c).1 ≤ 1073741825 ∧ (stepN p c).2 ≤ 1073741825 := by
  have := isN_bd h
  unfold stepN; split <;> simp <;> omega
theorem add_f (w : World) (n : Nat) (hn : n < 4294967296) : (binOp .add 63 (.float .f64 (fl n)) (.float .f64 4607182418800017408)).run Tryd.prog w = .ok (.float .f64 (fl (n + 1))) w := by
  refine run_float_arith w .add _ .f64 _ _ _ ?_
  rw [← fl_1]; exact fl_add n 1 (by omega)
theorem add_c (w : World) (l c : Nat) (hl : l < 4294967296) (hc : c < 4294967296) : (binOp .add 24 (.complex .f64 (fl l) (fl c)) (.complex .f64 0 4607182418800017408)).run Tryd.prog w = .ok (.complex .f64 (fl l) (fl (c + 1))) w := by
  refine run_complex_sum w .add (.inl rfl) _ .f64 _ _ _ _ _ _ ?_
  unfold cSumBits
  rw [show floatBits .add .f64 (fl l) 0 = some (fl l) from by have := fl_add l 0 (by omega); rwa [fl_0] at this]
  rw [show floatBits .add .f64 (fl c) 4607182418800017408 = some (fl (c + 1)) from by rw [← fl_1]; exact fl_add c 1 (by omega)]
  rfl
set_option maxHeartbeats 400000 in
theorem step_any (p : Nat × Nat) (c : UInt8) (w : World) (h1 : p.1 < 4294967296) (h2 : p.2 < 4294967296) : Calls Tryd.prog 42 #[C p, .int .u8 c.toNat] w fun e w' => e = .returned (C (stepN p c)) ∧ w = w' := by
  unfold C
  have ha := fun w => add_f w p.1 h1
  have hb := fun w => add_c w p.1 p.2 h1 h2
  by_cases h : c.toNat = 10
  · have HS := Lib.hid (show stepN p c = (p.1 + 1, 1) from by unfold stepN; rw [if_pos h])
    have hc : ((c.toNat : Int) == 10) = true := by simp [h]
    clear hb h h1 h2
    generalize fl p.1 = F at *
    generalize fl p.2 = G at *
    go_enter Tryd.func42, Tryd.ntmps42
    go_wp2
    go_ret
    exact ⟨ret_c (by rw [HS.out]) (by rw [HS.out]; exact fl_1.symm), rfl⟩
  · have HS := Lib.hid (show stepN p c = (p.1, p.2 + 1) from by unfold stepN; rw [if_neg h])
    have hc : ((c.toNat : Int) == 10) = false := by simp; omega
    clear ha h h1 h2
    generalize hF : fl p.1 = F at *
    generalize fl p.2 = G at *
    go_enter Tryd.func42, Tryd.ntmps42
    go_wp2
    go_ret
    exact ⟨ret_c (by rw [HS.out, ← hF]) (by rw [HS.out]), rfl⟩

/-- The place behind a text. -/
def behN (p : Nat × Nat) : List UInt8 → Nat × Nat
  | [] => if isN p then p else (0, 0)
  | c :: l => if isN p then behN (stepN p c) l else (0, 0)
theorem behN_out {p : Nat × Nat} (h : isN p = false) : ∀ l, behN p l = (0, 0)
  | [] => by simp [behN, h]
  | c :: l => by simp [behN, h]
theorem behN_cons {p : Nat × Nat} (h : isN p = true) (c : UInt8) (l : List UInt8) : behN p (c :: l) = behN (stepN p c) l := by simp [behN, h]
theorem drop_cons (s : ByteArray) (k : Nat) (h : k < s.size) : s.data.toList.drop k = s[k] :: s.data.toList.drop (k + 1) := by
  have hl : k < s.data.toList.length := by simpa using h
  rw [List.drop_eq_getElem_cons hl]
  rfl

set_option maxHeartbeats 1600000 in
theorem Behind_any (p : Nat × Nat) (s : ByteArray) (w : World) (h1 : p.1 < 2147483648) (h2 : p.2 < 2147483648) (hs : s.size ≤ 9223372036854775806) : Calls Tryd.prog 47 #[C p, .string s] w fun e w' => e = .returned (C (behN p s.data.toList)) ∧ w = w' := by
  go_enter Tryd.func47, Tryd.ntmps47
  go_wp2
  go_loop [0, 5] (fun v i => ∃ (q : Nat × Nat) (k : Nat), k ≤ s.size ∧ i = .int .i64 k ∧ v = C q ∧ q.1 < 2147483648 ∧ q.2 < 2147483648 ∧ Hid (behN p s.data.toList = behN q (s.data.toList.drop k))) (fun _ i => s.size - (intOf i).toNat)
  case atStart => exact ⟨p, 0, Nat.zero_le _, rfl, rfl, h1, h2, Lib.hid rfl⟩
  case round =>
    obtain ⟨q, k, hk, rfl, rfl, q1, q2, HB⟩ := hrel
    have HI := Lib.hid (is_any q w (by omega) (by omega))
    by_cases hlt : k < s.size
    · have HD := Lib.hid (drop_cons s k hlt)
      cases a : isN q
      · rw [a] at HI
        have HR := Lib.hid (show behN p s.data.toList = (0, 0) from by rw [HB.out, behN_out a])
        clear HB HD a
        go_wp2_with fail
        ((with_reducible refine HI.out.mono ?_); rintro e w' ⟨rfl, rfl⟩)
        go_wp2_with fail
        ((with_reducible refine HI.out.mono ?_); rintro e w' ⟨rfl, rfl⟩)
        go_wp2
        go_ret
        exact ⟨ret_c0 HR.out, rfl⟩
      · rw [a] at HI
        have HS := Lib.hid (step_any q s[k] w (by omega) (by omega))
        have HN := Lib.hid (show behN p s.data.toList = behN (stepN q s[k]) (s.data.toList.drop (k + 1)) from by rw [HB.out, HD.out, behN_cons a])
        have bd := stepN_bd a s[k]
        clear HB HD a
        generalize stepN q s[k] = q' at *
        go_wp2_with fail
        ((with_reducible refine HI.out.mono ?_); rintro e w' ⟨rfl, rfl⟩)
        go_wp2_with fail
        ((with_reducible refine HS.out.mono ?_); rintro e w' ⟨rfl, rfl⟩)
        go_wp2
        go_round
        case rel => exact ⟨q', k + 1, by omega, by go_num, rfl, by omega, by omega, HN⟩
        case measure => simp [intOf]; omega
    · have hkS : k = s.size := by omega
      subst hkS
      have HE := Lib.hid (show behN p s.data.toList = behN q [] from by rw [HB.out, List.drop_of_length_le (by simp)])
      cases a : isN q
      · rw [a] at HI
        have HR := Lib.hid (show behN p s.data.toList = (0, 0) from by rw [HE.out, behN_out a])
        clear HB HE a
        go_wp2_with fail
        ((with_reducible refine HI.out.mono ?_); rintro e w' ⟨rfl, rfl⟩)
        go_wp2
        go_ret
        exact ⟨ret_c0 HR.out, rfl⟩
      · rw [a] at HI
        have HR := Lib.hid (show behN p s.data.toList = q from by rw [HE.out]; simp [behN, a])
        clear HB HE a
        go_wp2_with fail
        ((with_reducible refine HI.out.mono ?_); rintro e w' ⟨rfl, rfl⟩)
        go_wp2
        go_ret
        exact ⟨by rw [HR.out]; rfl, rfl⟩

end Go.Proofs.YtkiedbanobjmlaaDoor.Pl
