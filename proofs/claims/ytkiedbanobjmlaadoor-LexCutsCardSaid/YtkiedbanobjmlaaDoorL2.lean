/- The walks of strings.HasPrefix; of the program's blank. -/
import Derived.Test.YtkiedbanobjmlaaDoorL1
set_option linter.unusedSimpArgs false
set_option linter.unusedVariables false
namespace Go.Proofs.YtkiedbanobjmlaaDoor.Lx
open Go.RowKit
open Pl Fl

/-- Does a text begin with another? -/
def preB (s p : List UInt8) : Bool := s.take p.length == p
set_option maxHeartbeats 1600000 in
theorem prefixI_any (s p : ByteArray) (w : World) : Calls Tryd.prog 70 #[.string s, .string p] w fun e w' => e = .returned (.bool (preB s.data.toList p.data.toList)) ∧ w = w' := by
  have hpl : p.data.toList.length = p.size := by simp
  have hsl : s.data.toList.length = s.size := by simp
  by_cases h : p.size ≤ s.size
  · have x0 : (p.size : Int) ≤ (s.size : Int) := by omega
    have hb : (s.extract 0 p.size).toList = s.data.toList.take p.data.toList.length := by
      rw [ByteArray.toList_eq, ByteArray.data_extract, Array.toList_extract, List.extract_eq_take_drop, hpl]; simp
    have hp2 : p.toList = p.data.toList := ByteArray.toList_eq p
    have HP := Lib.hid (show preB s.data.toList p.data.toList = ((s.extract 0 p.size).toList == p.toList) by unfold preB; rw [hb, hp2])
    clear hb hp2 hpl hsl
    go_enter Tryd.func70, Tryd.ntmps70
    go_wp2
    go_ret
    exact ⟨by rw [HP.out]; rfl, rfl⟩
  · have x0 : decide ((p.size : Int) ≤ (s.size : Int)) = false := decide_eq_false (by omega)
    have HP := Lib.hid (show preB s.data.toList p.data.toList = false by
      unfold preB
      simp only [beq_eq_false_iff_ne, ne_eq]
      intro e
      have := congrArg List.length e
      rw [List.length_take] at this
      omega)
    clear hpl hsl
    go_enter Tryd.func70, Tryd.ntmps70
    go_wp2
    go_ret
    exact ⟨by rw [HP.out]; rfl, rfl⟩
set_option maxHeartbeats 1600000 in
theorem prefix_any (s p : ByteArray) (w : World) : Calls Tryd.prog 60 #[.string s, .string p] w fun e w' => e = .returned (.bool (preB s.data.toList p.data.toList)) ∧ w = w' := by
  have HP := Lib.hid (prefixI_any s p w)
  go_enter Tryd.func60, Tryd.ntmps60
  go_wp2_with fail
  ((with_reducible refine HP.out.mono ?_); rintro e w1 ⟨rfl, rfl⟩)
  go_wp2
  go_ret
  exact ⟨rfl, rfl⟩
/-- What blank answers: how many bytes, an error's number. -/
def blankP (s : List UInt8) : Nat × Nat :=
  if 0 < runN isBl s then (runN isBl s, 0) else if preB s [40, 42] = true then (if cmt 0 0 s = 0 then (0, 43) else (cmt 0 0 s, 0)) else (0, 0)
theorem ext_drop (s : ByteArray) (k : Nat) : (s.extract k s.size).data.toList = s.data.toList.drop k := by
  rw [ByteArray.data_extract, Array.toList_extract, List.extract_eq_take_drop, List.take_of_length_le]
  rw [List.length_drop]; simp
theorem pre2 (a b x y : UInt8) (r : List UInt8) : preB (a :: b :: r) [x, y] = decide (a = x ∧ b = y) := by
  unfold preB
  rw [Bool.eq_iff_iff]
  simp
theorem pre1 (a x y : UInt8) : preB [a] [x, y] = false := by
  unfold preB
  simp
theorem pre0 (x y : UInt8) : preB [] [x, y] = false := rfl
set_option maxRecDepth 100000 in
set_option maxHeartbeats 6400000 in
theorem blank_any (s : ByteArray) (hs : s.size ≤ 9223372036854775800) (w : World) : Calls Tryd.prog 45 #[.string s] w fun e w' => e = .returned (.tuple #[.int .i64 ((blankP s.data.toList).1 : Nat), .int .i64 ((blankP s.data.toList).2 : Nat)]) ∧ w = w' := by
  have HR := Lib.hid (run_blank s hs w)
  have HB0 := Lib.hid (show blankP s.data.toList = if 0 < runN isBl s.data.toList then (runN isBl s.data.toList, 0) else if preB s.data.toList [40, 42] = true then (if cmt 0 0 s.data.toList = 0 then (0, 43) else (cmt 0 0 s.data.toList, 0)) else (0, 0) from rfl)
  have HRL := Lib.hid (runN_le isBl s.data.toList)
  have HPX := Lib.hid (fun (t : ByteArray) (w : World) => prefix_any t ⟨#[40, 42]⟩ w)
  have HPY := Lib.hid (fun (t : ByteArray) (w : World) => prefix_any t ⟨#[42, 41]⟩ w)
  generalize blankP s.data.toList = R at *
  go_enter Tryd.func45, Tryd.ntmps45
  go_wp2_with fail
  ((with_reducible refine HR.out.mono ?_); rintro e w1 ⟨rfl, rfl⟩)
  clear HR
  generalize runN isBl s.data.toList = n at *
  by_cases h0 : 0 < n
  · have hn : (0 : Int) < (n : Int) := by omega
    have HB := Lib.hid (show R = (n, 0) by rw [HB0.out, if_pos h0])
    clear HB0 HPX HPY
    go_wp2
    go_ret2
    exact ⟨by rw [HB.out]; rfl, rfl⟩
  have hn : ¬ (0 : Int) < (n : Int) := by omega
  have HB1 := Lib.hid (show R = if preB s.data.toList [40, 42] = true then (if cmt 0 0 s.data.toList = 0 then (0, 43) else (cmt 0 0 s.data.toList, 0)) else (0, 0) by rw [HB0.out, if_neg h0])
  clear HB0 h0
  go_wp2_with fail
  ((with_reducible refine (HPX.out _ _).mono ?_); rintro e w1 ⟨rfl, rfl⟩)
  try rw [show (⟨#[40, 42]⟩ : ByteArray).data.toList = [40, 42] from rfl]
  cases hp : preB s.data.toList [40, 42]
  · have HB := Lib.hid (show R = (0, 0) by rw [HB1.out, hp]; rfl)
    clear HB1 HPX HPY
    go_wp2
    go_ret2
    exact ⟨by rw [HB.out]; rfl, rfl⟩
  have HB := Lib.hid (show R = if cmt 0 0 s.data.toList = 0 then (0, 43) else (cmt 0 0 s.data.toList, 0) by rw [HB1.out, hp]; rfl)
  have HP0 := Lib.hid hp
  clear HB1 hn hp
  go_wp2
  go_loop [5, 6] (fun dv i => ∃ (d k : Nat), k ≤ s.size ∧ d ≤ k ∧ dv = .int .i64 d ∧ i = .int .i64 k ∧ (k = 0 → d = 0) ∧ (0 < k → 1 ≤ d) ∧ Hid (cmt 0 0 s.data.toList = cmt d k (s.data.toList.drop k))) (fun _ i => s.size - (intOf i).toNat)
  case atStart => exact ⟨0, 0, Nat.zero_le _, Nat.le_refl _, rfl, rfl, fun _ => rfl, fun h => by omega, Lib.hid rfl⟩
  case round =>
    obtain ⟨d, k, hk, hdk, rfl, rfl, hd0, hd1, HC⟩ := hrel
    have x0 : (0 : Int) ≤ (k : Int) := by omega
    have x1 : (k : Int) ≤ (s.size : Int) := by omega
    by_cases hlt : k < s.size
    · have x2 : (k : Int) < (s.size : Int) := by omega
      have HE := Lib.hid (ext_drop s k)
      -- what stands there
      have hcase : (preB (s.data.toList.drop k) [40, 42] = true ∧ k + 2 ≤ s.size ∧ cmt d k (s.data.toList.drop k) = cmt ((d + 1 : Nat) : Int) (k + 2) (s.data.toList.drop (k + 2))) ∨
          (preB (s.data.toList.drop k) [40, 42] = false ∧ preB (s.data.toList.drop k) [42, 41] = true ∧ k + 2 ≤ s.size ∧ 1 ≤ d ∧ cmt d k (s.data.toList.drop k) = if d = 1 then k + 2 else cmt ((d - 1 : Nat) : Int) (k + 2) (s.data.toList.drop (k + 2))) ∨
          (preB (s.data.toList.drop k) [40, 42] = false ∧ preB (s.data.toList.drop k) [42, 41] = false ∧ 1 ≤ d ∧ cmt d k (s.data.toList.drop k) = cmt d (k + 1) (s.data.toList.drop (k + 1))) := by
        have hge : preB (s.data.toList.drop k) [40, 42] = false → 1 ≤ d := fun h => by
          rcases Nat.eq_zero_or_pos k with e | e
          · subst e; rw [List.drop_zero, HP0.out] at h; cases h
          · exact hd1 e
        rcases Nat.lt_or_ge (k + 1) s.size with h2 | h2
        · rw [drop_cons s k hlt, drop_cons s (k + 1) h2] at hge ⊢
          generalize s[k] = a at *
          generalize s[k + 1] = b at *
          rw [pre2, pre2] at *
          have hc : cmt d k (a :: b :: s.data.toList.drop (k + 1 + 1)) = if a = 40 ∧ b = 42 then cmt (d + 1) (k + 2) (s.data.toList.drop (k + 2)) else if a = 42 ∧ b = 41 then (if (d : Int) - 1 = 0 then k + 2 else cmt ((d : Int) - 1) (k + 2) (s.data.toList.drop (k + 2))) else cmt d (k + 1) (b :: s.data.toList.drop (k + 1 + 1)) := rfl
          by_cases q1 : a = 40 ∧ b = 42
          · exact .inl ⟨by simp [q1], by omega, by rw [hc, if_pos q1]; rfl⟩
          · have hg := hge (by simpa using q1)
            by_cases q2 : a = 42 ∧ b = 41
            · refine .inr (.inl ⟨by simpa using q1, by simp [q2], by omega, hg, ?_⟩)
              rw [hc, if_neg q1, if_pos q2]
              by_cases q3 : d = 1
              · subst q3; rfl
              · rw [if_neg q3, if_neg (by omega)]
                congr 1
                omega
            · exact .inr (.inr ⟨by simpa using q1, by simpa using q2, hg, by rw [hc, if_neg q1, if_neg q2]⟩)
        · have e1 : s.data.toList.drop (k + 1) = [] := List.drop_of_length_le (by simp; omega)
          rw [drop_cons s k hlt, e1] at hge ⊢
          exact .inr (.inr ⟨pre1 _ _ _, pre1 _ _ _, hge (pre1 _ _ _), rfl⟩)
      have HCS := Lib.hid hcase
      clear hcase
      go_wp2_with fail
      ((with_reducible refine (HPX.out _ _).mono ?_); rintro e w1 ⟨rfl, rfl⟩)
      try rw [show (⟨#[40, 42]⟩ : ByteArray).data.toList = [40, 42] from rfl]
      try simp only [Int.toNat_natCast]
      rw [HE.out]
      rcases HCS.out with ⟨q1, q2, q3⟩ | ⟨q1, q2, q3, q4, q5⟩ | ⟨q1, q2, q4, q5⟩
      · rw [q1]
        have HN := Lib.hid (HC.out.trans q3)
        have t1 : (((d : Int) + 1) == 0) = false := by simp only [beq_eq_false_iff_ne, ne_eq]; omega
        clear HCS q1 q3 HC
        go_wp2
        go_round
        case rel => exact ⟨d + 1, k + 2, by omega, by omega, by go_num, by go_num, fun h => by omega, fun _ => by omega, HN⟩
        case measure => simp [intOf]; omega
      · rw [q1]
        go_wp2_with fail
        ((with_reducible refine (HPY.out _ _).mono ?_); rintro e w1 ⟨rfl, rfl⟩)
        try rw [show (⟨#[42, 41]⟩ : ByteArray).data.toList = [42, 41] from rfl]
        try simp only [Int.toNat_natCast]
        rw [HE.out, q2]
        by_cases q6 : d = 1
        · subst q6
          have HN := Lib.hid (show R = (k + 2, 0) by rw [HB.out, HC.out, q5, if_pos rfl, if_neg (by omega)])
          clear HCS q1 q2 q5 HC HB
          go_wp2
          go_ret2
          exact ⟨by rw [HN.out]; first | rfl | (congr 4; omega), rfl⟩
        · have HN := Lib.hid (HC.out.trans (q5.trans (if_neg q6)))
          have t1 : (((d : Int) - 1) == 0) = false := by simp only [beq_eq_false_iff_ne, ne_eq]; omega
          clear HCS q1 q2 q5 HC
          go_wp2
          go_round
          case rel => exact ⟨d - 1, k + 2, by omega, by omega, by go_num, by go_num, fun h => by omega, fun _ => by omega, HN⟩
          case measure => simp [intOf]; omega
      · rw [q1]
        go_wp2_with fail
        ((with_reducible refine (HPY.out _ _).mono ?_); rintro e w1 ⟨rfl, rfl⟩)
        try rw [show (⟨#[42, 41]⟩ : ByteArray).data.toList = [42, 41] from rfl]
        try simp only [Int.toNat_natCast]
        rw [HE.out, q2]
        have HN := Lib.hid (HC.out.trans q5)
        have t1 : ((d : Int) == 0) = false := by simp only [beq_eq_false_iff_ne, ne_eq]; omega
        clear HCS q1 q2 q5 HC
        go_wp2
        go_round
        case rel => exact ⟨d, k + 1, by omega, by omega, rfl, by go_num, fun h => by omega, fun _ => q4, HN⟩
        case measure => simp [intOf]; omega
    · have HN := Lib.hid (show R = (0, 43) by rw [HB.out, HC.out, List.drop_of_length_le (by simp; omega)]; rfl)
      clear HB HC
      go_wp2
      go_ret2
      exact ⟨by rw [HN.out]; rfl, rfl⟩
end Go.Proofs.YtkiedbanobjmlaaDoor.Lx
