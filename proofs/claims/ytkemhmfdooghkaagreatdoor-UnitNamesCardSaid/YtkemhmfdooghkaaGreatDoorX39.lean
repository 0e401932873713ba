import Derived.Test.YtkemhmfdooghkaaGreatDoorX3
import Derived.Shelf.Strconv.Itoa0
import Derived.Shelf.LaysM
import Derived.Shelf.Strconv.Clone
import Derived.Shelf.Strconv.SyntaxError
import Derived.Shelf.LaysC
import Derived.Shelf.Strconv.ToError
import Derived.Shelf.Strconv.Lower
import Derived.Shelf.Strconv.RangeError
import Derived.Shelf.Strconv.ToErrorRange
import Derived.Shelf.Strings.Search1
import Derived.Shelf.Strings.Search2
import Derived.Shelf.Strings.Search3
import Derived.Shelf.Strings.Shaped
import Derived.Shelf.Slices.Turned
import Derived.Test.YtkemhmfdooghkaaGreatDoorProg
set_option linter.unusedSimpArgs false
set_option linter.unusedVariables false
set_option maxRecDepth 100000
set_option maxHeartbeats 6400000
namespace Go.Proofs.YtkemhmfdooghkaaGreatDoor
namespace Lx
open Go.RowKit
open Pl Fl
theorem u8_eqI (c : UInt8) (k : Nat) (h : k < 256) : ((c.toNat : Int) == (k : Int)) = (c == UInt8.ofNat k) := by
 rw [Bool.eq_iff_iff, beq_iff_eq, beq_iff_eq]
 constructor
 ·intro e; apply UInt8.toNat_inj.1; rw [UInt8.toNat_ofNat']; omega
 ·intro e; rw [e, UInt8.toNat_ofNat']; omega
def isB' (c : UInt8) : Bool := c == 9 || c == 10 || c == 13 || c == 32
theorem letter_any (c : UInt8) (w : World) : Calls Tryz.prog 66 #[.int .u8 c.toNat] w fun e w' => e = .returned (.bool (isL c)) ∧ w = w' := by
 unfold isL
 generalize c.toNat = n
 go_enter Tryz.func66, Tryz.ntmps66
 go_wp2
 all_goals
  go_ret
  exact ⟨ret_bool (by rw [Bool.eq_iff_iff]; first | (simp only [Bool.or_eq_true, Bool.and_eq_true, decide_eq_true_eq, true_iff, Bool.false_eq_true, false_iff, not_or, not_and]; omega) | (simp; omega)), rfl⟩
theorem digit_any (c : UInt8) (w : World) : Calls Tryz.prog 68 #[.int .u8 c.toNat] w fun e w' => e = .returned (.bool (isD c)) ∧ w = w' := by
 unfold isD
 generalize c.toNat = n
 go_enter Tryz.func68, Tryz.ntmps68
 go_wp2
 all_goals
  go_ret
  exact ⟨ret_bool (by rw [Bool.eq_iff_iff]; first | (simp only [Bool.or_eq_true, Bool.and_eq_true, decide_eq_true_eq, true_iff, Bool.false_eq_true, false_iff, not_or, not_and]; omega) | (simp; omega)), rfl⟩
theorem hex_any (c : UInt8) (w : World) : Calls Tryz.prog 91 #[.int .u8 c.toNat] w fun e w' => e = .returned (.bool (isX c)) ∧ w = w' := by
 have HD := qh (digit_any c w)
 have HX := qh (show isX c = (isD c || decide (65 ≤ c.toNat) && decide (c.toNat ≤ 70)) from rfl)
 go_enter Tryz.func91, Tryz.ntmps91
 go_wp2_with fail
 ((with_reducible refine HD.out.mono ?_); rintro e w1 ⟨rfl, rfl⟩)
 cases hd : isD c
 ·by_cases q1 : 65 ≤ c.toNat
  ·by_cases q2 : c.toNat ≤ 70
   ·have HR := qh (show isX c = true by rw [HX.out, hd]; simp [q1, q2])
    go_wp2
    all_goals
     go_ret
     exact ⟨by rw [HR.out]; simp; try omega, rfl⟩
   ·have HR := qh (show isX c = false by rw [HX.out, hd]; simp; omega)
    go_wp2
    all_goals
     go_ret
     exact ⟨by rw [HR.out]; simp; try omega, rfl⟩
  ·have HR := qh (show isX c = false by rw [HX.out, hd]; simp; omega)
   go_wp2
   all_goals
    go_ret
    exact ⟨by rw [HR.out]; rfl, rfl⟩
 ·have HR := qh (show isX c = true by rw [HX.out, hd]; rfl)
  go_wp2
  go_ret
  exact ⟨by rw [HR.out]; rfl, rfl⟩
theorem part_any (c : UInt8) (w : World) : Calls Tryz.prog 89 #[.int .u8 c.toNat] w fun e w' => e = .returned (.bool (isP c)) ∧ w = w' := by
 have HL := qh (letter_any c w)
 have HD := qh (digit_any c w)
 have HP := qh (show isP c = (isL c || isD c) from rfl)
 go_enter Tryz.func89, Tryz.ntmps89
 go_wp2_with fail
 ((with_reducible refine HL.out.mono ?_); rintro e w1 ⟨rfl, rfl⟩)
 cases hl : isL c
 ·go_wp2_with fail
  ((with_reducible refine HD.out.mono ?_); rintro e w1 ⟨rfl, rfl⟩)
  cases hd : isD c
  all_goals
   have HR := qh (show isP c = _ by rw [HP.out, hl, hd])
   go_wp2
   go_ret
   exact ⟨by rw [HR.out]; rfl, rfl⟩
 ·have HR := qh (show isP c = true by rw [HP.out, hl]; rfl)
  go_wp2
  go_ret
  exact ⟨by rw [HR.out]; rfl, rfl⟩
def isBl (c : UInt8) : Bool := c == 32 || c == 9 || c == 10 || c == 13
theorem blankF_any (c : UInt8) (w : World) : Calls Tryz.prog 64 #[.int .u8 c.toNat] w fun e w' => e = .returned (.bool (isBl c)) ∧ w = w' := by
 have t9 : ((c.toNat : Int) == 9) = (c == 9) := u8_eqI c 9 (by omega)
 have t10 : ((c.toNat : Int) == 10) = (c == 10) := u8_eqI c 10 (by omega)
 have t13 : ((c.toNat : Int) == 13) = (c == 13) := u8_eqI c 13 (by omega)
 have t32 : ((c.toNat : Int) == 32) = (c == 32) := u8_eqI c 32 (by omega)
 have HB := qh (show isBl c = (c == 32 || c == 9 || c == 10 || c == 13) from rfl)
 generalize isBl c = r at *
 generalize (c == 9) = e9 at *
 generalize (c == 10) = e10 at *
 generalize (c == 13) = e13 at *
 generalize (c == 32) = e32 at *
 go_enter Tryz.func64, Tryz.ntmps64
 cases e32
 ·cases e9
  ·cases e10
   ·cases e13
    all_goals
     go_wp2
     go_ret
     exact ⟨by rw [HB.out]; rfl, rfl⟩
   ·go_wp2
    go_ret
    exact ⟨by rw [HB.out]; rfl, rfl⟩
  ·go_wp2
   go_ret
   exact ⟨by rw [HB.out]; rfl, rfl⟩
 ·go_wp2
  go_ret
  exact ⟨by rw [HB.out]; rfl, rfl⟩
theorem isBl_eq : isBl = isB' := by
 funext c; unfold isBl isB'
 cases (c == 32) <;> cases (c == 9) <;> cases (c == 10) <;> cases (c == 13) <;> rfl
theorem textF_any (c : UInt8) (s : ByteArray) (h0 : 0 < s.size) (g : Nat) (w : World) (hg : w.cell? ⟨g, 0, none⟩ = some (.string s)) : Calls Tryz.prog 93 #[.int .u8 c.toNat, .pointer (some ⟨g, 0, none⟩)] w fun e w' => e = .returned (.bool (isQ s[0] c)) ∧ w = w' := by
 have i0 : (0 : Int) < (s.size : Int) := by omega
 have t10 : ((c.toNat : Int) != 10) = (c != 10) := by rw [bne, bne, show ((c.toNat : Int) == 10) = (c == 10) from u8_eqI c 10 (by omega)]
 have tq : ((c.toNat : Int) != (s[0].toNat : Int)) = (c != s[0]) := by
  rw [bne, bne]
  congr 1
  rw [Bool.eq_iff_iff, beq_iff_eq, beq_iff_eq]
  exact ⟨fun e => UInt8.toNat_inj.1 (by omega), fun e => by rw [e]⟩
 have HQ := qh (show isQ s[0] c = (c != s[0] && c != 10) from rfl)
 generalize isQ s[0] c = q at *
 go_enter Tryz.func93, Tryz.ntmps93
 generalize (c != s[0]) = b1 at *
 generalize (c != 10) = b2 at *
 cases b1
 ·go_wp2
  go_ret
  exact ⟨by rw [HQ.out]; rfl, rfl⟩
 ·cases b2
  all_goals
   go_wp2
   go_ret
   exact ⟨by rw [HQ.out]; rfl, rfl⟩
theorem run_part (s : ByteArray) (hs : s.size ≤ 9223372036854775800) (w : World) : Calls Tryz.prog 63 #[.string s, .func (.func 89) #[] #[]] w fun e w' => e = .returned (.int .i64 (runN isP s.data.toList : Nat)) ∧ w = w' := by
 have HF := qh (fun (c : UInt8) => part_any c w)
 go_enter Tryz.func63, Tryz.ntmps63
 go_wp2
 go_loop [5] (fun i => ∃ k : Nat, k ≤ s.size ∧ i = .int .i64 k ∧ Hid (runN isP s.data.toList = k + runN isP (s.data.toList.drop k))) (fun i => s.size - (intOf i).toNat)
 case atStart => exact ⟨0, Nat.zero_le _, rfl, qh (by simp)⟩
 case round =>
  obtain ⟨k, hk, rfl, HB⟩ := hrel
  have x0 : (0 : Int) ≤ (k : Int) := by omega
  by_cases hlt : k < s.size
  ·have HD := qh (drop_cons s k hlt)
   have x1 : (k : Int) < (s.size : Int) := by omega
   go_wp2_with fail
   ((with_reducible refine (HF.out _).mono ?_); rintro e w1 ⟨rfl, rfl⟩)
   cases hp : isP s[k]
   ·have HK := qh (show runN isP s.data.toList = k by rw [HB.out, HD.out, runN_no hp]; rfl)
    clear HB HD hp
    go_wp2
    go_ret
    exact ⟨ret_int (by rw [HK.out]), rfl⟩
   ·have HN := qh (show runN isP s.data.toList = (k + 1) + runN isP (s.data.toList.drop (k + 1)) by rw [HB.out, HD.out, runN_yes hp]; omega)
    clear HB HD hp
    go_wp2
    go_round
    case rel => exact ⟨k + 1, by omega, by go_num, HN⟩
    case measure => simp [intOf]; omega
  ·have hks : k = s.size := by omega
   have HK := qh (show runN isP s.data.toList = s.size by rw [HB.out, List.drop_of_length_le (by simp; omega), runN_nil]; omega)
   clear HB
   go_wp2
   go_ret
   exact ⟨ret_int (by rw [HK.out]), rfl⟩
theorem run_hex (s : ByteArray) (hs : s.size ≤ 9223372036854775800) (w : World) : Calls Tryz.prog 63 #[.string s, .func (.func 91) #[] #[]] w fun e w' => e = .returned (.int .i64 (runN isX s.data.toList : Nat)) ∧ w = w' := by
 have HF := qh (fun (c : UInt8) => hex_any c w)
 go_enter Tryz.func63, Tryz.ntmps63
 go_wp2
 go_loop [5] (fun i => ∃ k : Nat, k ≤ s.size ∧ i = .int .i64 k ∧ Hid (runN isX s.data.toList = k + runN isX (s.data.toList.drop k))) (fun i => s.size - (intOf i).toNat)
 case atStart => exact ⟨0, Nat.zero_le _, rfl, qh (by simp)⟩
 case round =>
  obtain ⟨k, hk, rfl, HB⟩ := hrel
  have x0 : (0 : Int) ≤ (k : Int) := by omega
  by_cases hlt : k < s.size
  ·have HD := qh (drop_cons s k hlt)
   have x1 : (k : Int) < (s.size : Int) := by omega
   go_wp2_with fail
   ((with_reducible refine (HF.out _).mono ?_); rintro e w1 ⟨rfl, rfl⟩)
   cases hp : isX s[k]
   ·have HK := qh (show runN isX s.data.toList = k by rw [HB.out, HD.out, runN_no hp]; rfl)
    clear HB HD hp
    go_wp2
    go_ret
    exact ⟨ret_int (by rw [HK.out]), rfl⟩
   ·have HN := qh (show runN isX s.data.toList = (k + 1) + runN isX (s.data.toList.drop (k + 1)) by rw [HB.out, HD.out, runN_yes hp]; omega)
    clear HB HD hp
    go_wp2
    go_round
    case rel => exact ⟨k + 1, by omega, by go_num, HN⟩
    case measure => simp [intOf]; omega
  ·have hks : k = s.size := by omega
   have HK := qh (show runN isX s.data.toList = s.size by rw [HB.out, List.drop_of_length_le (by simp; omega), runN_nil]; omega)
   clear HB
   go_wp2
   go_ret
   exact ⟨ret_int (by rw [HK.out]), rfl⟩
theorem run_blank (s : ByteArray) (hs : s.size ≤ 9223372036854775800) (w : World) : Calls Tryz.prog 63 #[.string s, .func (.func 64) #[] #[]] w fun e w' => e = .returned (.int .i64 (runN isBl s.data.toList : Nat)) ∧ w = w' := by
 have HF := qh (fun (c : UInt8) => blankF_any c w)
 go_enter Tryz.func63, Tryz.ntmps63
 go_wp2
 go_loop [5] (fun i => ∃ k : Nat, k ≤ s.size ∧ i = .int .i64 k ∧ Hid (runN isBl s.data.toList = k + runN isBl (s.data.toList.drop k))) (fun i => s.size - (intOf i).toNat)
 case atStart => exact ⟨0, Nat.zero_le _, rfl, qh (by simp)⟩
 case round =>
  obtain ⟨k, hk, rfl, HB⟩ := hrel
  have x0 : (0 : Int) ≤ (k : Int) := by omega
  by_cases hlt : k < s.size
  ·have HD := qh (drop_cons s k hlt)
   have x1 : (k : Int) < (s.size : Int) := by omega
   go_wp2_with fail
   ((with_reducible refine (HF.out _).mono ?_); rintro e w1 ⟨rfl, rfl⟩)
   cases hp : isBl s[k]
   ·have HK := qh (show runN isBl s.data.toList = k by rw [HB.out, HD.out, runN_no hp]; rfl)
    clear HB HD hp
    go_wp2
    go_ret
    exact ⟨ret_int (by rw [HK.out]), rfl⟩
   ·have HN := qh (show runN isBl s.data.toList = (k + 1) + runN isBl (s.data.toList.drop (k + 1)) by rw [HB.out, HD.out, runN_yes hp]; omega)
    clear HB HD hp
    go_wp2
    go_round
    case rel => exact ⟨k + 1, by omega, by go_num, HN⟩
    case measure => simp [intOf]; omega
  ·have hks : k = s.size := by omega
   have HK := qh (show runN isBl s.data.toList = s.size by rw [HB.out, List.drop_of_length_le (by simp; omega), runN_nil]; omega)
   clear HB
   go_wp2
   go_ret
   exact ⟨ret_int (by rw [HK.out]), rfl⟩
theorem run_text {t : ByteArray} (h0 : 0 < t.size) (g : Nat) (s : ByteArray) (hs : s.size ≤ 9223372036854775800) (w : World) (hg : w.cell? ⟨g, 0, none⟩ = some (.string t)) : Calls Tryz.prog 63 #[.string s, .func (.func 93) #[] #[.pointer (some ⟨g, 0, none⟩)]] w fun e w' => e = .returned (.int .i64 (runN (isQ t[0]) s.data.toList : Nat)) ∧ w = w' := by
 have HF := qh (fun (c : UInt8) => textF_any c t h0 g w hg)
 go_enter Tryz.func63, Tryz.ntmps63
 go_wp2
 go_loop [5] (fun i => ∃ k : Nat, k ≤ s.size ∧ i = .int .i64 k ∧ Hid (runN (isQ t[0]) s.data.toList = k + runN (isQ t[0]) (s.data.toList.drop k))) (fun i => s.size - (intOf i).toNat)
 case atStart => exact ⟨0, Nat.zero_le _, rfl, qh (by simp)⟩
 case round =>
  obtain ⟨k, hk, rfl, HB⟩ := hrel
  have x0 : (0 : Int) ≤ (k : Int) := by omega
  by_cases hlt : k < s.size
  ·have HD := qh (drop_cons s k hlt)
   have x1 : (k : Int) < (s.size : Int) := by omega
   go_wp2_with fail
   ((with_reducible refine (HF.out _).mono ?_); rintro e w1 ⟨rfl, rfl⟩)
   cases hp : (isQ t[0]) s[k]
   ·have HK := qh (show runN (isQ t[0]) s.data.toList = k by rw [HB.out, HD.out, runN_no hp]; rfl)
    clear HB HD hp
    go_wp2
    go_ret
    exact ⟨ret_int (by rw [HK.out]), rfl⟩
   ·have HN := qh (show runN (isQ t[0]) s.data.toList = (k + 1) + runN (isQ t[0]) (s.data.toList.drop (k + 1)) by rw [HB.out, HD.out, runN_yes hp]; omega)
    clear HB HD hp
    go_wp2
    go_round
    case rel => exact ⟨k + 1, by omega, by go_num, HN⟩
    case measure => simp [intOf]; omega
  ·have hks : k = s.size := by omega
   have HK := qh (show runN (isQ t[0]) s.data.toList = s.size by rw [HB.out, List.drop_of_length_le (by simp; omega), runN_nil]; omega)
   clear HB
   go_wp2
   go_ret
   exact ⟨ret_int (by rw [HK.out]), rfl⟩
def preB (s p : List UInt8) : Bool := s.take p.length == p
theorem prefixI_any (s p : ByteArray) (w : World) : Calls Tryz.prog 88 #[.string s, .string p] w fun e w' => e = .returned (.bool (preB s.data.toList p.data.toList)) ∧ w = w' := by
 have hpl : p.data.toList.length = p.size := by simp
 have hsl : s.data.toList.length = s.size := by simp
 by_cases h : p.size ≤ s.size
 ·have x0 : (p.size : Int) ≤ (s.size : Int) := by omega
  have hb : (s.extract 0 p.size).toList = s.data.toList.take p.data.toList.length := by
   rw [ByteArray.toList_eq, ByteArray.data_extract, Array.toList_extract, List.extract_eq_take_drop, hpl]; simp
  have hp2 : p.toList = p.data.toList := ByteArray.toList_eq p
  have HP := qh (show preB s.data.toList p.data.toList = ((s.extract 0 p.size).toList == p.toList) by unfold preB; rw [hb, hp2])
  clear hb hp2 hpl hsl
  go_enter Tryz.func88, Tryz.ntmps88
  go_wp2
  go_ret
  exact ⟨by rw [HP.out]; rfl, rfl⟩
 ·have x0 : decide ((p.size : Int) ≤ (s.size : Int)) = false := decide_eq_false (by omega)
  have HP := qh (show preB s.data.toList p.data.toList = false by
   unfold preB
   simp only [beq_eq_false_iff_ne, ne_eq]
   intro e
   have := congrArg List.length e
   rw [List.length_take] at this
   omega)
  clear hpl hsl
  go_enter Tryz.func88, Tryz.ntmps88
  go_wp2
  go_ret
  exact ⟨by rw [HP.out]; rfl, rfl⟩
theorem prefix_any (s p : ByteArray) (w : World) : Calls Tryz.prog 65 #[.string s, .string p] w fun e w' => e = .returned (.bool (preB s.data.toList p.data.toList)) ∧ w = w' := by
 have HP := qh (prefixI_any s p w)
 go_enter Tryz.func65, Tryz.ntmps65
 go_wp2_with fail
 ((with_reducible refine HP.out.mono ?_); rintro e w1 ⟨rfl, rfl⟩)
 go_wp2
 go_ret
 exact ⟨rfl, rfl⟩
def blankP (s : List UInt8) : Nat × Nat :=
 if 0 < runN isBl s then (runN isBl s, 0) else if preB s [40, 42] = true then (if cmt 0 0 s = 0 then (0, 43) else (cmt 0 0 s, 0)) else (0, 0)
theorem ext_drop (s : ByteArray) (k : Nat) : (s.extract k s.size).data.toList = s.data.toList.drop k := by
 rw [ByteArray.data_extract, Array.toList_extract, List.extract_eq_take_drop, List.take_of_length_le]
 rw [List.length_drop]; simp
theorem pre2 (a b x y : UInt8) (r : List UInt8) : preB (a :: b :: r) [x, y] = decide (a = x ∧ b = y) := by
 unfold preB
 rw [Bool.eq_iff_iff]
 simp
theorem pre1 (a x y : UInt8) : preB [a] [x, y] = false := by
 unfold preB
 simp
theorem blank_any (s : ByteArray) (hs : s.size ≤ 9223372036854775800) (w : World) : Calls Tryz.prog 55 #[.string s] w fun e w' => e = .returned (.tuple #[.int .i64 ((blankP s.data.toList).1 : Nat), .int .i64 ((blankP s.data.toList).2 : Nat)]) ∧ w = w' := by
 have HR := qh (run_blank s hs w)
 have HB0 := qh (show blankP s.data.toList = if 0 < runN isBl s.data.toList then (runN isBl s.data.toList, 0) else if preB s.data.toList [40, 42] = true then (if cmt 0 0 s.data.toList = 0 then (0, 43) else (cmt 0 0 s.data.toList, 0)) else (0, 0) from rfl)
 have HRL := qh (runN_le isBl s.data.toList)
 have HPX := qh (fun (t : ByteArray) (w : World) => prefix_any t ⟨#[40, 42]⟩ w)
 have HPY := qh (fun (t : ByteArray) (w : World) => prefix_any t ⟨#[42, 41]⟩ w)
 generalize blankP s.data.toList = R at *
 go_enter Tryz.func55, Tryz.ntmps55
 go_wp2_with fail
 ((with_reducible refine HR.out.mono ?_); rintro e w1 ⟨rfl, rfl⟩)
 clear HR
 generalize runN isBl s.data.toList = n at *
 by_cases h0 : 0 < n
 ·have hn : (0 : Int) < (n : Int) := by omega
  have HB := qh (show R = (n, 0) by rw [HB0.out, if_pos h0])
  clear HB0 HPX HPY
  go_wp2
  go_ret2
  exact ⟨by rw [HB.out]; rfl, rfl⟩
 have hn : ¬ (0 : Int) < (n : Int) := by omega
 have HB1 := qh (show R = if preB s.data.toList [40, 42] = true then (if cmt 0 0 s.data.toList = 0 then (0, 43) else (cmt 0 0 s.data.toList, 0)) else (0, 0) by rw [HB0.out, if_neg h0])
 clear HB0 h0
 go_wp2_with fail
 ((with_reducible refine (HPX.out _ _).mono ?_); rintro e w1 ⟨rfl, rfl⟩)
 try rw [show (⟨#[40, 42]⟩ : ByteArray).data.toList = [40, 42] from rfl]
 cases hp : preB s.data.toList [40, 42]
 ·have HB := qh (show R = (0, 0) by rw [HB1.out, hp]; rfl)
  clear HB1 HPX HPY
  go_wp2
  go_ret2
  exact ⟨by rw [HB.out]; rfl, rfl⟩
 have HB := qh (show R = if cmt 0 0 s.data.toList = 0 then (0, 43) else (cmt 0 0 s.data.toList, 0) by rw [HB1.out, hp]; rfl)
 have HP0 := qh hp
 clear HB1 hn hp
 go_wp2
 go_loop [5, 6] (fun dv i => ∃ (d k : Nat), k ≤ s.size ∧ d ≤ k ∧ dv = .int .i64 d ∧ i = .int .i64 k ∧ (k = 0 → d = 0) ∧ (0 < k → 1 ≤ d) ∧ Hid (cmt 0 0 s.data.toList = cmt d k (s.data.toList.drop k))) (fun _ i => s.size - (intOf i).toNat)
 case atStart => exact ⟨0, 0, Nat.zero_le _, Nat.le_refl _, rfl, rfl, fun _ => rfl, fun h => by omega, qh rfl⟩
 case round =>
  obtain ⟨d, k, hk, hdk, rfl, rfl, hd0, hd1, HC⟩ := hrel
  have x0 : (0 : Int) ≤ (k : Int) := by omega
  have x1 : (k : Int) ≤ (s.size : Int) := by omega
  by_cases hlt : k < s.size
  ·have x2 : (k : Int) < (s.size : Int) := by omega
   have HE := qh (ext_drop s k)
   -- what stands there
   have hcase : (preB (s.data.toList.drop k) [40, 42] = true ∧ k + 2 ≤ s.size ∧ cmt d k (s.data.toList.drop k) = cmt ((d + 1 : Nat) : Int) (k + 2) (s.data.toList.drop (k + 2))) ∨
    (preB (s.data.toList.drop k) [40, 42] = false ∧ preB (s.data.toList.drop k) [42, 41] = true ∧ k + 2 ≤ s.size ∧ 1 ≤ d ∧ cmt d k (s.data.toList.drop k) = if d = 1 then k + 2 else cmt ((d - 1 : Nat) : Int) (k + 2) (s.data.toList.drop (k + 2))) ∨
    (preB (s.data.toList.drop k) [40, 42] = false ∧ preB (s.data.toList.drop k) [42, 41] = false ∧ 1 ≤ d ∧ cmt d k (s.data.toList.drop k) = cmt d (k + 1) (s.data.toList.drop (k + 1))) := by
    have hge : preB (s.data.toList.drop k) [40, 42] = false → 1 ≤ d := fun h => by
     rcases Nat.eq_zero_or_pos k with e | e
     ·subst e; rw [List.drop_zero, HP0.out] at h; cases h
     ·exact hd1 e
    rcases Nat.lt_or_ge (k + 1) s.size with h2 | h2
    ·rw [drop_cons s k hlt, drop_cons s (k + 1) h2] at hge ⊢
     generalize s[k] = a at *
     generalize s[k + 1] = b at *
     rw [pre2, pre2] at *
     have hc : cmt d k (a :: b :: s.data.toList.drop (k + 1 + 1)) = if a = 40 ∧ b = 42 then cmt (d + 1) (k + 2) (s.data.toList.drop (k + 2)) else if a = 42 ∧ b = 41 then (if (d : Int) - 1 = 0 then k + 2 else cmt ((d : Int) - 1) (k + 2) (s.data.toList.drop (k + 2))) else cmt d (k + 1) (b :: s.data.toList.drop (k + 1 + 1)) := rfl
     by_cases q1 : a = 40 ∧ b = 42
     ·exact .inl ⟨by simp [q1], by omega, by rw [hc, if_pos q1]; rfl⟩
     ·have hg := hge (by simpa using q1)
      by_cases q2 : a = 42 ∧ b = 41
      ·refine .inr (.inl ⟨by simpa using q1, by simp [q2], by omega, hg, ?_⟩)
       rw [hc, if_neg q1, if_pos q2]
       by_cases q3 : d = 1
       ·subst q3; rfl
       ·rw [if_neg q3, if_neg (by omega)]
        congr 1
        omega
      ·exact .inr (.inr ⟨by simpa using q1, by simpa using q2, hg, by rw [hc, if_neg q1, if_neg q2]⟩)
    ·have e1 : s.data.toList.drop (k + 1) = [] := List.drop_of_length_le (by simp; omega)
     rw [drop_cons s k hlt, e1] at hge ⊢
     exact .inr (.inr ⟨pre1 _ _ _, pre1 _ _ _, hge (pre1 _ _ _), rfl⟩)
   have HCS := qh hcase
   clear hcase
   go_wp2_with fail
   ((with_reducible refine (HPX.out _ _).mono ?_); rintro e w1 ⟨rfl, rfl⟩)
   try rw [show (⟨#[40, 42]⟩ : ByteArray).data.toList = [40, 42] from rfl]
   try simp only [Int.toNat_natCast]
   rw [HE.out]
   rcases HCS.out with ⟨q1, q2, q3⟩ | ⟨q1, q2, q3, q4, q5⟩ | ⟨q1, q2, q4, q5⟩
   ·rw [q1]
    have HN := qh (HC.out.trans q3)
    have t1 : (((d : Int) + 1) == 0) = false := by simp only [beq_eq_false_iff_ne, ne_eq]; omega
    clear HCS q1 q3 HC
    go_wp2
    go_round
    case rel => exact ⟨d + 1, k + 2, by omega, by omega, by go_num, by go_num, fun h => by omega, fun _ => by omega, HN⟩
    case measure => simp [intOf]; omega
   ·rw [q1]
    go_wp2_with fail
    ((with_reducible refine (HPY.out _ _).mono ?_); rintro e w1 ⟨rfl, rfl⟩)
    try rw [show (⟨#[42, 41]⟩ : ByteArray).data.toList = [42, 41] from rfl]
    try simp only [Int.toNat_natCast]
    rw [HE.out, q2]
    by_cases q6 : d = 1
    ·subst q6
     have HN := qh (show R = (k + 2, 0) by rw [HB.out, HC.out, q5, if_pos rfl, if_neg (by omega)])
     clear HCS q1 q2 q5 HC HB
     go_wp2
     go_ret2
     exact ⟨by rw [HN.out]; first | rfl | (congr 4; omega), rfl⟩
    ·have HN := qh (HC.out.trans (q5.trans (if_neg q6)))
     have t1 : (((d : Int) - 1) == 0) = false := by simp only [beq_eq_false_iff_ne, ne_eq]; omega
     clear HCS q1 q2 q5 HC
     go_wp2
     go_round
     case rel => exact ⟨d - 1, k + 2, by omega, by omega, by go_num, by go_num, fun h => by omega, fun _ => by omega, HN⟩
     case measure => simp [intOf]; omega
   ·rw [q1]
    go_wp2_with fail
    ((with_reducible refine (HPY.out _ _).mono ?_); rintro e w1 ⟨rfl, rfl⟩)
    try rw [show (⟨#[42, 41]⟩ : ByteArray).data.toList = [42, 41] from rfl]
    try simp only [Int.toNat_natCast]
    rw [HE.out, q2]
    have HN := qh (HC.out.trans q5)
    have t1 : ((d : Int) == 0) = false := by simp only [beq_eq_false_iff_ne, ne_eq]; omega
    clear HCS q1 q2 q5 HC
    go_wp2
    go_round
    case rel => exact ⟨d, k + 1, by omega, by omega, rfl, by go_num, fun h => by omega, fun _ => q4, HN⟩
    case measure => simp [intOf]; omega
  ·have HN := qh (show R = (0, 43) by rw [HB.out, HC.out, List.drop_of_length_le (by simp; omega)]; rfl)
   clear HB HC
   go_wp2
   go_ret2
   exact ⟨by rw [HN.out]; rfl, rfl⟩
end Lx
end Go.Proofs.YtkemhmfdooghkaaGreatDoor
namespace Go.Proofs
open Go.Shelf
open Go.RowKit in
open Go.RowKit in
def Tryz.laysC245_ren : Go.Shelf.Ren := ⟨fun | 245 => 105 | 279 => 128 | 280 => 129 | 281 => 130 | 282 => 131 | 316 => 148 | 171 => 150 | 205 => 149 | 243 => 164 | 246 => 169 | 283 => 171 | 284 => 172 | 285 => 173 | 286 => 174 | 129 => 176 | 317 => 175 | 318 => 177 | 319 => 178 | 320 => 179 | 337 => 180 | 338 => 181 | n => n, fun | 9 => 9 | 3 => 3 | 75 => 128 | 167 => 145 | 4 => 4 | 168 => 148 | 210 => 159 | 37 => 22 | 0 => 0 | 127 => 168 | 145 => 171 | 143 => 169 | 2 => 2 | 171 => 177 | 53 => 126 | 5 => 5 | 173 => 180 | 212 => 183 | 51 => 172 | 20 => 20 | 213 => 184 | 46 => 147 | 232 => 188 | 233 => 189 | 80 => 30 | n => n, fun | 15 => 0 | 16 => 1 | 17 => 3 | 18 => 4 | 19 => 5 | n => n⟩
theorem Tryz.laysC245 : Go.Proofs.LaysC.n245 Tryz.prog Tryz.laysC245_ren := {
 mixed := by kernel_rfl
 f129 := Tryz.func176.trans (congrArg some (by kernel_rfl))
 f171 := Tryz.func150.trans (congrArg some (by kernel_rfl))
 f205 := Tryz.func149.trans (congrArg some (by kernel_rfl))
 f243 := Tryz.func164.trans (congrArg some (by kernel_rfl))
 f245 := Tryz.func105.trans (congrArg some (by kernel_rfl))
 f246 := Tryz.func169.trans (congrArg some (by kernel_rfl))
 f279 := Tryz.func128.trans (congrArg some (by kernel_rfl))
 f280 := Tryz.func129.trans (congrArg some (by kernel_rfl))
 f281 := Tryz.func130.trans (congrArg some (by kernel_rfl))
 f282 := Tryz.func131.trans (congrArg some (by kernel_rfl))
 f283 := Tryz.func171.trans (congrArg some (by kernel_rfl))
 f284 := Tryz.func172.trans (congrArg some (by kernel_rfl))
 f285 := Tryz.func173.trans (congrArg some (by kernel_rfl))
 f286 := Tryz.func174.trans (congrArg some (by kernel_rfl))
 f316 := Tryz.func148.trans (congrArg some (by kernel_rfl))
 f317 := Tryz.func175.trans (congrArg some (by kernel_rfl))
 f318 := Tryz.func177.trans (congrArg some (by kernel_rfl))
 f319 := Tryz.func178.trans (congrArg some (by kernel_rfl))
 f320 := Tryz.func179.trans (congrArg some (by kernel_rfl))
 f337 := Tryz.func180.trans (congrArg some (by kernel_rfl))
 f338 := Tryz.func181.trans (congrArg some (by kernel_rfl))
 t0 := Tryz.underlying0
 a0 := Tryz.isAgg0
 z0 := Tryz.sizeOf0
 v0 := Tryz.zeroValue0
 t2 := Tryz.underlying2
 a2 := Tryz.isAgg2
 z2 := Tryz.sizeOf2
 v2 := Tryz.zeroValue2
 t3 := Tryz.underlying3
 a3 := Tryz.isAgg3
 z3 := Tryz.sizeOf3
 v3 := Tryz.zeroValue3
 t4 := Tryz.underlying4
 a4 := Tryz.isAgg4
 z4 := Tryz.sizeOf4
 v4 := Tryz.zeroValue4
 t5 := Tryz.underlying5
 a5 := Tryz.isAgg5
 z5 := Tryz.sizeOf5
 v5 := Tryz.zeroValue5
 t9 := Tryz.underlying9
 a9 := Tryz.isAgg9
 z9 := Tryz.sizeOf9
 v9 := Tryz.zeroValue9
 t20 := Tryz.underlying20
 a20 := Tryz.isAgg20
 z20 := Tryz.sizeOf20
 v20 := Tryz.zeroValue20
 t37 := Tryz.underlying22
 a37 := Tryz.isAgg22
 z37 := Tryz.sizeOf22
 v37 := Tryz.zeroValue22
 t46 := Tryz.underlying147
 a46 := Tryz.isAgg147
 z46 := Tryz.sizeOf147
 v46 := Tryz.zeroValue147
 t51 := Tryz.underlying172
 a51 := Tryz.isAgg172
 z51 := Tryz.sizeOf172
 v51 := Tryz.zeroValue172
 t53 := Tryz.underlying126
 a53 := Tryz.isAgg126
 z53 := Tryz.sizeOf126
 v53 := Tryz.zeroValue126
 t75 := Tryz.underlying128
 a75 := Tryz.isAgg128
 z75 := Tryz.sizeOf128
 v75 := Tryz.zeroValue128
 t127 := Tryz.underlying168
 a127 := Tryz.isAgg168
 z127 := Tryz.sizeOf168
 v127 := Tryz.zeroValue168
 t143 := Tryz.underlying169
 a143 := Tryz.isAgg169
 z143 := Tryz.sizeOf169
 v143 := Tryz.zeroValue169
 t145 := Tryz.underlying171
 a145 := Tryz.isAgg171
 z145 := Tryz.sizeOf171
 v145 := Tryz.zeroValue171
 t167 := Tryz.underlying145
 a167 := Tryz.isAgg145
 z167 := Tryz.sizeOf145
 v167 := Tryz.zeroValue145
 t168 := Tryz.underlying148
 a168 := Tryz.isAgg148
 z168 := Tryz.sizeOf148
 v168 := Tryz.zeroValue148
 t171 := Tryz.underlying177
 a171 := Tryz.isAgg177
 z171 := Tryz.sizeOf177
 v171 := Tryz.zeroValue177
 t173 := Tryz.underlying180
 a173 := Tryz.isAgg180
 z173 := Tryz.sizeOf180
 v173 := Tryz.zeroValue180
 t210 := Tryz.underlying159
 a210 := Tryz.isAgg159
 z210 := Tryz.sizeOf159
 v210 := Tryz.zeroValue159
 t212 := Tryz.underlying183
 a212 := Tryz.isAgg183
 z212 := Tryz.sizeOf183
 v212 := Tryz.zeroValue183
 t213 := Tryz.underlying184
 a213 := Tryz.isAgg184
 z213 := Tryz.sizeOf184
 t232 := Tryz.underlying188
 a232 := Tryz.isAgg188
 z232 := Tryz.sizeOf188
 v232 := Tryz.zeroValue188
 t233 := Tryz.underlying189
 a233 := Tryz.isAgg189
 z233 := Tryz.sizeOf189
 v233 := Tryz.zeroValue189
 g15 := by kernel_rfl
 g16 := by kernel_rfl
 g17 := by kernel_rfl
 g18 := by kernel_rfl
 g19 := by kernel_rfl
 t80 := Tryz.underlying30
 a80 := Tryz.isAgg30
 z80 := Tryz.sizeOf30
 v80 := Tryz.zeroValue30
 i0 := by kernel_rfl
 i2 := by kernel_rfl
 i3 := by kernel_rfl
 i4 := by kernel_rfl
 i5 := by kernel_rfl
 i9 := by kernel_rfl
 i20 := by kernel_rfl
 i37 := by kernel_rfl
 i46 := by kernel_rfl
 i51 := by kernel_rfl
 i53 := by kernel_rfl
 i75 := by kernel_rfl
 i80 := by kernel_rfl
 i127 := by kernel_rfl
 i143 := by kernel_rfl
 i145 := by kernel_rfl
 i167 := by kernel_rfl
 i168 := by kernel_rfl
 i171 := by kernel_rfl
 i173 := by kernel_rfl
 i210 := by kernel_rfl
 i212 := by kernel_rfl
 i232 := by kernel_rfl
 i233 := by kernel_rfl
 m15 := by kernel_rfl
 m16 := by kernel_rfl
 m17 := by kernel_rfl
 m18 := by kernel_rfl
 m19 := by kernel_rfl
 c0 := by kernel_rfl
 c2 := by kernel_rfl
 c3 := by kernel_rfl
 c4 := by kernel_rfl
 c5 := by kernel_rfl
 c9 := by kernel_rfl
 c20 := by kernel_rfl
 c37 := by kernel_rfl
 c46 := by kernel_rfl
 c51 := by kernel_rfl
 c53 := by kernel_rfl
 c75 := by kernel_rfl
 c80 := by kernel_rfl
 c127 := by kernel_rfl
 c143 := by kernel_rfl
 c145 := by kernel_rfl
 c167 := by kernel_rfl
 c168 := by kernel_rfl
 c171 := by kernel_rfl
 c173 := by kernel_rfl
 c210 := by kernel_rfl
 c212 := by kernel_rfl
 c213 := by kernel_rfl
 c232 := by kernel_rfl
 c233 := by kernel_rfl }
open Go.RowKit in
theorem Tryz.strconv_toError_syntax (fn s : ByteArray) (base bits : Int) (ev : Value) (w : World) (hlim : s.size ≤ 281474976710656) (hv : w.cell? ⟨0, 0, none⟩ = some ev) (hev : ev = .nilIface ∨ ∃ te pe, ev = .iface te pe) :
 Calls Tryz.prog 105 #[.string fn, .string s, .int .i64 base, .int .i64 bits, .iface 145 (.int .i64 2)] w fun e w' => ∃ N, e = .returned (.iface 148 (.pointer (some ⟨N, 0, none⟩))) ∧ w.heap.size ≤ N ∧ w'.heap[N]? = some (.cells #[.string fn, .string s, ev] 159 (0, 0)) ∧ Below w.heap.size w w' := Any.strconv_toError_syntax Tryz.laysC245 fn s base bits ev w hlim hv hev
def Tryz.lays321_ren : Go.Shelf.Ren := ⟨fun | 321 => 126 | n => n, fun | 5 => 5 | n => n, fun | n => n⟩
theorem Tryz.lays321 : Go.Proofs.Lays.n321 Tryz.prog Tryz.lays321_ren := {
 mixed := by kernel_rfl
 f321 := Tryz.func126.trans (congrArg some (by kernel_rfl))
 t5 := Tryz.underlying5
 a5 := Tryz.isAgg5
 z5 := Tryz.sizeOf5
 v5 := Tryz.zeroValue5 }
open Go.RowKit in
theorem Tryz.internal_strconv_lower (c : Int) (w : World) :
 Calls Tryz.prog 126 #[.int .u8 c] w fun e w' => e = .returned (.int .u8 (bits .or .u8 c 32)) ∧ w' = w := Any.internal_strconv_lower Tryz.lays321 c w
open Go.RowKit in
open Go.RowKit in
theorem Tryz.strconv_toError_range (fn s : ByteArray) (base bits : Int) (ev : Value) (w : World) (hlim : s.size ≤ 281474976710656) (hv : w.cell? ⟨1, 0, none⟩ = some ev) (hev : ev = .nilIface ∨ ∃ te pe, ev = .iface te pe) :
 Calls Tryz.prog 105 #[.string fn, .string s, .int .i64 base, .int .i64 bits, .iface 145 (.int .i64 1)] w fun e w' => ∃ N, e = .returned (.iface 148 (.pointer (some ⟨N, 0, none⟩))) ∧ w.heap.size ≤ N ∧ w'.heap[N]? = some (.cells #[.string fn, .string s, ev] 159 (0, 0)) ∧ Below w.heap.size w w' := Any.strconv_toError_range Tryz.laysC245 fn s base bits ev w hlim hv hev
open Go.RowKit Go.Lib in
open Go.RowKit Go.Lib in
open Go.RowKit Go.Lib in
open Go.RowKit Go.Lib in
open Go.RowKit Go.Lib in
open Go.RowKit Go.Lib in
open Go.RowKit Go.Lib in
open Go.RowKit Go.Lib in
def Tryz.lays144_ren : Go.Shelf.Ren := ⟨fun | 144 => 94 | 143 => 106 | 219 => 132 | 217 => 151 | 225 => 152 | 224 => 153 | 267 => 154 | 266 => 165 | 314 => 166 | n => n, fun | 9 => 9 | 4 => 4 | 3 => 3 | 5 => 5 | 46 => 147 | 146 => 173 | 51 => 172 | n => n, fun | 1 => 2 | n => n⟩
theorem Tryz.lays144 : Go.Proofs.Lays.n144 Tryz.prog Tryz.lays144_ren := {
 mixed := by kernel_rfl
 f143 := Tryz.func106.trans (congrArg some (by kernel_rfl))
 f144 := Tryz.func94.trans (congrArg some (by kernel_rfl))
 f217 := Tryz.func151.trans (congrArg some (by kernel_rfl))
 f219 := Tryz.func132.trans (congrArg some (by kernel_rfl))
 f224 := Tryz.func153.trans (congrArg some (by kernel_rfl))
 f225 := Tryz.func152.trans (congrArg some (by kernel_rfl))
 f266 := Tryz.func165.trans (congrArg some (by kernel_rfl))
 f267 := Tryz.func154.trans (congrArg some (by kernel_rfl))
 f314 := Tryz.func166.trans (congrArg some (by kernel_rfl))
 t3 := Tryz.underlying3
 a3 := Tryz.isAgg3
 z3 := Tryz.sizeOf3
 v3 := Tryz.zeroValue3
 t4 := Tryz.underlying4
 a4 := Tryz.isAgg4
 z4 := Tryz.sizeOf4
 v4 := Tryz.zeroValue4
 t5 := Tryz.underlying5
 a5 := Tryz.isAgg5
 z5 := Tryz.sizeOf5
 v5 := Tryz.zeroValue5
 t9 := Tryz.underlying9
 a9 := Tryz.isAgg9
 z9 := Tryz.sizeOf9
 v9 := Tryz.zeroValue9
 t46 := Tryz.underlying147
 a46 := Tryz.isAgg147
 z46 := Tryz.sizeOf147
 v46 := Tryz.zeroValue147
 t51 := Tryz.underlying172
 a51 := Tryz.isAgg172
 z51 := Tryz.sizeOf172
 v51 := Tryz.zeroValue172
 t146 := Tryz.underlying173
 a146 := Tryz.isAgg173
 z146 := Tryz.sizeOf173
 v146 := Tryz.zeroValue173
 g1 := by kernel_rfl }
open Go.RowKit Go.Lib in
theorem Tryz.strings_Contains_one (s : ByteArray) (c : UInt8) (w : World) :
 Calls Tryz.prog 94 #[.string s, .string ⟨#[c]⟩] w fun e w' => e = .returned (.bool (decide (0 ≤ Lib.indexByte s.data.toList c))) ∧ w' = w := Any.strings_Contains_one Tryz.lays144 s c w
open Go.RowKit Go.Lib in
theorem Tryz.strings_Contains (s sub : ByteArray) (m : Int) (w : World) (hs : s.size < 4294967281) (hm : w.cell? ⟨2, 0, none⟩ = some (.int .i64 m)) :
 Calls Tryz.prog 94 #[.string s, .string sub] w fun e w' => e = .returned (.bool (Lib.contains s.data.toList sub.data.toList)) ∧ w' = w := Any.strings_Contains Tryz.lays144 s sub m w hs hm
open Go.RowKit Go.Lib in
open Go.RowKit Go.Lib in
def Tryz.laysM144_ren : Go.Shelf.Ren := ⟨fun | 144 => 94 | 143 => 106 | 219 => 132 | 217 => 151 | 225 => 152 | 224 => 153 | 267 => 154 | 266 => 165 | 314 => 166 | n => n, fun | 9 => 9 | 4 => 4 | 3 => 3 | 5 => 5 | 46 => 147 | 146 => 173 | 51 => 172 | n => n, fun | 1 => 2 | n => n⟩
theorem Tryz.laysM144 : Go.Proofs.LaysM.n144 Tryz.prog Tryz.laysM144_ren := {
 mixed := by kernel_rfl
 f143 := Tryz.func106.trans (congrArg some (by kernel_rfl))
 f144 := Tryz.func94.trans (congrArg some (by kernel_rfl))
 f217 := Tryz.func151.trans (congrArg some (by kernel_rfl))
 f219 := Tryz.func132.trans (congrArg some (by kernel_rfl))
 f224 := Tryz.func153.trans (congrArg some (by kernel_rfl))
 f225 := Tryz.func152.trans (congrArg some (by kernel_rfl))
 f266 := Tryz.func165.trans (congrArg some (by kernel_rfl))
 f267 := Tryz.func154.trans (congrArg some (by kernel_rfl))
 f314 := Tryz.func166.trans (congrArg some (by kernel_rfl))
 t3 := Tryz.underlying3
 a3 := Tryz.isAgg3
 z3 := Tryz.sizeOf3
 v3 := Tryz.zeroValue3
 t4 := Tryz.underlying4
 a4 := Tryz.isAgg4
 z4 := Tryz.sizeOf4
 v4 := Tryz.zeroValue4
 t5 := Tryz.underlying5
 a5 := Tryz.isAgg5
 z5 := Tryz.sizeOf5
 v5 := Tryz.zeroValue5
 t9 := Tryz.underlying9
 a9 := Tryz.isAgg9
 z9 := Tryz.sizeOf9
 v9 := Tryz.zeroValue9
 t46 := Tryz.underlying147
 a46 := Tryz.isAgg147
 z46 := Tryz.sizeOf147
 v46 := Tryz.zeroValue147
 t51 := Tryz.underlying172
 a51 := Tryz.isAgg172
 z51 := Tryz.sizeOf172
 v51 := Tryz.zeroValue172
 t146 := Tryz.underlying173
 a146 := Tryz.isAgg173
 z146 := Tryz.sizeOf173
 v146 := Tryz.zeroValue173
 g1 := by kernel_rfl
 i3 := by kernel_rfl
 i4 := by kernel_rfl
 i5 := by kernel_rfl
 i9 := by kernel_rfl
 i46 := by kernel_rfl
 i51 := by kernel_rfl
 i146 := by kernel_rfl
 m1 := by kernel_rfl
 s1_3 := fun w h => Go.Proofs.cell_of_shapedOpen_int (zero := #[.int .i64 0]) (t := 3) h (of_decide_eq_true (by kernel_rfl)) (by kernel_rfl) rfl (by kernel_rfl) (by kernel_rfl) Tryz.underlying3 }
open Go.RowKit Go.Lib in
open Go.Lib in
open Go.Lib in
def Tryz.lays110_ren : Go.Shelf.Ren := ⟨fun | 110 => 29 | 109 => 46 | n => n, fun | 31 => 44 | 9 => 9 | 4 => 4 | 3 => 3 | 0 => 0 | n => n, fun | n => n⟩
theorem Tryz.lays110 : Go.Proofs.Lays.n110 Tryz.prog Tryz.lays110_ren := {
 mixed := by kernel_rfl
 f109 := Tryz.func46.trans (congrArg some (by kernel_rfl))
 f110 := Tryz.func29.trans (congrArg some (by kernel_rfl))
 t0 := Tryz.underlying0
 a0 := Tryz.isAgg0
 z0 := Tryz.sizeOf0
 v0 := Tryz.zeroValue0
 t3 := Tryz.underlying3
 a3 := Tryz.isAgg3
 z3 := Tryz.sizeOf3
 v3 := Tryz.zeroValue3
 t4 := Tryz.underlying4
 a4 := Tryz.isAgg4
 z4 := Tryz.sizeOf4
 v4 := Tryz.zeroValue4
 t9 := Tryz.underlying9
 a9 := Tryz.isAgg9
 z9 := Tryz.sizeOf9
 v9 := Tryz.zeroValue9
 t31 := Tryz.underlying44
 a31 := Tryz.isAgg44
 z31 := Tryz.sizeOf44
 v31 := Tryz.zeroValue44 }
open Go.Lib in
theorem Tryz.slices_Contains_string (b off n c : Nat) (zs : List ByteArray) (x : ByteArray) (w : World) (hz : n ≤ zs.length) (hbig : n ≤ 9223372036854775807) (hc : ∀ j, j < zs.length → w.cell? ⟨b, off + j, none⟩ = some (.string (zs.getD j ByteArray.empty))) :
 Calls Tryz.prog 29 #[.slice (some ⟨b, off, none⟩) n c, .string x] w fun e w' => e = .returned (.bool (Lib.containsS (zs.take n) x)) ∧ w' = w := Any.slices_Contains_string Tryz.lays110 b off n c zs x w hz hbig hc
end Go.Proofs
