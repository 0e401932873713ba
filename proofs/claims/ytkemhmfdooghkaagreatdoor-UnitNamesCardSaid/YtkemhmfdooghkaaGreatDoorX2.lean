import Derived.Test.YtkemhmfdooghkaaGreatDoorX1
import Derived.Laws.Rows
import Derived.Deep.Cut
import Derived.BigQuiet
import Derived.Deep.RegionHeld3
set_option linter.unusedSimpArgs false
set_option linter.unusedVariables false
set_option maxRecDepth 100000
set_option maxHeartbeats 6400000
namespace Go.Proofs.YtkemhmfdooghkaaGreatDoor
namespace Lx
open Go.RowKit
open Pl
def isL (c : UInt8) : Bool := decide (65 ≤ c.toNat) && decide (c.toNat ≤ 90) || decide (97 ≤ c.toNat) && decide (c.toNat ≤ 122)
def isD (c : UInt8) : Bool := decide (48 ≤ c.toNat) && decide (c.toNat ≤ 57)
theorem u8_lt (c : UInt8) : c.toNat < 256 := UInt8.toNat_lt c
theorem rletter_any (c : UInt8) (w : World) : Calls Tryz.prog 38 #[.int .u8 c.toNat] w fun e w' => e = .returned (.bool (isL c)) ∧ w = w' := by
 unfold isL
 generalize c.toNat = n
 go_enter Tryz.func38, Tryz.ntmps38
 go_wp2
 all_goals
  go_ret
  exact ⟨ret_bool (by rw [Bool.eq_iff_iff]; first | (simp only [Bool.or_eq_true, Bool.and_eq_true, decide_eq_true_eq, true_iff, Bool.false_eq_true, false_iff, not_or, not_and]; omega) | (simp; omega)), rfl⟩
theorem rdigit_any (c : UInt8) (w : World) : Calls Tryz.prog 39 #[.int .u8 c.toNat] w fun e w' => e = .returned (.bool (isD c)) ∧ w = w' := by
 unfold isD
 generalize c.toNat = n
 go_enter Tryz.func39, Tryz.ntmps39
 go_wp2
 all_goals
  go_ret
  exact ⟨ret_bool (by rw [Bool.eq_iff_iff]; first | (simp only [Bool.or_eq_true, Bool.and_eq_true, decide_eq_true_eq, true_iff, Bool.false_eq_true, false_iff, not_or, not_and]; omega) | (simp; omega)), rfl⟩
def dgt (c : UInt8) : Nat := if 65 ≤ c.toNat then c.toNat - 55 else c.toNat - 48
def valN (base most : Nat) : Nat → List UInt8 → Option Nat
 | n, [] => if n ≤ most then some n else none
 | n, c :: r => if base ≤ dgt c ∨ most < n then none else valN base most (n * base + dgt c) r
def valR (base most : Nat) (l : List UInt8) : Option Nat := if l = [] then none else valN base most 0 l
theorem empty_iff (s : ByteArray) : s.data.toList = [] ↔ s.size = 0 := by
 rw [← List.length_eq_zero_iff]; simp
theorem value_any (s : ByteArray) (base most : Nat) (hb : base ≤ 16) (hm : most ≤ 65535) (hs : s.size ≤ 9223372036854775806) (h48 : ∀ c ∈ s.data.toList, 48 ≤ c.toNat) (w : World) :
 Calls Tryz.prog 53 #[.string s, .int .i64 base, .int .i64 most] w fun e w' => (∃ m : Nat, m ≤ 2000000 ∧ e = .returned (.tuple #[.int .i64 m, .bool (valR base most s.data.toList).isSome]) ∧ (∀ v, valR base most s.data.toList = some v → m = v)) ∧ w = w' := by
 have H48 := qh h48
 clear h48
 go_enter Tryz.func53, Tryz.ntmps53
 go_wp2
 go_loop [8, 9] (fun v i => ∃ (n k : Nat), k ≤ s.size ∧ i = .int .i64 k ∧ v = .int .i64 n ∧ n ≤ 2000000 ∧ Hid (valN base most 0 s.data.toList = valN base most n (s.data.toList.drop k))) (fun _ i => s.size - (intOf i).toNat)
 case atStart => exact ⟨0, 0, Nat.zero_le _, rfl, rfl, by omega, qh rfl⟩
 case round =>
  obtain ⟨n, k, hk, rfl, rfl, hn, HB⟩ := hrel
  by_cases hlt : k < s.size
  ·have HD := qh (drop_cons s k hlt)
   have hc := H48.out s[k] (by rw [← List.take_append_drop k s.data.toList, HD.out]; simp)
   have hc2 := u8_lt s[k]
   have HR : Hid (valR base most s.data.toList = valN base most 0 s.data.toList) := qh (by unfold valR; rw [if_neg (by intro e; rw [e] at HD; have := HD.out; simp at this)])
   have HV := qh (show valN base most n (s.data.toList.drop k) = if base ≤ dgt s[k] ∨ most < n then none else valN base most (n * base + dgt s[k]) (s.data.toList.drop (k + 1)) by rw [HD.out]; rfl)
   have hdg : (65 ≤ s[k].toNat → dgt s[k] = s[k].toNat - 55) ∧ (s[k].toNat < 65 → dgt s[k] = s[k].toNat - 48) := ⟨fun h => by unfold dgt; rw [if_pos h], fun h => by unfold dgt; rw [if_neg (by omega)]⟩
   have hnb : n ≤ most → n * base ≤ 1048560 := fun h => by
    have := Nat.mul_le_mul (Nat.le_trans h hm) hb
    omega
   have hnc : ((n : Int) * (base : Int)) = ((n * base : Nat) : Int) := by simp
   generalize dgt s[k] = dd at *
   generalize n * base = nb at *
   generalize hx : s[k].toNat = x at *
   clear HD H48
   by_cases bad : base ≤ dd ∨ most < n
   ·rw [if_pos bad] at HV
    have HN := qh (show valR base most s.data.toList = none by rw [HR.out, HB.out, HV.out])
    clear HR HB HV hnc
    go_wp2
    all_goals first
     | (exfalso; omega)
     | (go_ret2; exact ⟨⟨0, by omega, by rw [HN.out]; rfl, fun v hv => by rw [HN.out] at hv; cases hv⟩, rfl⟩)
   ·rw [if_neg bad] at HV
    have hnb' := hnb (by omega)
    have HN := qh (show valN base most 0 s.data.toList = valN base most (nb + dd) (s.data.toList.drop (k + 1)) by rw [HB.out, HV.out])
    clear HR HB HV hnb
    go_wp2
    all_goals first
     | (exfalso; omega)
     | (go_round
        case rel => exact ⟨nb + dd, k + 1, by omega, by go_num, by go_num, by omega, HN⟩
        case measure => simp [intOf]; omega)
  ·have hkS : k = s.size := by omega
   subst hkS
   have HE := qh (show valN base most 0 s.data.toList = if n ≤ most then some n else none by rw [HB.out, List.drop_of_length_le (by simp)]; rfl)
   have hR : valR base most s.data.toList = if s.size = 0 then none else if n ≤ most then some n else none := by
    unfold valR
    rw [HE.out]
    by_cases h0 : s.size = 0
    ·rw [if_pos ((empty_iff s).2 h0), if_pos h0]
    ·rw [if_neg (fun e => h0 ((empty_iff s).1 e)), if_neg h0]
   have HR := qh hR
   clear hR HE HB H48
   have hl : s.toList = s.data.toList := ByteArray.toList_eq s
   by_cases h0 : s.size = 0
   ·have hnil : s.toList = [] := by rw [hl]; exact (empty_iff s).2 h0
    have HN := qh (show valR base most s.data.toList = none by rw [HR.out, if_pos h0])
    clear HR hl
    go_wp2
    all_goals
     go_ret2
     exact ⟨⟨n, hn, by rw [HN.out]; rfl, fun v hv => by rw [HN.out] at hv; cases hv⟩, rfl⟩
   ·have hnil : ¬ s.toList = [] := by rw [hl]; exact fun e => h0 ((empty_iff s).1 e)
    by_cases hle : n ≤ most
    ·have HN := qh (show valR base most s.data.toList = some n by rw [HR.out, if_neg h0, if_pos hle])
     clear HR hl
     have hle' : decide ((n : Int) ≤ (most : Int)) = true := by simp; omega
     go_wp2
     all_goals
      go_ret2
      exact ⟨⟨n, hn, by rw [HN.out]; simp; try omega, fun v hv => by rw [HN.out] at hv; injection hv⟩, rfl⟩
    ·have HN := qh (show valR base most s.data.toList = none by rw [HR.out, if_neg h0, if_neg hle])
     clear HR hl
     go_wp2
     all_goals
      go_ret2
      exact ⟨⟨n, hn, by rw [HN.out]; simp; try omega, fun v hv => by rw [HN.out] at hv; cases hv⟩, rfl⟩
def words : List ByteArray := [⟨#[65, 78, 68]⟩, ⟨#[65, 82, 82, 65, 89]⟩, ⟨#[66, 69, 71, 73, 78]⟩, ⟨#[66, 89]⟩, ⟨#[67, 65, 83, 69]⟩, ⟨#[67, 79, 78, 83, 84]⟩, ⟨#[68, 69, 70, 73, 78, 73, 84, 73, 79, 78]⟩, ⟨#[68, 73, 86]⟩, ⟨#[68, 79]⟩, ⟨#[69, 76, 83, 69]⟩, ⟨#[69, 76, 83, 73, 70]⟩, ⟨#[69, 78, 68]⟩, ⟨#[69, 88, 73, 84]⟩, ⟨#[69, 88, 80, 79, 82, 84]⟩, ⟨#[70, 79, 82]⟩, ⟨#[70, 82, 79, 77]⟩, ⟨#[73, 70]⟩, ⟨#[73, 77, 80, 76, 69, 77, 69, 78, 84, 65, 84, 73, 79, 78]⟩, ⟨#[73, 77, 80, 79, 82, 84]⟩, ⟨#[73, 78]⟩, ⟨#[76, 79, 79, 80]⟩, ⟨#[77, 79, 68]⟩, ⟨#[77, 79, 68, 85, 76, 69]⟩, ⟨#[78, 79, 84]⟩, ⟨#[79, 70]⟩, ⟨#[79, 82]⟩, ⟨#[80, 79, 73, 78, 84, 69, 82]⟩, ⟨#[80, 82, 79, 67, 69, 68, 85, 82, 69]⟩, ⟨#[81, 85, 65, 76, 73, 70, 73, 69, 68]⟩, ⟨#[82, 69, 67, 79, 82, 68]⟩, ⟨#[82, 69, 80, 69, 65, 84]⟩, ⟨#[82, 69, 84, 85, 82, 78]⟩, ⟨#[83, 69, 84]⟩, ⟨#[84, 72, 69, 78]⟩, ⟨#[84, 79]⟩, ⟨#[84, 89, 80, 69]⟩, ⟨#[85, 78, 84, 73, 76]⟩, ⟨#[86, 65, 82]⟩, ⟨#[87, 72, 73, 76, 69]⟩, ⟨#[87, 73, 84, 72]⟩]
def wordsV : Array Value := #[.string ⟨#[65, 78, 68]⟩, .string ⟨#[65, 82, 82, 65, 89]⟩, .string ⟨#[66, 69, 71, 73, 78]⟩, .string ⟨#[66, 89]⟩, .string ⟨#[67, 65, 83, 69]⟩, .string ⟨#[67, 79, 78, 83, 84]⟩, .string ⟨#[68, 69, 70, 73, 78, 73, 84, 73, 79, 78]⟩, .string ⟨#[68, 73, 86]⟩, .string ⟨#[68, 79]⟩, .string ⟨#[69, 76, 83, 69]⟩, .string ⟨#[69, 76, 83, 73, 70]⟩, .string ⟨#[69, 78, 68]⟩, .string ⟨#[69, 88, 73, 84]⟩, .string ⟨#[69, 88, 80, 79, 82, 84]⟩, .string ⟨#[70, 79, 82]⟩, .string ⟨#[70, 82, 79, 77]⟩, .string ⟨#[73, 70]⟩, .string ⟨#[73, 77, 80, 76, 69, 77, 69, 78, 84, 65, 84, 73, 79, 78]⟩, .string ⟨#[73, 77, 80, 79, 82, 84]⟩, .string ⟨#[73, 78]⟩, .string ⟨#[76, 79, 79, 80]⟩, .string ⟨#[77, 79, 68]⟩, .string ⟨#[77, 79, 68, 85, 76, 69]⟩, .string ⟨#[78, 79, 84]⟩, .string ⟨#[79, 70]⟩, .string ⟨#[79, 82]⟩, .string ⟨#[80, 79, 73, 78, 84, 69, 82]⟩, .string ⟨#[80, 82, 79, 67, 69, 68, 85, 82, 69]⟩, .string ⟨#[81, 85, 65, 76, 73, 70, 73, 69, 68]⟩, .string ⟨#[82, 69, 67, 79, 82, 68]⟩, .string ⟨#[82, 69, 80, 69, 65, 84]⟩, .string ⟨#[82, 69, 84, 85, 82, 78]⟩, .string ⟨#[83, 69, 84]⟩, .string ⟨#[84, 72, 69, 78]⟩, .string ⟨#[84, 79]⟩, .string ⟨#[84, 89, 80, 69]⟩, .string ⟨#[85, 78, 84, 73, 76]⟩, .string ⟨#[86, 65, 82]⟩, .string ⟨#[87, 72, 73, 76, 69]⟩, .string ⟨#[87, 73, 84, 72]⟩]
theorem wordsV_eq : wordsV = (words.map Value.string).toArray := rfl
theorem wordsV_at (i : Nat) (h : i < words.length) : wordsV[i]? = some (.string words[i]) := by
 rw [wordsV_eq]; simp [h]
def isW (s : ByteArray) : Bool := words.any (fun x => x.data.toList == s.data.toList)
theorem bytes_ext {a b : ByteArray} (h : a.data.toList = b.data.toList) : a = b := by
 cases a; cases b; simp_all
theorem ext_two (s : ByteArray) (k : Nat) (h : k + 1 < s.size) : (s.extract k (k + 2)).toList = [s[k], s[k + 1]] := by
 rw [ByteArray.toList_eq, ByteArray.data_extract, Array.toList_extract, List.extract_eq_take_drop, drop_cons s k (by omega), drop_cons s (k + 1) h]
 simp [show k + 2 - k = 2 from by omega]
theorem Words_any (w : World) : Calls Tryz.prog 52 #[] w fun e w' => e = .returned (.slice (some ⟨w.heap.size, 0, none⟩) 40 40) ∧ w' = w.alloc (.cells wordsV 9) := by
 go_enter Tryz.func52, Tryz.ntmps52
 go_wp2
 go_ret
 exact ⟨rfl, rfl⟩
theorem rWord_any (s : ByteArray) (w : World) : Calls Tryz.prog 40 #[.string s] w fun e w' => e = .returned (.bool (isW s)) ∧ w' = w.alloc (.cells wordsV 9) := by
 go_enter Tryz.func40, Tryz.ntmps40
 have HW := qh (Words_any w)
 go_wp2_with fail
 ((with_reducible refine HW.out.mono ?_); rintro e w1 ⟨rfl, rfl⟩)
 clear HW
 have hcell : ∀ i (h : i < words.length), (w.alloc (.cells wordsV 9)).cell? ⟨w.heap.size, i, none⟩ = some (.string words[i]) := fun i h => by
  rw [cell_of_row _ _ _ _ _ _ (heap_alloc_new w _)]; exact wordsV_at i h
 have HC := qh hcell
 have hlt0 : w.heap.size < (w.alloc (.cells wordsV 9)).heap.size := by simp
 clear hcell
 generalize hW1 : w.alloc (.cells wordsV 9) = W1 at *
 go_wp2
 go_loop [4] (fun i => ∃ k : Nat, k ≤ 40 ∧ i = .int .i64 k ∧ Hid (∀ x ∈ words.take k, x ≠ s)) (fun i => 40 - (intOf i).toNat)
 case atStart => exact ⟨0, by omega, rfl, qh (by simp)⟩
 case round =>
  obtain ⟨k, hk, rfl, HN⟩ := hrel
  by_cases hlt : k < 40
  ·have hkl : k < words.length := hlt
   have hc := HC.out k hkl
   have HT := qh (show words.take (k + 1) = words.take k ++ [words[k]] from by simp)
   have HM := qh (show words[k] ∈ words from by simp)
   generalize words[k] = x at *
   have hi0 : (0 : Int) ≤ (k : Int) := by omega
   have hi1 : (k : Int) < 40 := by omega
   by_cases he : x = s
   ·subst he
    have HR := qh (show isW x = true by unfold isW; exact List.any_eq_true.2 ⟨x, HM.out, by simp⟩)
    clear HM HT
    go_wp2
    all_goals
     go_ret
     exact ⟨ret_bool (by rw [HR.out]), rfl⟩
   ·have HN2 := qh (show ∀ y ∈ words.take (k + 1), y ≠ s by
     intro y hy
     rw [HT.out, List.mem_append, List.mem_singleton] at hy
     rcases hy with hy | rfl
     ·exact HN.out y hy
     ·exact he)
    have hb : (x.toList == s.toList) = false := by
     rw [ByteArray.toList_eq, ByteArray.toList_eq]
     simp only [beq_eq_false_iff_ne, ne_eq]
     exact fun e => he (bytes_ext e)
    clear HM HT HN he
    go_wp2
    go_round
    case rel => exact ⟨k + 1, by omega, by go_num, HN2⟩
    case measure => simp [intOf]; omega
  ·have hk4 : k = 40 := by omega
   subst hk4
   have HR := qh (show isW s = false by
    unfold isW
    rw [List.any_eq_false]
    intro x hx e
    exact HN.out x (by rw [show (40 : Nat) = words.length from rfl, List.take_length]; exact hx) (bytes_ext (by simpa using e)))
   clear HN
   go_wp2
   go_ret
   exact ⟨ret_bool (by rw [HR.out]), rfl⟩
def cmt : Int → Nat → List UInt8 → Nat
 | d, i, a :: b :: r => if a = 40 ∧ b = 42 then cmt (d + 1) (i + 2) r else if a = 42 ∧ b = 41 then (if d - 1 = 0 then i + 2 else cmt (d - 1) (i + 2) r) else cmt d (i + 1) (b :: r)
 | _, _, _ => 0
theorem comment_any (s : ByteArray) (hs : s.size ≤ 9223372036854775800) (w : World) : Calls Tryz.prog 22 #[.string s] w fun e w' => e = .returned (.int .i64 (cmt 0 0 s.data.toList : Nat)) ∧ w = w' := by
 go_enter Tryz.func22, Tryz.ntmps22
 go_wp2
 go_loop [3, 4] (fun dv i => ∃ (d : Int) (k : Nat), k ≤ s.size ∧ i = .int .i64 k ∧ dv = .int .i64 d ∧ - (k : Int) ≤ d ∧ d ≤ k ∧ Hid (cmt 0 0 s.data.toList = cmt d k (s.data.toList.drop k))) (fun _ i => s.size - (intOf i).toNat)
 case atStart => exact ⟨0, 0, Nat.zero_le _, rfl, rfl, by omega, by omega, qh rfl⟩
 case round =>
  obtain ⟨d, k, hk, rfl, rfl, hd0, hd1, HB⟩ := hrel
  by_cases hlt : k + 1 < s.size
  ·have HD := qh (drop_cons s k (by omega))
   have HD2 := qh (drop_cons s (k + 1) hlt)
   have hx0 : (0 : Int) ≤ (k : Int) := by omega
   have hx1 : (k : Int) ≤ (k : Int) + 2 := by omega
   have hx2 : (k : Int) + 2 ≤ (s.size : Int) := by omega
   have hE := ext_two s k hlt
   generalize s[k] = a at *
   generalize s[k + 1] = b at *
   have HC := qh (show cmt d k (s.data.toList.drop k) = if a = 40 ∧ b = 42 then cmt (d + 1) (k + 2) (s.data.toList.drop (k + 2)) else if a = 42 ∧ b = 41 then (if d - 1 = 0 then k + 2 else cmt (d - 1) (k + 2) (s.data.toList.drop (k + 2))) else cmt d (k + 1) (s.data.toList.drop (k + 1)) by rw [HD.out, HD2.out]; rfl)
   clear HD HD2
   by_cases h1 : a = 40 ∧ b = 42
   ·have hb : ((s.extract k (k + 2)).toList == [40, 42]) = true := by rw [hE, h1.1, h1.2]; rfl
    have HN := qh (show cmt 0 0 s.data.toList = cmt (d + 1) (k + 2) (s.data.toList.drop (k + 2)) by rw [HB.out, HC.out, if_pos h1])
    clear hE HB HC h1
    go_wp2
    go_round
    case rel => exact ⟨d + 1, k + 2, by omega, by go_num, by go_num, by omega, by omega, HN⟩
    case measure => simp [intOf]; omega
   ·have hb : ((s.extract k (k + 2)).toList == [40, 42]) = false := by
     rw [hE]; simp only [beq_eq_false_iff_ne, ne_eq, List.cons.injEq, and_true]; exact h1
    by_cases h2 : a = 42 ∧ b = 41
    ·have hb2 : ((s.extract k (k + 2)).toList == [42, 41]) = true := by rw [hE, h2.1, h2.2]; rfl
     by_cases h3 : d - 1 = 0
     ·have hb3 : (d - 1 == 0) = true := by simp [h3]
      have HN := qh (show cmt 0 0 s.data.toList = k + 2 by rw [HB.out, HC.out, if_neg h1, if_pos h2, if_pos h3])
      clear hE HB HC h1 h2 h3
      go_wp2
      go_ret
      exact ⟨ret_int (by rw [HN.out]; simp), rfl⟩
     ·have hb3 : (d - 1 == 0) = false := by simpa using h3
      have HN := qh (show cmt 0 0 s.data.toList = cmt (d - 1) (k + 2) (s.data.toList.drop (k + 2)) by rw [HB.out, HC.out, if_neg h1, if_pos h2, if_neg h3])
      clear hE HB HC h1 h2 h3
      go_wp2
      go_round
      case rel => exact ⟨d - 1, k + 2, by omega, by go_num, by go_num, by omega, by omega, HN⟩
      case measure => simp [intOf]; omega
    ·have hb2 : ((s.extract k (k + 2)).toList == [42, 41]) = false := by
      rw [hE]; simp only [beq_eq_false_iff_ne, ne_eq, List.cons.injEq, and_true]; exact h2
     have HN := qh (show cmt 0 0 s.data.toList = cmt d (k + 1) (s.data.toList.drop (k + 1)) by rw [HB.out, HC.out, if_neg h1, if_neg h2])
     clear hE HB HC h1 h2
     go_wp2
     go_round
     case rel => exact ⟨d, k + 1, by omega, by go_num, rfl, by omega, by omega, HN⟩
     case measure => simp [intOf]; omega
  ·have HN := qh (show cmt 0 0 s.data.toList = 0 by
    rw [HB.out]
    have hl : (s.data.toList.drop k).length ≤ 1 := by rw [List.length_drop]; simp; omega
    rcases h : s.data.toList.drop k with _ | ⟨a, _ | ⟨b, r⟩⟩
    ·rfl
    ·rfl
    ·rw [h] at hl; simp at hl)
   clear HB
   go_wp2
   go_ret
   exact ⟨ret_int (by rw [HN.out]; rfl), rfl⟩
end Lx
namespace Lx
open Go.RowKit
open Pl Fl
def Blk (w : World) (g : Nat) (t : TypeId) (cs : Array Value) : Prop := w.heap[g]? = some (.cells cs t (0, 0))
section
variable {w w' : World} {g : Nat} {t : TypeId} {cs : Array Value}
theorem Blk.lt (h : Blk w g t cs) : g < w.heap.size := by
 rcases Nat.lt_or_ge g w.heap.size with hlt | hge
 ·exact hlt
 ·unfold Blk at h; rw [Array.getElem?_eq_none hge] at h; cases h
theorem Blk.cell (h : Blk w g t cs) (i : Nat) : w.cell? ⟨g, i, none⟩ = cs[i]? := cell_of_row w g i cs t (0, 0) h
theorem Blk.frozen (h : Blk w g t cs) (i : Nat) : w.frozen? ⟨g, i, none⟩ = false := by
 unfold Blk at h
 simp [World.frozen?, h]
theorem Blk.new (w : World) (t : TypeId) (cs : Array Value) : Blk (w.alloc (.cells cs t)) w.heap.size t cs := heap_alloc_new w _
theorem Blk.drewN (h : Blk w g t cs) (n : Nat) : Blk (w.drewN n) g t cs := h
theorem Blk.alloc (h : Blk w g t cs) (o : Obj) : Blk (w.alloc o) g t cs := (Below.heap_alloc w o g h.lt).trans h
theorem Blk.set_ (h : Blk w g t cs) (i : Nat) (u : Value) : Blk (w.setCell ⟨g, i, none⟩ u) g t (cs.setIfInBounds i u) := by
 unfold Blk at h ⊢
 simp [World.setCell, Array.getElem?_modify, h]
theorem Blk.far (h : Blk w g t cs) {p : Addr} (hp : g ≠ p.block) (u : Value) : Blk (w.setCell p u) g t cs := (Below.heap_setCell w p u g hp).trans h
theorem Blk.below {B : Nat} (h : Blk w g t cs) (hb : Below B w w') (hg : g < B) : Blk w' g t cs := (hb.block g hg).trans h
theorem Blk.grown {row : Option Nat} (h : Blk w g t cs) (hb : w.grownBy w' row) (hg : some g ≠ row) : Blk w' g t cs := (hb.block g h.lt hg).trans h
end
structure Tk where
 kind : Nat
 text : ByteArray
 n : Int
def Tk.vals (t : Tk) (p q : Nat × Nat) : List Value := [.int .u8 t.kind, C p, C q, .string t.text, .int .i64 t.n]
def Tk.val (t : Tk) (p q : Nat × Nat) : Value := .agg (t.vals p q).toArray
def noTk : Tk := ⟨0, ⟨#[]⟩, 0⟩
theorem tok_load {w : World} {b : Nat} {v0 v1 v2 v3 v4 : Value} (h : Blk w b 40 #[v0, v1, v2, v3, v4]) : (loadVar 40 ⟨b, 0, none⟩).run Tryz.prog w = .ok (.agg #[v0, v1, v2, v3, v4]) w := by
 have hl : (loadCells ⟨b, 0, none⟩ 5).run Tryz.prog w = .ok #[v0, v1, v2, v3, v4] w :=
  run_loadCells_list (P := Tryz.prog) w ⟨b, 0, none⟩ [v0, v1, v2, v3, v4] (fun j v hv => by
   have := h.cell j
   have e : (⟨b, 0, none⟩ : Addr).add j = ⟨b, j, none⟩ := by
    unfold Addr.add
    by_cases h0 : j = 0
    ·subst h0; rfl
    ·rw [if_neg h0]; simp
   rw [e, this]
   simpa using hv)
 simp [loadVar, Sem.run_bind, Tryz.isAgg40, Tryz.sizeOf40, hl]
theorem tok_ret1 {fn : Func} {p : Tmp} (h : fn.results = #[.cell p 40]) (tmps : Array Value) (w : World) (b : Nat) (v0 v1 v2 v3 v4 : Value) (hp : tmps.getD p undef = .pointer (some ⟨b, 0, none⟩)) (hb : Blk w b 40 #[v0, v1, v2, v3, v4]) :
 (results fn tmps).run Tryz.prog w = .ok (.agg #[v0, v1, v2, v3, v4]) w := by
 have hp' : tmps[p]?.getD undef = .pointer (some ⟨b, 0, none⟩) := by simpa using hp
 simp [results, h, hp', asAddr, tok_load hb]
theorem tok_ret2 {fn : Func} {p q : Tmp} (h : fn.results = #[.cell p 40, .tmp q]) (tmps : Array Value) (w : World) (b : Nat) (v0 v1 v2 v3 v4 : Value) (hp : tmps.getD p undef = .pointer (some ⟨b, 0, none⟩)) (hb : Blk w b 40 #[v0, v1, v2, v3, v4]) :
 (results fn tmps).run Tryz.prog w = .ok (.tuple #[.agg #[v0, v1, v2, v3, v4], tmps.getD q undef]) w := by
 have hp' : tmps[p]?.getD undef = .pointer (some ⟨b, 0, none⟩) := by simpa using hp
 simp [results, h, hp', asAddr, tok_load hb, Sem.run_bind]
theorem tok_ret3 {fn : Func} {p q r : Tmp} (h : fn.results = #[.cell p 40, .tmp q, .tmp r]) (tmps : Array Value) (w : World) (b : Nat) (v0 v1 v2 v3 v4 : Value) (hp : tmps.getD p undef = .pointer (some ⟨b, 0, none⟩)) (hb : Blk w b 40 #[v0, v1, v2, v3, v4]) :
 (results fn tmps).run Tryz.prog w = .ok (.tuple #[.agg #[v0, v1, v2, v3, v4], tmps.getD q undef, tmps.getD r undef]) w := by
 have hp' : tmps[p]?.getD undef = .pointer (some ⟨b, 0, none⟩) := by simpa using hp
 simp [results, h, hp', asAddr, tok_load hb, Sem.run_bind]
def plainT (s : ByteArray) : Tk := if s.data.toList = [60, 62] then ⟨5, ⟨#[35]⟩, 0⟩ else if s.data.toList = [38] then ⟨6, ⟨#[65, 78, 68]⟩, 0⟩ else if s.data.toList = [126] then ⟨6, ⟨#[78, 79, 84]⟩, 0⟩ else ⟨5, s, 0⟩
theorem run_store_complexL {P : Program} {w : World} {a : Addr} {m : Mode} (k : FloatKind) (x y : Nat) : (store a (.complex k x y) m).run P w = stored P w a (.complex k x y) m := run_store P w a _ m rfl
attribute [local go_sem] run_store_complexL
theorem plain_any (s : ByteArray) (w : World) : Calls Tryz.prog 43 #[.string s] w fun e w' => e = .returned ((plainT s).val (0, 0) (0, 0)) ∧ Below w.heap.size w w' := by
 go_enter Tryz.func43, Tryz.ntmps43
 have hl : s.toList = s.data.toList := ByteArray.toList_eq s
 by_cases h1 : s.data.toList = [60, 62]
 ·have b0 : (s.toList == [60, 62]) = true := by rw [hl, h1]; rfl
  have HP := qh (show plainT s = ⟨5, ⟨#[35]⟩, 0⟩ by unfold plainT; rw [if_pos h1])
  clear hl
  go_wp2
  refine bodyPost_ret (tok_ret1 rfl _ _ w.heap.size _ _ _ _ _ rfl (Blk.new _ _ _)) rfl ?_
  exact ⟨by rw [HP.out]; simp [Tk.val, Tk.vals, C, fl_0], (Below.refl _ _).alloc nl _⟩
 have b0 : (s.toList == [60, 62]) = false := by rw [hl]; simpa using h1
 by_cases h2 : s.data.toList = [38]
 ·have b1 : (s.toList == [38]) = true := by rw [hl, h2]; rfl
  have HP := qh (show plainT s = ⟨6, ⟨#[65, 78, 68]⟩, 0⟩ by unfold plainT; rw [if_neg h1, if_pos h2])
  clear hl
  go_wp2
  refine bodyPost_ret (tok_ret1 rfl _ _ w.heap.size _ _ _ _ _ rfl (Blk.new _ _ _)) rfl ?_
  exact ⟨by rw [HP.out]; simp [Tk.val, Tk.vals, C, fl_0], (Below.refl _ _).alloc nl _⟩
 have b1 : (s.toList == [38]) = false := by rw [hl]; simpa using h2
 by_cases h3 : s.data.toList = [126]
 ·have b2 : (s.toList == [126]) = true := by rw [hl, h3]; rfl
  have HP := qh (show plainT s = ⟨6, ⟨#[78, 79, 84]⟩, 0⟩ by unfold plainT; rw [if_neg h1, if_neg h2, if_pos h3])
  clear hl
  go_wp2
  refine bodyPost_ret (tok_ret1 rfl _ _ w.heap.size _ _ _ _ _ rfl (Blk.new _ _ _)) rfl ?_
  exact ⟨by rw [HP.out]; simp [Tk.val, Tk.vals, C, fl_0], (Below.refl _ _).alloc nl _⟩
 have b2 : (s.toList == [126]) = false := by rw [hl]; simpa using h3
 have HP := qh (show plainT s = ⟨5, s, 0⟩ by unfold plainT; rw [if_neg h1, if_neg h2, if_neg h3])
 clear hl
 go_wp2
 refine bodyPost_ret (tok_ret1 rfl _ _ w.heap.size _ _ _ _ _ rfl (Blk.new _ _ _)) rfl ?_
 exact ⟨by rw [HP.out]; simp [Tk.val, Tk.vals, C, fl_0], (Below.refl _ _).alloc nl _⟩
end Lx
namespace Lx
open Go.RowKit
open Pl Fl
def mkNum (k v : Nat) : Tk := ⟨k, ⟨#[]⟩, v⟩
def numX (x : UInt8) (h s : List UInt8) : Option Tk :=
 if x = 72 then (valR 16 65535 h).map (mkNum 2)
 else if (valR 10 65535 s).isSome then (valR 10 65535 s).map (mkNum 2)
 else if x = 66 then (valR 8 65535 h).map (mkNum 2)
 else if x = 67 then (valR 8 255 h).map (mkNum 3) else none
attribute [local go_sem] run_store_complexL
def numN (s : List UInt8) : Option Tk := numX (s.getLast?.getD 0) s.dropLast s
theorem head_list (s : ByteArray) : (s.extract 0 (s.size - 1)).data.toList = s.data.toList.dropLast := by
 rw [ByteArray.data_extract, Array.toList_extract, List.extract_eq_take_drop, List.dropLast_eq_take]; simp
theorem last_list (s : ByteArray) (h : s.size - 1 < s.size) : s.data.toList.getLast? = some s[s.size - 1] := by
 rw [List.getLast?_eq_getElem?]
 have hl : s.data.toList.length - 1 < s.data.toList.length := by simp; omega
 rw [List.getElem?_eq_getElem hl]
 simp; rfl
theorem val_num (k m : Nat) : (mkNum k m).val (0, 0) (0, 0) = .agg #[.int .u8 k, .complex .f64 0 0, .complex .f64 0 0, .string ⟨#[]⟩, .int .i64 m] := by
 simp [mkNum, Tk.val, Tk.vals, C, fl_0]
theorem number_any (s : ByteArray) (h0 : 1 ≤ s.size) (hs : s.size ≤ 9223372036854775800) (h48 : ∀ c ∈ s.data.toList, 48 ≤ c.toNat) (w : World) :
 Calls Tryz.prog 41 #[.string s] w fun e w' => (∃ t : Tk, e = .returned (.tuple #[t.val (0, 0) (0, 0), .bool (numN s.data.toList).isSome]) ∧ (∀ t', numN s.data.toList = some t' → t = t')) ∧ Below w.heap.size w w' := by
 have hll := last_list s (by omega)
 have hx := u8_lt s[s.size - 1]
 have h48h : ∀ c ∈ (s.extract 0 (s.size - 1)).data.toList, 48 ≤ c.toNat := fun c hc => h48 c (by rw [head_list] at hc; exact List.dropLast_subset _ hc)
 have hsz : (s.extract 0 (s.size - 1)).size = s.size - 1 := by simp
 have hm1 : ((s.size : Int) - 1) = ((s.size - 1 : Nat) : Int) := by omega
 have v16 := fun w => value_any (s.extract 0 (s.size - 1)) 16 65535 (by omega) (by omega) (by omega) h48h w
 have v10 := fun w => value_any s 10 65535 (by omega) (by omega) (by omega) h48 w
 have v8 := fun w => value_any (s.extract 0 (s.size - 1)) 8 65535 (by omega) (by omega) (by omega) h48h w
 have vc := fun w => value_any (s.extract 0 (s.size - 1)) 8 255 (by omega) (by omega) (by omega) h48h w
 rw [head_list] at v16 v8 vc
 rw [show ((65535 : Nat) : Int) = 65535 from rfl] at v16 v10 v8
 rw [show ((16 : Nat) : Int) = 16 from rfl] at v16
 rw [show ((10 : Nat) : Int) = 10 from rfl] at v10
 rw [show ((8 : Nat) : Int) = 8 from rfl] at v8 vc
 rw [show ((255 : Nat) : Int) = 255 from rfl] at vc
 have V16 := qh v16
 have V10 := qh v10
 have V8 := qh v8
 have VC := qh vc
 have HNd := qh (show numN s.data.toList = numX s[s.size - 1] s.data.toList.dropLast s.data.toList by unfold numN; rw [hll]; rfl)
 clear hll h48 h48h v16 v10 v8 vc
 generalize numN s.data.toList = NN at *
 have i0 : (0 : Int) ≤ ((s.size - 1 : Nat) : Int) := by omega
 have i1 : ((s.size - 1 : Nat) : Int) < (s.size : Int) := by omega
 have hkk : s.size - 1 < s.size := by omega
 have tn : ∀ n : Nat, n < 256 → ∀ x : UInt8, x ≠ UInt8.ofNat n → ((x.toNat : Int) == (n : Int)) = false := by
  intro n hn x hx
  simp only [beq_eq_false_iff_ne, ne_eq]
  intro e
  apply hx
  apply UInt8.toNat_inj.1
  simp
  omega
 have g72 : s[s.size - 1] ≠ 72 → ((s[s.size - 1].toNat : Int) == 72) = false := tn 72 (by omega) _
 have g66 : s[s.size - 1] ≠ 66 → ((s[s.size - 1].toNat : Int) == 66) = false := tn 66 (by omega) _
 have g67 : s[s.size - 1] ≠ 67 → ((s[s.size - 1].toNat : Int) == 67) = false := tn 67 (by omega) _
 go_enter Tryz.func41, Tryz.ntmps41
 by_cases h72 : s[s.size - 1] = 72
 ·have b72 : ((s[s.size - 1].toNat : Int) == 72) = true := by rw [h72]; rfl
  have HR := qh (show NN = (valR 16 65535 s.data.toList.dropLast).map (mkNum 2) by rw [HNd.out]; unfold numX; rw [if_pos h72])
  clear g72 g66 g67 HNd h72
  generalize valR 16 65535 s.data.toList.dropLast = vr at *
  go_wp2_with fail
  ((with_reducible refine (V16.out _).mono ?_); rintro e w1 ⟨⟨m, hm, rfl, hv⟩, rfl⟩)
  have HV := qh hv
  clear hv
  go_wp2
  (try simp only [Exit.inBlock, Exit.then])
  refine bodyPost_ret (tok_ret2 rfl _ _ w.heap.size _ _ _ _ _ rfl (Blk.new _ _ _)) rfl ?_
  refine ⟨⟨mkNum 2 m, by rw [val_num, HR.out]; simp, fun t' ht => ?_⟩, (Below.refl _ _).alloc nl _⟩
  rw [HR.out] at ht
  obtain ⟨v, hv1, rfl⟩ := Option.map_eq_some_iff.1 ht
  rw [HV.out v hv1]
 ·have b72 := g72 h72
  go_wp2_with fail
  ((with_reducible refine (V10.out _).mono ?_); rintro e w1 ⟨⟨m10, hm10, rfl, hv⟩, rfl⟩)
  cases hd : valR 10 65535 s.data.toList with
  | some v10 =>
    have hm := hv v10 hd
    have HR := qh (show NN = some (mkNum 2 m10) by rw [HNd.out]; unfold numX; rw [if_neg h72, hd, hm]; rfl)
    simp only [Option.isSome_some]
    clear g72 g66 g67 HNd h72 hv hd hm
    go_wp2
    (try simp only [Exit.inBlock, Exit.then])
    refine bodyPost_ret (tok_ret2 rfl _ _ w.heap.size _ _ _ _ _ rfl (Blk.new _ _ _)) rfl ?_
    exact ⟨⟨mkNum 2 m10, by rw [val_num, HR.out]; rfl, fun t' ht => by rw [HR.out] at ht; injection ht⟩, (Below.refl _ _).alloc nl _⟩
  | none =>
    have hN : NN = if s[s.size - 1] = 66 then (valR 8 65535 s.data.toList.dropLast).map (mkNum 2) else if s[s.size - 1] = 67 then (valR 8 255 s.data.toList.dropLast).map (mkNum 3) else none := by rw [HNd.out]; unfold numX; rw [if_neg h72, hd]; rfl
    simp only [Option.isSome_none]
    clear hv hd HNd h72 g72
    by_cases h66 : s[s.size - 1] = 66
    ·have b66 : ((s[s.size - 1].toNat : Int) == 66) = true := by rw [h66]; rfl
     rw [if_pos h66] at hN
     have HR := qh hN
     clear g66 g67 hN h66
     generalize valR 8 65535 s.data.toList.dropLast = vr at *
     go_wp2_with fail
     ((with_reducible refine (V8.out _).mono ?_); rintro e w1 ⟨⟨m, hm, rfl, hv⟩, rfl⟩)
     have HV := qh hv
     clear hv
     go_wp2
     (try simp only [Exit.inBlock, Exit.then])
     refine bodyPost_ret (tok_ret2 rfl _ _ w.heap.size _ _ _ _ _ rfl (Blk.new _ _ _)) rfl ?_
     refine ⟨⟨mkNum 2 m, by rw [val_num, HR.out]; simp, fun t' ht => ?_⟩, (Below.refl _ _).alloc nl _⟩
     rw [HR.out] at ht
     obtain ⟨v, hv1, rfl⟩ := Option.map_eq_some_iff.1 ht
     rw [HV.out v hv1]
    ·have b66 := g66 h66
     rw [if_neg h66] at hN
     by_cases h67 : s[s.size - 1] = 67
     ·have b67 : ((s[s.size - 1].toNat : Int) == 67) = true := by rw [h67]; rfl
      rw [if_pos h67] at hN
      have HR := qh hN
      clear g66 g67 hN h66 h67
      generalize valR 8 255 s.data.toList.dropLast = vr at *
      go_wp2_with fail
      ((with_reducible refine (VC.out _).mono ?_); rintro e w1 ⟨⟨m, hm, rfl, hv⟩, rfl⟩)
      have HV := qh hv
      clear hv
      go_wp2
      (try simp only [Exit.inBlock, Exit.then])
      refine bodyPost_ret (tok_ret2 rfl _ _ w.heap.size _ _ _ _ _ rfl (Blk.new _ _ _)) rfl ?_
      refine ⟨⟨mkNum 3 m, by rw [val_num, HR.out]; simp, fun t' ht => ?_⟩, (Below.refl _ _).alloc nl _⟩
      rw [HR.out] at ht
      obtain ⟨v, hv1, rfl⟩ := Option.map_eq_some_iff.1 ht
      rw [HV.out v hv1]
     ·have b67 := g67 h67
      rw [if_neg h67] at hN
      have HR := qh hN
      clear g66 g67 hN h66 h67
      go_wp2
      (try simp only [Exit.inBlock, Exit.then])
      refine bodyPost_ret (tok_ret2 rfl _ _ w.heap.size _ _ _ _ _ rfl (Blk.new _ _ _)) rfl ?_
      exact ⟨⟨noTk, by rw [HR.out]; simp [noTk, Tk.val, Tk.vals, C, fl_0], fun t' ht => by rw [HR.out] at ht; cases ht⟩, (Below.refl _ _).alloc nl _⟩
end Lx
namespace Lx
open Go.RowKit
open Pl Fl
def twos : List ByteArray := [⟨#[58, 61]⟩, ⟨#[60, 62]⟩, ⟨#[60, 61]⟩, ⟨#[62, 61]⟩, ⟨#[46, 46]⟩]
def ones : List UInt8 := [43, 45, 42, 47, 126, 46, 44, 59, 40, 91, 123, 94, 61, 35, 60, 62, 58, 41, 93, 125, 124, 38]
def onesB : ByteArray := ⟨#[43, 45, 42, 47, 126, 46, 44, 59, 40, 91, 123, 94, 61, 35, 60, 62, 58, 41, 93, 125, 124, 38]⟩
def symN (s : List UInt8) : Nat := if twos.any (fun x => x.data.toList == s.take 2) then 2 else if ones.any (fun c => s.head? == some c) then 1 else 0
def twosV : Array Value := #[.string ⟨#[58, 61]⟩, .string ⟨#[60, 62]⟩, .string ⟨#[60, 61]⟩, .string ⟨#[62, 61]⟩, .string ⟨#[46, 46]⟩]
theorem twosV_eq : twosV = (twos.map Value.string).toArray := rfl
theorem twosV_at (i : Nat) (h : i < twos.length) : twosV[i]? = some (.string twos[i]) := by
 rw [twosV_eq]; simp [h]
theorem twos_size : ∀ x ∈ twos, x.data.toList.length = 2 := by decide
theorem ext_front (s : ByteArray) : (s.extract 0 2).toList = s.data.toList.take 2 := by
 rw [ByteArray.toList_eq, ByteArray.data_extract, Array.toList_extract, List.extract_eq_take_drop]; simp
theorem below_drewN {B : Nat} {w wr : World} (h : Below B w wr) (n : Nat) : Below B w (wr.drewN n) := ⟨h.os, h.tape, h.output, h.size, h.block⟩
theorem symbol_any (s : ByteArray) (h0 : 1 ≤ s.size) (hs : s.size ≤ 9223372036854775800) (w : World) :
 Calls Tryz.prog 42 #[.string s] w fun e w' => e = .returned (.int .i64 (symN s.data.toList : Nat)) ∧ Below w.heap.size w w' := by
 go_enter Tryz.func42, Tryz.ntmps42
 go_upto_region 2 with (fail)
 have hcell : ∀ i (h : i < twos.length), (w.alloc (.cells twosV 9)).cell? ⟨w.heap.size, i, none⟩ = some (.string twos[i]) := fun i h => by
  rw [cell_of_row _ _ _ _ _ _ (heap_alloc_new w _)]; exact twosV_at i h
 have HC := qh hcell
 have HB := qh ((Below.refl w.heap.size w).alloc nl (.cells twosV 9))
 have hlt0 : w.heap.size < (w.alloc (.cells twosV 9)).heap.size := by simp
 clear hcell
 have hcs : (w.alloc (.cells twosV 9)) = w.alloc (.cells #[.string ⟨#[58, 61]⟩, .string ⟨#[60, 62]⟩, .string ⟨#[60, 61]⟩, .string ⟨#[62, 61]⟩, .string ⟨#[46, 46]⟩] 9) := rfl
 rw [hcs] at HC HB hlt0
 clear hcs
 go_wp2
 go_loopw [4] (fun i wr => ∃ k : Nat, k ≤ 5 ∧ i = .int .i64 k ∧ Hid (Below w.heap.size w wr) ∧ Hid (∀ i (h : i < twos.length), wr.cell? ⟨w.heap.size, i, none⟩ = some (.string twos[i])) ∧ Hid (∀ x ∈ twos.take k, ¬ x.data.toList = s.data.toList.take 2)) (fun i _ => 5 - (intOf i).toNat)
 case atStart => exact ⟨0, by omega, rfl, HB, HC, qh (by simp)⟩
 case round =>
  obtain ⟨k, hk, rfl, HB2, HC2, HN⟩ := hrel
  by_cases hlt : k < 5
  ·have hkl : k < twos.length := hlt
   have hc := HC2.out k hkl
   have HT := qh (show twos.take (k + 1) = twos.take k ++ [twos[k]] from by simp)
   have HM := qh (show twos[k] ∈ twos from by simp)
   have h2 := twos_size twos[k] HM.out
   generalize twos[k] = x at *
   have hi0 : (0 : Int) ≤ (k : Int) := by omega
   have hi1 : (k : Int) < 5 := by omega
   have HX : ¬ x.data.toList = s.data.toList.take 2 → Hid (∀ y ∈ twos.take (k + 1), ¬ y.data.toList = s.data.toList.take 2) := fun hne => qh (by
    intro y hy
    rw [HT.out, List.mem_append, List.mem_singleton] at hy
    rcases hy with hy | rfl
    ·exact HN.out y hy
    ·exact hne)
   by_cases hs2 : s.size < 2
   ·have hb3 : ¬ (2 : Int) ≤ (s.size : Int) := by omega
    have HN2 := HX (fun e => by have := congrArg List.length e; simp at this; simp at h2; omega)
    clear HX HT HM h2
    have hb2 : decide ((2 : Int) ≤ (s.size : Int)) = false := by simp; omega
    go_wp2
    go_quiet (fail)
    go_wp2
    go_roundw
    case rel => exact ⟨k + 1, by omega, by go_num, qh (below_drewN HB2.out _), qh HC2.out, HN2⟩
    case measure => simp [intOf]; omega
   ·have hb3 : (2 : Int) ≤ (s.size : Int) := by omega
    have hE := ext_front s
    by_cases he : x.data.toList = s.data.toList.take 2
    ·have hb4 : ((s.extract 0 2).toList == x.toList) = true := by rw [hE, ByteArray.toList_eq, he]; simp
     have HR := qh (show symN s.data.toList = 2 by unfold symN; rw [if_pos (List.any_eq_true.2 ⟨x, HM.out, by simpa using he⟩)])
     clear HX HT HM h2 hE he
     go_wp2
     go_quiet (fail)
     go_wp2
     go_ret
     exact ⟨ret_int (by rw [HR.out]; rfl), below_drewN HB2.out _⟩
    ·have hb4 : ((s.extract 0 2).toList == x.toList) = false := by
      rw [hE, ByteArray.toList_eq]
      simp only [beq_eq_false_iff_ne, ne_eq]
      exact fun e => he e.symm
     have HN2 := HX he
     clear HX HT HM h2 hE he
     go_wp2
     go_quiet (fail)
     go_wp2
     go_roundw
     case rel => exact ⟨k + 1, by omega, by go_num, qh (below_drewN HB2.out _), qh HC2.out, HN2⟩
     case measure => simp [intOf]; omega
  ·have HNT := qh (show twos.any (fun x => x.data.toList == s.data.toList.take 2) = false by
    rw [List.any_eq_false]
    intro x hx e
    exact HN.out x (by rw [show k = twos.length from by show k = 5; omega, List.take_length]; exact hx) (by simpa using e))
   clear HN HC2
   have hk5 : k = 5 := by omega
   subst hk5
   go_wp2
   have hx0 : (0 : Int) < (s.size : Int) := by omega
   have hob : Hid (onesB.size = 22 ∧ onesB.data.toList = ones) := qh ⟨rfl, rfl⟩
   unfold onesB at hob
   generalize hO : (⟨#[43, 45, 42, 47, 126, 46, 44, 59, 40, 91, 123, 94, 61, 35, 60, 62, 58, 41, 93, 125, 124, 38]⟩ : ByteArray) = ob at *
   have hsz := hob.out.1
   clear hO
   go_loopw [6] (fun i wr => ∃ j : Nat, j ≤ 22 ∧ i = .int .i64 j ∧ Hid (Below w.heap.size w wr) ∧ Hid (∀ c ∈ ones.take j, ¬ s.data.toList.head? = some c)) (fun i _ => 22 - (intOf i).toNat)
   case atStart => exact ⟨0, by omega, rfl, HB2, qh (by simp)⟩
   case round =>
    obtain ⟨j, hj, rfl, HB3, HN⟩ := hrel
    by_cases hlt2 : j < 22
    ·have hjl : j < ob.size := by omega
     have hi0 : (0 : Int) ≤ (j : Int) := by omega
     have hi1 : (j : Int) < (ob.size : Int) := by omega
     have h00 : 0 < s.size := by omega
     have HH := qh (show s.data.toList.head? = some s[0] by have := drop_cons s 0 h00; rw [List.drop_zero] at this; rw [this]; rfl)
     have HO := qh (show ones.take (j + 1) = ones.take j ++ [ob[j]] by
      have h1 := drop_cons ob j hjl
      rw [hob.out.2] at h1
      have h2 : (ones.drop j).take 1 = [ob[j]] := by rw [h1]; rfl
      rw [← h2, List.take_add])
     by_cases he : s[0] = ob[j]
     ·have hb : (((s[0]).toNat : Int) == ((ob[j]).toNat : Int)) = true := by rw [he]; simp
      have HR := qh (show symN s.data.toList = 1 by
       unfold symN
       rw [if_neg (by rw [HNT.out]; simp), if_pos]
       refine List.any_eq_true.2 ⟨ob[j], ?_, by rw [HH.out, he]; simp⟩
       have : ob[j] ∈ ones.take (j + 1) := by rw [HO.out]; simp
       exact List.mem_of_mem_take this)
      clear HO HH he HNT
      go_wp2
      go_quiet (fail)
      go_wp2
      go_ret
      exact ⟨ret_int (by rw [HR.out]; rfl), below_drewN HB3.out _⟩
     ·have hb : (((s[0]).toNat : Int) == ((ob[j]).toNat : Int)) = false := by
       simp only [beq_eq_false_iff_ne, ne_eq]
       exact fun e => he (UInt8.toNat_inj.1 (by omega))
      have HN2 := qh (show ∀ c ∈ ones.take (j + 1), ¬ s.data.toList.head? = some c by
       intro c hc
       rw [HO.out, List.mem_append, List.mem_singleton] at hc
       rcases hc with hc | rfl
       ·exact HN.out c hc
       ·rw [HH.out]; intro e; injection e with e; exact he e)
      clear HO HH he HN
      go_wp2
      go_quiet (fail)
      go_wp2
      go_roundw
      case rel => exact ⟨j + 1, by omega, by go_num, qh (below_drewN HB3.out _), HN2⟩
      case measure => simp [intOf]; omega
    ·have HR := qh (show symN s.data.toList = 0 by
      unfold symN
      rw [if_neg (by rw [HNT.out]; simp), if_neg]
      intro h
      obtain ⟨c, hc, e⟩ := List.any_eq_true.1 h
      refine HN.out c (by rw [show j = ones.length from by show j = 22; omega, List.take_length]; exact hc) (by simpa using e))
     have hj2 : j = 22 := by omega
     subst hj2
     clear HN HNT
     go_wp2
     go_ret
     exact ⟨ret_int (by rw [HR.out]; rfl), HB3.out⟩
end Lx
end Go.Proofs.YtkemhmfdooghkaaGreatDoor
