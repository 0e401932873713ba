import Derived.Test.YtkemhmfdooghkaaGreatDoorX40
import Derived.Lib.ConvBytes
import Derived.Lib.Strings
import Derived.Lib.Walk
import Derived.Lib.AtoiAllMem
import Derived.Laws.Strings3
import Derived.Laws.Closers25
import Derived.Laws.Closers25b
import Derived.BigCall
import Derived.BigGuard
set_option linter.unusedSimpArgs false
set_option linter.unusedVariables false
set_option maxRecDepth 100000
set_option maxHeartbeats 6400000
namespace Go.Proofs.YtkemhmfdooghkaaGreatDoor
namespace Lx
open Go.RowKit
open Pl Fl
def pU (B : Nat) : Nat → List UInt8 → Except Nat Nat
 | n, [] => .ok n
 | n, c :: r => if B ≤ dgt c then .error 2 else if 18446744073709551616 ≤ n * B + dgt c then .error 1 else pU B (n * B + dgt c) r
def pUEnd (r : Except Nat Nat) (e : Ending) : Prop := match r with
 | .ok v => e = .returned (.tuple #[.int .u64 v, .nilIface])
 | .error k => ∃ v : Int, e = .returned (.tuple #[.int .u64 v, .iface 145 (.int .i64 k)])
theorem lower_hex (c : UInt8) (h1 : 65 ≤ c.toNat) (h2 : c.toNat ≤ 70) (w : World) : Calls Tryz.prog 126 #[.int .u8 c.toNat] w fun e w' => e = .returned (.int .u8 ((c.toNat : Int) + 32)) ∧ w' = w := by
 refine (Tryz.internal_strconv_lower (c.toNat : Int) w).mono fun e w' ⟨he, hw⟩ => ⟨?_, hw⟩
 rw [he]
 have : c.toNat = 65 ∨ c.toNat = 66 ∨ c.toNat = 67 ∨ c.toNat = 68 ∨ c.toNat = 69 ∨ c.toNat = 70 := by omega
 rcases this with h | h | h | h | h | h <;> (rw [h]; rfl)
theorem pU_bad {B : Nat} {c : UInt8} (h : B ≤ dgt c) (n : Nat) (r : List UInt8) : pU B n (c :: r) = .error 2 := by unfold pU; rw [if_pos h]
theorem pU_big {B : Nat} {c : UInt8} (h : ¬ B ≤ dgt c) {n : Nat} (h2 : 18446744073709551616 ≤ n * B + dgt c) (r : List UInt8) : pU B n (c :: r) = .error 1 := by unfold pU; rw [if_neg h, if_pos h2]
theorem pU_step {B : Nat} {c : UInt8} (h : ¬ B ≤ dgt c) {n : Nat} (h2 : ¬ 18446744073709551616 ≤ n * B + dgt c) (r : List UInt8) : pU B n (c :: r) = pU B (n * B + dgt c) r := by rw [pU, if_neg h, if_neg h2]
theorem parseI8 (t : ByteArray) (hne : t.size ≠ 0) (hmax : t.size ≤ 9223372036854775800) (hX : ∀ c ∈ t.data.toList, isX c = true) (w : World) :
 Calls Tryz.prog 104 #[.string t, .int .i64 8, .int .i64 64] w fun e w' => pUEnd (pU 8 0 t.data.toList) e ∧ w' = Lib.bytesWorld w 5 t := by
 have hemp : t.toList.isEmpty = false := by
  rw [ByteArray.toList_eq, List.isEmpty_eq_false_iff, ne_eq, empty_iff]; exact hne
 have hemp2 : ¬ t.toList = [] := by
  rw [ByteArray.toList_eq, empty_iff]; exact hne
 have hcv := Lib.run_convert_string_bytes (P := Tryz.prog) w 9 22 5 t (u := .string) Tryz.underlying9 Tryz.underlying22 Tryz.underlying5
 have hB : ∀ j, j < t.size → (Lib.bytesWorld w 5 t).cell? ⟨w.heap.size, j, none⟩ = some (.int .u8 (t.data.toList.getD j 0).toNat) := fun j hj => Lib.bytesWorld_cell w 5 t j hj
 obtain ⟨W1, hW1⟩ : ∃ W1, W1 = Lib.bytesWorld w 5 t := ⟨_, rfl⟩
 rw [← hW1] at hcv hB ⊢
 clear hW1
 obtain ⟨bs, hL⟩ : ∃ bs, bs = t.data.toList := ⟨_, rfl⟩
 have hLn : bs.length = t.size := by rw [hL, Lib.size_eq]
 rw [← hL] at hB hX ⊢
 clear hL
 have hmv : IntKind.u64.wrap (IntKind.u64.wrap 18446744073709551616 - 1) = 18446744073709551615 := by
  rw [IntKind.wrap_u64, IntKind.wrap_u64]
  decide
 have HB := qh hB
 have HX := qh hX
 clear hB hX
 go_enter Tryz.func104, Tryz.ntmps104
 go_wp2
 go_loop [12, 13, 101] (fun vu vn vi => ∃ (k acc : Nat) (a : Int), vu = .bool false ∧ vn = .int .u64 a ∧ vi = .int .i64 k ∧ k ≤ t.size ∧ Hid (a = (acc : Int) ∧ acc < 18446744073709551616 ∧ pU 8 0 bs = pU 8 acc (bs.drop k)))
  (fun _ _ vi => t.size - (intOf vi).toNat)
 case atStart => exact ⟨0, 0, 0, rfl, rfl, rfl, by omega, qh ⟨rfl, by omega, rfl⟩⟩
 case round =>
  obtain ⟨k, acc, a, rfl, rfl, rfl, hk, hh⟩ := hrel
  obtain ⟨ha, hacc, hdec⟩ := hh.out
  clear hh
  have a0 : 0 ≤ a := by omega
  have a1 : a < 18446744073709551616 := by omega
  by_cases hkn : k < t.size
  ·have hc := HB.out k hkn
   have hdrop : bs.drop k = bs[k]'(by omega) :: bs.drop (k + 1) := List.drop_eq_getElem_cons (by omega)
   have hget : bs.getD k 0 = bs[k]'(by omega) := by simp [List.getD, List.getElem?_eq_getElem (show k < bs.length by omega)]
   have hxc := HX.out (bs[k]'(by omega)) (List.getElem_mem _)
   rw [hdrop] at hdec
   rw [hget] at hc
   generalize bs[k]'(by omega) = c at hc hdec hxc
   have hc256 : c.toNat < 256 := c.toNat_lt
   have hx2 : 48 ≤ c.toNat ∧ c.toNat ≤ 57 ∨ 65 ≤ c.toNat ∧ c.toNat ≤ 70 := by
    unfold isX isD at hxc
    simp only [Bool.or_eq_true, Bool.and_eq_true, decide_eq_true_eq] at hxc
    omega
   have hdg : (65 ≤ c.toNat → dgt c = c.toNat - 55) ∧ (c.toNat < 65 → dgt c = c.toNat - 48) := ⟨fun h => by unfold dgt; rw [if_pos h], fun h => by unfold dgt; rw [if_neg (by omega)]⟩
   clear hdrop hget hxc
   rcases hx2 with ⟨hd0, hd1⟩ | ⟨hd0, hd1⟩
   ·have hdd := hdg.2 (by omega)
    clear hdg
    by_cases hb : 8 ≤ dgt c
    ·have HF := qh (show pU 8 0 bs = .error 2 by rw [hdec]; exact pU_bad (by omega) _ _)
     have ibad : 8 ≤ ((c.toNat : Int) - 48) := by omega
     clear hacc ha hdec
     go_wp2
     go_ret2
     refine ⟨?_, rfl⟩
     rw [HF.out]
     exact ⟨_, rfl⟩
    have inb : ((c.toNat : Int) - 48) < 8 := by omega
    by_cases hcut : 2305843009213693952 ≤ acc
    ·have HF := qh (show pU 8 0 bs = .error 1 by rw [hdec]; exact pU_big (by omega) (by omega) _)
     have icut : 2305843009213693952 ≤ a := by omega
     clear hcut hacc ha hdec
     go_wp2
     go_ret2
     refine ⟨?_, rfl⟩
     rw [HF.out]
     exact ⟨_, rfl⟩
    by_cases hov : 18446744073709551616 ≤ acc * 8 + dgt c
    ·exact absurd hov (by omega)
    ·have HN : Hid (a * 8 + (((c.toNat : Int) - 48)) = ((acc * 8 + dgt c : Nat) : Int) ∧ acc * 8 + dgt c < 18446744073709551616 ∧ pU 8 0 bs = pU 8 (acc * 8 + dgt c) (bs.drop (k + 1))) := qh ⟨by omega, by omega, hdec.trans (pU_step (by omega) hov _)⟩
     have icut : a < 2305843009213693952 := by omega
     have iov : a * 8 + (((c.toNat : Int) - 48)) < 18446744073709551616 := by omega
     clear hcut hacc ha hdec hov
     go_wp2
     refine ⟨⟨k + 1, acc * 8 + dgt c, a * 8 + (((c.toNat : Int) - 48)), rfl, (by first | rfl | (congr 1; omega)), (by first | rfl | (congr 1; omega)), by omega, HN⟩, by simp [intOf]; omega⟩
   ·have hdd := hdg.1 (by omega)
    clear hdg
    have HF := qh (show pU 8 0 bs = .error 2 by rw [hdec]; exact pU_bad (by omega) _ _)
    have ibad : 8 ≤ ((c.toNat : Int) + 32 - 97 + 10) := by omega
    clear hacc ha hdec
    go_wp2_with (go_at_call 126; refine (lower_hex c hd0 hd1 _).mono ?_; rintro e w' ⟨rfl, rfl⟩)
    go_ret2
    refine ⟨?_, rfl⟩
    rw [HF.out]
    exact ⟨_, rfl⟩
  ·have hkk : k = t.size := by omega
   subst hkk
   have HF := qh (show pU 8 0 bs = .ok acc by rw [hdec, List.drop_eq_nil_of_le (by omega)]; rfl)
   clear hdec
   subst ha
   clear hacc a0 a1
   go_wp2
   go_ret2
   exact ⟨by rw [HF.out]; rfl, rfl⟩
theorem parseI10 (t : ByteArray) (hne : t.size ≠ 0) (hmax : t.size ≤ 9223372036854775800) (hX : ∀ c ∈ t.data.toList, isX c = true) (w : World) :
 Calls Tryz.prog 104 #[.string t, .int .i64 10, .int .i64 64] w fun e w' => pUEnd (pU 10 0 t.data.toList) e ∧ w' = Lib.bytesWorld w 5 t := by
 have hemp : t.toList.isEmpty = false := by
  rw [ByteArray.toList_eq, List.isEmpty_eq_false_iff, ne_eq, empty_iff]; exact hne
 have hemp2 : ¬ t.toList = [] := by
  rw [ByteArray.toList_eq, empty_iff]; exact hne
 have hcv := Lib.run_convert_string_bytes (P := Tryz.prog) w 9 22 5 t (u := .string) Tryz.underlying9 Tryz.underlying22 Tryz.underlying5
 have hB : ∀ j, j < t.size → (Lib.bytesWorld w 5 t).cell? ⟨w.heap.size, j, none⟩ = some (.int .u8 (t.data.toList.getD j 0).toNat) := fun j hj => Lib.bytesWorld_cell w 5 t j hj
 obtain ⟨W1, hW1⟩ : ∃ W1, W1 = Lib.bytesWorld w 5 t := ⟨_, rfl⟩
 rw [← hW1] at hcv hB ⊢
 clear hW1
 obtain ⟨bs, hL⟩ : ∃ bs, bs = t.data.toList := ⟨_, rfl⟩
 have hLn : bs.length = t.size := by rw [hL, Lib.size_eq]
 rw [← hL] at hB hX ⊢
 clear hL
 have hmv : IntKind.u64.wrap (IntKind.u64.wrap 18446744073709551616 - 1) = 18446744073709551615 := by
  rw [IntKind.wrap_u64, IntKind.wrap_u64]
  decide
 have HB := qh hB
 have HX := qh hX
 clear hB hX
 go_enter Tryz.func104, Tryz.ntmps104
 go_wp2
 go_loop [12, 13, 101] (fun vu vn vi => ∃ (k acc : Nat) (a : Int), vu = .bool false ∧ vn = .int .u64 a ∧ vi = .int .i64 k ∧ k ≤ t.size ∧ Hid (a = (acc : Int) ∧ acc < 18446744073709551616 ∧ pU 10 0 bs = pU 10 acc (bs.drop k)))
  (fun _ _ vi => t.size - (intOf vi).toNat)
 case atStart => exact ⟨0, 0, 0, rfl, rfl, rfl, by omega, qh ⟨rfl, by omega, rfl⟩⟩
 case round =>
  obtain ⟨k, acc, a, rfl, rfl, rfl, hk, hh⟩ := hrel
  obtain ⟨ha, hacc, hdec⟩ := hh.out
  clear hh
  have a0 : 0 ≤ a := by omega
  have a1 : a < 18446744073709551616 := by omega
  by_cases hkn : k < t.size
  ·have hc := HB.out k hkn
   have hdrop : bs.drop k = bs[k]'(by omega) :: bs.drop (k + 1) := List.drop_eq_getElem_cons (by omega)
   have hget : bs.getD k 0 = bs[k]'(by omega) := by simp [List.getD, List.getElem?_eq_getElem (show k < bs.length by omega)]
   have hxc := HX.out (bs[k]'(by omega)) (List.getElem_mem _)
   rw [hdrop] at hdec
   rw [hget] at hc
   generalize bs[k]'(by omega) = c at hc hdec hxc
   have hc256 : c.toNat < 256 := c.toNat_lt
   have hx2 : 48 ≤ c.toNat ∧ c.toNat ≤ 57 ∨ 65 ≤ c.toNat ∧ c.toNat ≤ 70 := by
    unfold isX isD at hxc
    simp only [Bool.or_eq_true, Bool.and_eq_true, decide_eq_true_eq] at hxc
    omega
   have hdg : (65 ≤ c.toNat → dgt c = c.toNat - 55) ∧ (c.toNat < 65 → dgt c = c.toNat - 48) := ⟨fun h => by unfold dgt; rw [if_pos h], fun h => by unfold dgt; rw [if_neg (by omega)]⟩
   clear hdrop hget hxc
   rcases hx2 with ⟨hd0, hd1⟩ | ⟨hd0, hd1⟩
   ·have hdd := hdg.2 (by omega)
    clear hdg
    by_cases hcut : 1844674407370955162 ≤ acc
    ·have HF := qh (show pU 10 0 bs = .error 1 by rw [hdec]; exact pU_big (by omega) (by omega) _)
     have icut : 1844674407370955162 ≤ a := by omega
     clear hcut hacc ha hdec
     go_wp2
     go_ret2
     refine ⟨?_, rfl⟩
     rw [HF.out]
     exact ⟨_, rfl⟩
    by_cases hov : 18446744073709551616 ≤ acc * 10 + dgt c
    ·have HF := qh (show pU 10 0 bs = .error 1 by rw [hdec]; exact pU_big (by omega) hov _)
     have icut : a < 1844674407370955162 := by omega
     have iov : 18446744073709551616 ≤ a * 10 + (((c.toNat : Int) - 48)) := by omega
     have hwr : IntKind.u64.wrap (a * 10 + (((c.toNat : Int) - 48))) = a * 10 + (((c.toNat : Int) - 48)) - 18446744073709551616 := by
      rw [IntKind.wrap_u64]
      omega
     clear hcut hacc ha hdec hov
     go_wp2
     go_ret2
     refine ⟨?_, rfl⟩
     rw [HF.out]
     exact ⟨_, rfl⟩
    ·have HN : Hid (a * 10 + (((c.toNat : Int) - 48)) = ((acc * 10 + dgt c : Nat) : Int) ∧ acc * 10 + dgt c < 18446744073709551616 ∧ pU 10 0 bs = pU 10 (acc * 10 + dgt c) (bs.drop (k + 1))) := qh ⟨by omega, by omega, hdec.trans (pU_step (by omega) hov _)⟩
     have icut : a < 1844674407370955162 := by omega
     have iov : a * 10 + (((c.toNat : Int) - 48)) < 18446744073709551616 := by omega
     clear hcut hacc ha hdec hov
     go_wp2
     refine ⟨⟨k + 1, acc * 10 + dgt c, a * 10 + (((c.toNat : Int) - 48)), rfl, (by first | rfl | (congr 1; omega)), (by first | rfl | (congr 1; omega)), by omega, HN⟩, by simp [intOf]; omega⟩
   ·have hdd := hdg.1 (by omega)
    clear hdg
    have HF := qh (show pU 10 0 bs = .error 2 by rw [hdec]; exact pU_bad (by omega) _ _)
    have ibad : 10 ≤ ((c.toNat : Int) + 32 - 97 + 10) := by omega
    clear hacc ha hdec
    go_wp2_with (go_at_call 126; refine (lower_hex c hd0 hd1 _).mono ?_; rintro e w' ⟨rfl, rfl⟩)
    go_ret2
    refine ⟨?_, rfl⟩
    rw [HF.out]
    exact ⟨_, rfl⟩
  ·have hkk : k = t.size := by omega
   subst hkk
   have HF := qh (show pU 10 0 bs = .ok acc by rw [hdec, List.drop_eq_nil_of_le (by omega)]; rfl)
   clear hdec
   subst ha
   clear hacc a0 a1
   go_wp2
   go_ret2
   exact ⟨by rw [HF.out]; rfl, rfl⟩
theorem parseI16 (t : ByteArray) (hne : t.size ≠ 0) (hmax : t.size ≤ 9223372036854775800) (hX : ∀ c ∈ t.data.toList, isX c = true) (w : World) :
 Calls Tryz.prog 104 #[.string t, .int .i64 16, .int .i64 64] w fun e w' => pUEnd (pU 16 0 t.data.toList) e ∧ w' = Lib.bytesWorld w 5 t := by
 have hemp : t.toList.isEmpty = false := by
  rw [ByteArray.toList_eq, List.isEmpty_eq_false_iff, ne_eq, empty_iff]; exact hne
 have hemp2 : ¬ t.toList = [] := by
  rw [ByteArray.toList_eq, empty_iff]; exact hne
 have hcv := Lib.run_convert_string_bytes (P := Tryz.prog) w 9 22 5 t (u := .string) Tryz.underlying9 Tryz.underlying22 Tryz.underlying5
 have hB : ∀ j, j < t.size → (Lib.bytesWorld w 5 t).cell? ⟨w.heap.size, j, none⟩ = some (.int .u8 (t.data.toList.getD j 0).toNat) := fun j hj => Lib.bytesWorld_cell w 5 t j hj
 obtain ⟨W1, hW1⟩ : ∃ W1, W1 = Lib.bytesWorld w 5 t := ⟨_, rfl⟩
 rw [← hW1] at hcv hB ⊢
 clear hW1
 obtain ⟨bs, hL⟩ : ∃ bs, bs = t.data.toList := ⟨_, rfl⟩
 have hLn : bs.length = t.size := by rw [hL, Lib.size_eq]
 rw [← hL] at hB hX ⊢
 clear hL
 have hmv : IntKind.u64.wrap (IntKind.u64.wrap 18446744073709551616 - 1) = 18446744073709551615 := by
  rw [IntKind.wrap_u64, IntKind.wrap_u64]
  decide
 have HB := qh hB
 have HX := qh hX
 clear hB hX
 go_enter Tryz.func104, Tryz.ntmps104
 go_wp2
 go_loop [12, 13, 101] (fun vu vn vi => ∃ (k acc : Nat) (a : Int), vu = .bool false ∧ vn = .int .u64 a ∧ vi = .int .i64 k ∧ k ≤ t.size ∧ Hid (a = (acc : Int) ∧ acc < 18446744073709551616 ∧ pU 16 0 bs = pU 16 acc (bs.drop k)))
  (fun _ _ vi => t.size - (intOf vi).toNat)
 case atStart => exact ⟨0, 0, 0, rfl, rfl, rfl, by omega, qh ⟨rfl, by omega, rfl⟩⟩
 case round =>
  obtain ⟨k, acc, a, rfl, rfl, rfl, hk, hh⟩ := hrel
  obtain ⟨ha, hacc, hdec⟩ := hh.out
  clear hh
  have a0 : 0 ≤ a := by omega
  have a1 : a < 18446744073709551616 := by omega
  by_cases hkn : k < t.size
  ·have hc := HB.out k hkn
   have hdrop : bs.drop k = bs[k]'(by omega) :: bs.drop (k + 1) := List.drop_eq_getElem_cons (by omega)
   have hget : bs.getD k 0 = bs[k]'(by omega) := by simp [List.getD, List.getElem?_eq_getElem (show k < bs.length by omega)]
   have hxc := HX.out (bs[k]'(by omega)) (List.getElem_mem _)
   rw [hdrop] at hdec
   rw [hget] at hc
   generalize bs[k]'(by omega) = c at hc hdec hxc
   have hc256 : c.toNat < 256 := c.toNat_lt
   have hx2 : 48 ≤ c.toNat ∧ c.toNat ≤ 57 ∨ 65 ≤ c.toNat ∧ c.toNat ≤ 70 := by
    unfold isX isD at hxc
    simp only [Bool.or_eq_true, Bool.and_eq_true, decide_eq_true_eq] at hxc
    omega
   have hdg : (65 ≤ c.toNat → dgt c = c.toNat - 55) ∧ (c.toNat < 65 → dgt c = c.toNat - 48) := ⟨fun h => by unfold dgt; rw [if_pos h], fun h => by unfold dgt; rw [if_neg (by omega)]⟩
   clear hdrop hget hxc
   rcases hx2 with ⟨hd0, hd1⟩ | ⟨hd0, hd1⟩
   ·have hdd := hdg.2 (by omega)
    clear hdg
    by_cases hcut : 1152921504606846976 ≤ acc
    ·have HF := qh (show pU 16 0 bs = .error 1 by rw [hdec]; exact pU_big (by omega) (by omega) _)
     have icut : 1152921504606846976 ≤ a := by omega
     clear hcut hacc ha hdec
     go_wp2
     go_ret2
     refine ⟨?_, rfl⟩
     rw [HF.out]
     exact ⟨_, rfl⟩
    by_cases hov : 18446744073709551616 ≤ acc * 16 + dgt c
    ·exact absurd hov (by omega)
    ·have HN : Hid (a * 16 + (((c.toNat : Int) - 48)) = ((acc * 16 + dgt c : Nat) : Int) ∧ acc * 16 + dgt c < 18446744073709551616 ∧ pU 16 0 bs = pU 16 (acc * 16 + dgt c) (bs.drop (k + 1))) := qh ⟨by omega, by omega, hdec.trans (pU_step (by omega) hov _)⟩
     have icut : a < 1152921504606846976 := by omega
     have iov : a * 16 + (((c.toNat : Int) - 48)) < 18446744073709551616 := by omega
     clear hcut hacc ha hdec hov
     go_wp2
     refine ⟨⟨k + 1, acc * 16 + dgt c, a * 16 + (((c.toNat : Int) - 48)), rfl, (by first | rfl | (congr 1; omega)), (by first | rfl | (congr 1; omega)), by omega, HN⟩, by simp [intOf]; omega⟩
   ·have hdd := hdg.1 (by omega)
    clear hdg
    by_cases hcut : 1152921504606846976 ≤ acc
    ·have HF := qh (show pU 16 0 bs = .error 1 by rw [hdec]; exact pU_big (by omega) (by omega) _)
     have icut : 1152921504606846976 ≤ a := by omega
     clear hcut hacc ha hdec
     go_wp2_with (go_at_call 126; refine (lower_hex c hd0 hd1 _).mono ?_; rintro e w' ⟨rfl, rfl⟩)
     go_ret2
     refine ⟨?_, rfl⟩
     rw [HF.out]
     exact ⟨_, rfl⟩
    by_cases hov : 18446744073709551616 ≤ acc * 16 + dgt c
    ·exact absurd hov (by omega)
    ·have HN : Hid (a * 16 + (((c.toNat : Int) + 32 - 97 + 10)) = ((acc * 16 + dgt c : Nat) : Int) ∧ acc * 16 + dgt c < 18446744073709551616 ∧ pU 16 0 bs = pU 16 (acc * 16 + dgt c) (bs.drop (k + 1))) := qh ⟨by omega, by omega, hdec.trans (pU_step (by omega) hov _)⟩
     have icut : a < 1152921504606846976 := by omega
     have iov : a * 16 + (((c.toNat : Int) + 32 - 97 + 10)) < 18446744073709551616 := by omega
     clear hcut hacc ha hdec hov
     go_wp2_with (go_at_call 126; refine (lower_hex c hd0 hd1 _).mono ?_; rintro e w' ⟨rfl, rfl⟩)
     refine ⟨⟨k + 1, acc * 16 + dgt c, a * 16 + (((c.toNat : Int) + 32 - 97 + 10)), rfl, (by first | rfl | (congr 1; omega)), (by first | rfl | (congr 1; omega)), by omega, HN⟩, by simp [intOf]; omega⟩
  ·have hkk : k = t.size := by omega
   subst hkk
   have HF := qh (show pU 16 0 bs = .ok acc by rw [hdec, List.drop_eq_nil_of_le (by omega)]; rfl)
   clear hdec
   subst ha
   clear hacc a0 a1
   go_wp2
   go_ret2
   exact ⟨by rw [HF.out]; rfl, rfl⟩
end Lx
namespace Lx
open Go.RowKit
open Pl Fl
attribute [local go_sem] run_store_complexL
theorem bytesW_below (w : World) (t : ByteArray) : Below w.heap.size w (Lib.bytesWorld w 5 t) := Lib.bytesWorld_below _ _ _
def pPEnd (r : Except Nat Nat) (e : Ending) : Prop := match r with
 | .ok v => e = .returned (.tuple #[.int .u64 v, .nilIface])
 | .error _ => ∃ (v : Int) (T : TypeId) (p : Value), e = .returned (.tuple #[.int .u64 v, .iface T p])
theorem pU_err : ∀ (l : List UInt8) (B n k : Nat), pU B n l = .error k → k = 1 ∨ k = 2
 | [], B, n, k, h => by unfold pU at h; cases h
 | c :: l, B, n, k, h => by
   unfold pU at h
   split at h
   ·injection h with h; omega
   ·split at h
    ·injection h with h; omega
    ·exact pU_err l _ _ _ h
theorem pU_lt : ∀ (l : List UInt8) (B n v : Nat), n < 18446744073709551616 → pU B n l = .ok v → v < 18446744073709551616
 | [], B, n, v, hn, h => by unfold pU at h; injection h with h; omega
 | c :: l, B, n, v, hn, h => by
   unfold pU at h
   split at h
   ·cases h
   ·split at h
    ·cases h
    ·exact pU_lt l _ _ _ (by omega) h
theorem toErr {w : World} (E : EnvS w) (t : ByteArray) (ht : t.size ≤ 281474976710656) (B : Int) (k : Nat) (hk : k = 1 ∨ k = 2) : Calls Tryz.prog 105 #[.string ⟨#[80, 97, 114, 115, 101, 85, 105, 110, 116]⟩, .string t, .int .i64 B, .int .i64 64, .iface 145 (.int .i64 k)] w fun e w' => (∃ T p, e = .returned (.iface T p)) ∧ Below w.heap.size w w' := by
 obtain ⟨t1, v1, h1⟩ := E.es
 obtain ⟨t2, v2, h2⟩ := E.er
 rcases hk with rfl | rfl
 ·exact (Tryz.strconv_toError_range _ t B 64 _ w ht h2 (.inr ⟨_, _, rfl⟩)).mono fun e w' ⟨N, he, _, _, hb⟩ => ⟨⟨_, _, he⟩, hb⟩
 ·exact (Tryz.strconv_toError_syntax _ t B 64 _ w ht h1 (.inr ⟨_, _, rfl⟩)).mono fun e w' ⟨N, he, _, _, hb⟩ => ⟨⟨_, _, he⟩, hb⟩
theorem parseP (B : Nat) (hB : B = 8 ∨ B = 10 ∨ B = 16) (t : ByteArray) (hne : t.size ≠ 0) (hmax : t.size ≤ 281474976710656) (hX : ∀ c ∈ t.data.toList, isX c = true) {w : World} (E : EnvS w) :
 Calls Tryz.prog 92 #[.string t, .int .i64 (B : Nat), .int .i64 64] w fun e w' => pPEnd (pU B 0 t.data.toList) e ∧ Below w.heap.size w w' := by
 have hI : Calls Tryz.prog 104 #[.string t, .int .i64 (B : Nat), .int .i64 64] w fun e w' => pUEnd (pU B 0 t.data.toList) e ∧ w' = Lib.bytesWorld w 5 t := by
  rcases hB with rfl | rfl | rfl
  ·exact parseI8 t hne (by omega) hX w
  ·exact parseI10 t hne (by omega) hX w
  ·exact parseI16 t hne (by omega) hX w
 have HI := qh hI
 have hb := bytesW_below w t
 have HE := qh (E.below nl hb)
 have HB := qh hb
 have hk := pU_err t.data.toList B 0
 have HK := qh hk
 clear hI hb hB hX E hk
 generalize Lib.bytesWorld w 5 t = W1 at *
 go_enter Tryz.func92, Tryz.ntmps92
 go_wp2_with fail
 refine HI.out.mono ?_
 rintro e w1 ⟨he, hw⟩
 subst hw
 cases hr : pU B 0 t.data.toList with
 | ok v =>
   rw [hr] at he
   have he2 : e = .returned (.tuple #[.int .u64 (v : Nat), .nilIface]) := he
   subst he2
   clear he
   go_wp2
   go_ret2
   exact ⟨by rw [hr]; rfl, HB.out⟩
 | error k =>
   rw [hr] at he
   obtain ⟨v, he⟩ := he
   subst he
   have HT := qh (toErr HE.out t hmax B k (HK.out k hr))
   have HRR := qh hr
   clear hr
   go_wp2_with fail
   refine HT.out.mono ?_
   rintro e w2 ⟨⟨T, p, rfl⟩, hb2⟩
   have HB2 := qh (HB.out.trans (hb2.mono HB.out.size))
   clear hb2
   go_wp2
   go_ret2
   exact ⟨by rw [HRR.out]; exact ⟨_, _, _, rfl⟩, HB2.out⟩
theorem valN_pU (B M : Nat) (hB : 2 ≤ B) (hM : M < 18446744073709551616) : ∀ (l : List UInt8) (n : Nat), n < 18446744073709551616 →
 valN B M n l = match pU B n l with | .ok v => if v ≤ M then some v else none | .error _ => none
 | [], n, hn => rfl
 | c :: l, n, hn => by
   unfold valN pU
   by_cases h1 : B ≤ dgt c
   ·rw [if_pos (.inl h1), if_pos h1]
   ·rw [if_neg h1]
    have hmul : n ≤ n * B := Nat.le_mul_of_pos_right n (by omega)
    by_cases h2 : 18446744073709551616 ≤ n * B + dgt c
    ·rw [if_pos h2]
     by_cases h3 : M < n
     ·rw [if_pos (.inr h3)]
     ·rw [if_neg (by omega)]
      -- the number is beyond what may be from here on
      have big : ∀ (l : List UInt8) (m : Nat), M < m → valN B M m l = none := by
       intro l
       induction l with
       | nil => intro m hm; unfold valN; rw [if_neg (by omega)]
       | cons c l ih => intro m hm; unfold valN; rw [if_pos (.inr hm)]
      exact big l _ (by omega)
    ·rw [if_neg h2]
     by_cases h3 : M < n
     ·rw [if_pos (.inr h3)]
      have big : ∀ (l : List UInt8) (m : Nat), M < m → (match pU B m l with | .ok v => if v ≤ M then some v else none | .error _ => none) = none := by
       intro l
       induction l with
       | nil => intro m hm; unfold pU; dsimp only; rw [if_neg (by omega)]
       | cons c l ih =>
         intro m hm
         unfold pU
         split
         ·rename_i h
          split at h
          ·cases h
          ·split at h
           ·cases h
           ·rename_i v _ _
            have := ih (m * B + dgt c) (by have : m ≤ m * B := Nat.le_mul_of_pos_right m (by omega); omega)
            rw [h] at this
            exact this
         ·rfl
      rw [big l _ (by omega)]
     ·rw [if_neg (by omega)]
      exact valN_pU B M hB hM l _ (by omega)
theorem valR_pU (B M : Nat) (hB : 2 ≤ B) (hM : M < 18446744073709551616) {l : List UInt8} (hl : l ≠ []) : valR B M l = match pU B 0 l with | .ok v => if v ≤ M then some v else none | .error _ => none := by
 unfold valR
 rw [if_neg hl]
 exact valN_pU B M hB hM l 0 (by omega)
theorem pU10_last {l : List UInt8} {c : UInt8} (hc : 10 ≤ dgt c) : ∀ (n : Nat), (∃ k, pU 10 n (l ++ [c]) = .error k) := by
 induction l with
 | nil =>
   intro n
   exact ⟨2, by rw [List.nil_append]; unfold pU; rw [if_pos hc]⟩
 | cons a l ih =>
   intro n
   rw [List.cons_append]
   unfold pU
   split
   ·exact ⟨_, rfl⟩
   ·split
    ·exact ⟨_, rfl⟩
    ·exact ih _
end Lx
end Go.Proofs.YtkemhmfdooghkaaGreatDoor
