/- The walk of the reference's Number. -/
import Derived.Test.YtdpdoigmjnkmdaaDoorT13
import Derived.Test.YtdpdoigmjnkmdaaDoorP11
set_option linter.unusedSimpArgs false
set_option linter.unusedVariables false
namespace Go.Proofs.YtdpdoigmjnkmdaaDoor.Tr
open Go.RowKit
open Fl

theorem below_alloc {w wr : World} (h : Below w.heap.size w wr) (o : Obj) : Below w.heap.size w (wr.alloc o) := h.alloc h.size o
theorem itoa_pos (m : Nat) (h : 0 < m) : Lib.itoa (m : Int) = Pl.digN m := by
  unfold Lib.itoa Pl.digN
  rw [if_neg (by omega), if_neg (by omega)]; rfl
theorem itoa_neg (m : Nat) (h : 0 < m) : Lib.itoa (-(m : Int)) = 45 :: Pl.digN m := by
  unfold Lib.itoa Pl.digN
  rw [if_pos (by omega), if_neg (by omega)]; simp
theorem itoa_zero : Lib.itoa 0 = [48] := by
  unfold Lib.itoa
  rw [if_neg (by omega)]
  exact Pl.dec_small 0 (by omega)
theorem digN_cut (m : Nat) (h : 0 < m) : (Pl.digN m).length = (Pl.digN (m / 10)).length + 1 := by
  have := congrArg List.length (Pl.digN_step m h [])
  simpa using this
theorem digN_le : ∀ (k m : Nat), m < 10 ^ k → (Pl.digN m).length ≤ k
  | 0, m, h => by
    have : m = 0 := by simpa using h
    subst this; simp [Pl.digN]
  | k + 1, m, h => by
    by_cases h0 : 0 < m
    · rw [digN_cut m h0]
      have := digN_le k (m / 10) (by rw [Nat.pow_succ] at h; omega)
      omega
    · have : m = 0 := by omega
      subst this; simp [Pl.digN]
theorem digN_len (N : Nat) (h : N ≤ 9223372036854775808) : (Pl.digN N).length ≤ 19 := digN_le 19 N (by omega)
theorem tmod_neg (m : Nat) : (-(m : Int)).tmod 10 = -((m % 10 : Nat) : Int) := by rw [Int.neg_tmod]; congr 1
theorem tdiv_neg (m : Nat) : (-(m : Int)).tdiv 10 = -((m / 10 : Nat) : Int) := by rw [Int.neg_tdiv]; congr 1

set_option maxRecDepth 100000 in
set_option maxHeartbeats 1600000 in
theorem number_pos (N : Nat) (w : World) (h0 : 0 < N) (hN : N ≤ 9223372036854775807) : Calls Tryd.prog 28 #[.int .i64 N] w fun e w' => e = .returned (.string ⟨(Lib.itoa N).toArray⟩) ∧ Below w.heap.size w w' := by
  have HI := Lib.hid (itoa_pos N h0)
  go_enter Tryd.func28, Tryd.ntmps28
  go_wp2
  go_loopw [0, 3] (fun n s wr => ∃ (m : Nat) (l : List UInt8), m ≤ N ∧ n = .int .i64 m ∧ s = .string ⟨l.toArray⟩ ∧ l.length + m ≤ N ∧ Hid (Pl.digN N = Pl.digN m ++ l) ∧ Below w.heap.size w wr) (fun n _ _ => (intOf n).toNat)
  case atStart => exact ⟨N, [], Nat.le_refl _, rfl, rfl, by simp, Lib.hid (by simp), Below.refl _ _⟩
  case round =>
    obtain ⟨m, l, hm, rfl, rfl, hlen, hl, hb⟩ := hrel
    by_cases h9 : 0 < m
    · have hc := Pl.conv_one wr (48 + (m : Int) % 10) (by omega) (by omega)
      have hne : ((m : Int) != 0) = true := by simp; omega
      go_wp2
      go_roundw
      case rel => exact ⟨m / 10, (48 + UInt8.ofNat (m % 10)) :: l, by omega, by simp, by rw [Pl.str_cons], by simp; omega, Lib.hid (by rw [hl.out, Pl.digN_step m h9]), below_alloc hb _⟩
      case measure => simp [intOf]; omega
    · obtain rfl : m = 0 := by omega
      have HE := Lib.hid (show Pl.digN N = l from by rw [hl.out]; rfl)
      clear hl
      go_wp2
      go_ret
      exact ⟨by rw [HI.out, HE.out]; rfl, hb⟩

set_option maxRecDepth 100000 in
set_option maxHeartbeats 1600000 in
theorem number_neg (N : Nat) (w : World) (h0 : 0 < N) (hN : N ≤ 9223372036854775808) : Calls Tryd.prog 28 #[.int .i64 (-(N : Int))] w fun e w' => e = .returned (.string ⟨(Lib.itoa (-(N : Int))).toArray⟩) ∧ Below w.heap.size w w' := by
  have HI := Lib.hid (itoa_neg N h0)
  have hlt : (-(N : Int)) < 0 := by omega
  have hz : ((-(N : Int)) == 0) = false := by simp; omega
  go_enter Tryd.func28, Tryd.ntmps28
  go_wp2
  go_loopw [0, 3] (fun n s wr => ∃ (m : Nat) (l : List UInt8), m ≤ N ∧ n = .int .i64 (-(m : Int)) ∧ s = .string ⟨l.toArray⟩ ∧ l.length ≤ 30 ∧ Hid (l.length + (Pl.digN m).length ≤ 25) ∧ Hid (Pl.digN N = Pl.digN m ++ l) ∧ Below w.heap.size w wr) (fun n _ _ => (-(intOf n)).toNat)
  case atStart => exact ⟨N, [], Nat.le_refl _, rfl, rfl, by simp, Lib.hid (by have := digN_len N hN; simp; omega), Lib.hid (by simp), Below.refl _ _⟩
  case round =>
    obtain ⟨m, l, hm, rfl, rfl, hlen, hl19, hl, hb⟩ := hrel
    by_cases h9 : 0 < m
    · have hne : ((-(m : Int)) != 0) = true := by simp; omega
      have e1 := tmod_neg m
      have e2 := tdiv_neg m
      have hq := hl19.out
      rw [digN_cut m h9] at hq
      have HQ := Lib.hid hq
      have HL := Lib.hid (show Pl.digN N = Pl.digN (m / 10) ++ (48 + UInt8.ofNat (m % 10)) :: l by rw [hl.out, Pl.digN_step m h9])
      clear hq hl19 hl
      by_cases hd : 0 < m % 10
      · have hd2 : -((m : Int) % 10) < 0 := by omega
        have hc := Pl.conv_one wr (48 + (m : Int) % 10) (by omega) (by omega)
        go_wp2
        go_roundw
        case rel => exact ⟨m / 10, (48 + UInt8.ofNat (m % 10)) :: l, by omega, by simp, by rw [Pl.str_cons], by have := HQ.out; simp; omega, Lib.hid (by have := HQ.out; simp; omega), HL, below_alloc hb _⟩
        case measure => simp [intOf]; omega
      · have hm0 : (m : Int) % 10 = 0 := by omega
        have hc := Pl.conv_one wr 48 (by omega) (by omega)
        go_wp2
        go_roundw
        case rel => exact ⟨m / 10, (48 + UInt8.ofNat (m % 10)) :: l, by omega, by simp, by rw [show m % 10 = 0 by omega, Pl.str_cons]; rfl, by have := HQ.out; simp; omega, Lib.hid (by have := HQ.out; simp; omega), HL, below_alloc hb _⟩
        case measure => simp [intOf]; omega
    · obtain rfl : m = 0 := by omega
      have HE := Lib.hid (show Pl.digN N = l from by rw [hl.out]; rfl)
      clear hl hl19
      go_wp2
      go_ret
      exact ⟨by rw [HI.out, HE.out]; rfl, hb⟩
theorem number_any (z : Int) (w : World) (h0 : -9223372036854775808 ≤ z) (h1 : z ≤ 9223372036854775807) : Calls Tryd.prog 28 #[.int .i64 z] w fun e w' => e = .returned (.string ⟨(Lib.itoa z).toArray⟩) ∧ Below w.heap.size w w' := by
  by_cases hz : z = 0
  · subst hz
    rw [itoa_zero]
    go_enter Tryd.func28, Tryd.ntmps28
    go_wp2
    go_ret
    exact ⟨rfl, Below.refl _ _⟩
  · by_cases hp : 0 < z
    · obtain ⟨n, rfl⟩ : ∃ n : Nat, z = n := ⟨z.toNat, by omega⟩
      exact number_pos n w (by omega) (by omega)
    · obtain ⟨n, rfl⟩ : ∃ n : Nat, z = -(n : Int) := ⟨(-z).toNat, by omega⟩
      exact number_neg n w (by omega) (by omega)
end Go.Proofs.YtdpdoigmjnkmdaaDoor.Tr
