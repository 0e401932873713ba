/- The walk of the law PlaceLines. -/
import Derived.Test.YtpomnihgimgpdaaDoorL1
set_option linter.unusedSimpArgs false
set_option linter.unusedVariables false
namespace Go.Proofs.YtpomnihgimgpdaaDoor.Pl
open Go.RowKit
open Fl
open Num

theorem behN_app (l r : List UInt8) : ∀ p, behN p (l ++ r) = behN (behN p l) r := by
  induction l with
  | nil =>
    intro p
    cases h : isN p
    · rw [behN_out h, behN_out h, behN_out rfl]
    · simp [behN, h]
  | cons c l ih =>
    intro p
    cases h : isN p
    · rw [behN_out h, behN_out h, behN_out rfl]
    · rw [List.cons_append, behN_cons h, behN_cons h, ih]
theorem behN_1 {p : Nat × Nat} {c : UInt8} (h : isN (stepN p c) = true) (hp : isN p = true) : behN p [c] = stepN p c := by
  rw [behN_cons hp]; simp [behN, h]
theorem isN_mk {a b : Nat} (h1 : 1 ≤ a) (h2 : a ≤ 1073741824) (h3 : 1 ≤ b) (h4 : b ≤ 1073741824) : isN (a, b) = true := by simp [isN, inN, h1, h2, h3, h4]
theorem behN_snoc (s : ByteArray) (k n j : Nat) (hk : k < s.size) (hs : s.size ≤ 4096) (hn : n ≤ k) (hj : j ≤ k) (h : behN (1, 1) (s.data.toList.take k) = (n + 1, j + 1)) :
    behN (1, 1) (s.data.toList.take (k + 1)) = if s[k].toNat = 10 then (n + 2, 1) else (n + 1, j + 2) := by
  rw [take_snoc s k hk, behN_app, h]
  have hp : isN (n + 1, j + 1) = true := isN_mk (by omega) (by omega) (by omega) (by omega)
  have hst : stepN (n + 1, j + 1) s[k] = if s[k].toNat = 10 then (n + 2, 1) else (n + 1, j + 2) := rfl
  rw [behN_1 (by rw [hst]; split <;> exact isN_mk (by omega) (by omega) (by omega) (by omega)) hp, hst]

set_option maxHeartbeats 3200000 in
theorem lines_any (s : ByteArray) (w : World) (hs : s.size ≤ 9223372036854775807) (ht : Tabs w) :
    Calls Tryd.prog 5 #[.string s] w fun e w' => e = .returned (.bool true) ∧ Below w.heap.size w w' := by
  have HT := Lib.hid ht
  clear ht
  by_cases hv : 4096 < s.size
  · have hh := fun w' => heavy_any s w' hs
    rw [show decide (4096 < s.size) = true by simpa using hv] at hh
    have HH := Lib.hid hh
    clear hh hv
    go_enter Tryd.func5, Tryd.ntmps5
    go_wp2_with fail
    ((with_reducible refine (HH.out _).mono ?_); rintro e w' ⟨rfl, rfl⟩)
    go_wp2_with fail
    ((with_reducible refine (works_any _ HT.out).mono ?_); rintro e x1 ⟨rfl, g1⟩)
    go_wp2
    go_ret
    exact ⟨rfl, g1⟩
  · have hh := fun w' => heavy_any s w' hs
    rw [show decide (4096 < s.size) = false by simpa using hv] at hh
    have HH := Lib.hid hh
    clear hh
    have hle : s.size ≤ 4096 := by omega
    clear hv
    go_enter Tryd.func5, Tryd.ntmps5
    go_wp2_with fail
    ((with_reducible refine (HH.out _).mono ?_); rintro e w' ⟨rfl, rfl⟩)
    go_wp2
    go_loop [3, 4, 5] (fun x y i => ∃ n m k : Nat, k ≤ s.size ∧ n ≤ k ∧ m ≤ k ∧ x = .int .i64 n ∧ y = .int .i64 m ∧ i = .int .i64 k ∧ Hid (behN (1, 1) (s.data.toList.take k) = (n + 1, k - m + 1))) (fun _ _ i => s.size - (intOf i).toNat)
    case atStart => exact ⟨0, 0, 0, Nat.zero_le _, Nat.le_refl _, Nat.le_refl _, rfl, rfl, rfl, Lib.hid (by simp [behN, isN, inN])⟩
    case round =>
      obtain ⟨n, m, k, hk, hn, hm, rfl, rfl, rfl, HB⟩ := hrel
      by_cases hlt : k < s.size
      · have hst := behN_snoc s k n (k - m) hlt hle hn (by omega) HB.out
        by_cases hc : s[k].toNat = 10
        · rw [if_pos hc] at hst
          have HS := Lib.hid hst
          have hcb : ((s[k].toNat : Int) == 10) = true := by simp [hc]
          clear hst hc HB
          go_wp2
          go_round
          case rel => exact ⟨n + 1, k + 1, k + 1, by omega, by omega, by omega, by go_num, by go_num, by go_num, Lib.hid (by rw [HS.out]; simp)⟩
          case measure => simp [intOf]; omega
        · rw [if_neg hc] at hst
          have HS := Lib.hid hst
          have hcb : ((s[k].toNat : Int) == 10) = false := by simp; omega
          clear hst hc HB
          go_wp2
          go_round
          case rel => exact ⟨n, m, k + 1, by omega, by omega, by omega, rfl, rfl, by go_num, Lib.hid (by rw [HS.out, show k + 1 - m + 1 = k - m + 2 by omega])⟩
          case measure => simp [intOf]; omega
      · obtain rfl : k = s.size := by omega
        have hb := HB.out
        rw [List.take_of_length_le (by simp)] at hb
        obtain ⟨j, hj⟩ : ∃ j, j = s.size - m := ⟨_, rfl⟩
        rw [← hj] at hb
        have hN : isN (n + 1, j + 1) = true := isN_mk (by omega) (by omega) (by omega) (by omega)
        have c1 := fun w' => Behind_any (1, 1) s w' (by decide) (by decide) (by omega)
        rw [hb] at c1
        have c2 := fun w' => Line_any (n + 1, j + 1) w' (by simp; omega) (by simp; omega)
        have c3 := fun w' => Column_any (n + 1, j + 1) w' (by simp; omega) (by simp; omega)
        rw [partN_in hN] at c2 c3
        have c0 := Begin_any
        simp only at c2 c3
        have e1 : (((n + 1 : Nat) : Int) == (n : Int) + 1) = true := by simp
        have e2 : (s.size : Int) - (m : Int) = (j : Int) := by omega
        have e3 : ((m : Int)) ≤ (s.size : Int) := by omega
        unfold C at c0 c1 c2 c3
        have C0 := Lib.hid c0
        have C1 := Lib.hid c1
        have C2 := Lib.hid c2
        have C3 := Lib.hid c3
        clear c0 c1 c2 c3 hb hj HB hN
        go_wp2_with fail
        ((with_reducible refine (C0.out _).mono ?_); rintro e w' ⟨rfl, rfl⟩)
        go_wp2_with fail
        ((with_reducible refine (C1.out _).mono ?_); rintro e w' ⟨rfl, rfl⟩)
        go_wp2_with fail
        ((with_reducible refine (C2.out _).mono ?_); rintro e w' ⟨rfl, rfl⟩)
        go_wp2_with fail
        ((with_reducible refine (C3.out _).mono ?_); rintro e w' ⟨rfl, rfl⟩)
        go_wp2_with fail
        ((with_reducible refine (works_any _ HT.out).mono ?_); rintro e x1 ⟨rfl, g1⟩)
        go_wp2
        go_ret
        exact ⟨rfl, g1⟩

end Go.Proofs.YtpomnihgimgpdaaDoor.Pl
