/- HeapPlays: the reference's At, Free. -/
import Derived.Test.YtfdpcjdghmdkkaaP2
set_option linter.unusedSimpArgs false
set_option linter.unusedVariables false
namespace Go.Proofs.Ytfdpcjdghmdkkaa.Hp
open Go.RowKit Go.Sort
section
variable {B : Nat} {w w' : World} {hr gl fr n last : Nat} {f : Nat → Nat}
set_option maxRecDepth 100000 in
set_option maxHeartbeats 1000000 in
theorem rat_in (R : RefAt B w hr gl fr n last f) (hn : fr + n ≤ 65536) {k a m : Nat} (hk : 1 ≤ k ∧ k < 65536) (hm : 1 ≤ m) (ha : fr ≤ a) (ham : a + m ≤ fr + n) (hiff : ∀ i, i < n → (f i = k ↔ a ≤ fr + i ∧ fr + i < a + m)) :
    Calls Try.prog 15 #[.pointer (some ⟨hr, 0, none⟩), .int .u16 (k : Nat)] w fun e w' => e = .returned (.tuple #[.int .i64 (a : Nat), .int .i64 (m : Nat), .int .i64 0]) ∧ w' = w := by
  have c0 := R.c0
  have c1 := R.c1
  have HR := Lib.hid R
  have HI := Lib.hid hiff
  clear R hiff
  go_enter Try.func15, Try.ntmps15
  go_wp2
  go_loopg [7, 8, 9] n (fun gh sa sc si wr => ∃ i p q : Nat, sa = .int .i64 (p : Nat) ∧ sc = .int .i64 (q : Nat) ∧ si = .int .i64 (i : Nat) ∧ i ≤ n ∧ n - i ≤ gh ∧ wr = w ∧ q ≤ i ∧ Hid (p = if fr + i ≤ a then 0 else a) ∧ Hid (q = min (a + m) (fr + i) - a))
  case atStart => exact ⟨0, 0, 0, rfl, rfl, rfl, by omega, by omega, rfl, by omega, Lib.hid (by rw [if_pos (by omega)]), Lib.hid (by omega)⟩
  case round =>
    obtain ⟨i, p, q, rfl, rfl, rfl, hi1, hi2, hw, hqi, hp, hq⟩ := hrel
    subst hw
    by_cases hi : i < n
    · have ⟨k1, k2⟩ := HR.out.cf hi
      by_cases h0 : f i = k
      · have hin := (HI.out i hi).1 h0
        rw [h0] at k1
        clear h0
        by_cases hq0 : q = 0
        · have HE := Lib.hid (show fr + i = a by have := hq.out; omega)
          have HQ := Lib.hid hq0
          subst hq0
          go_wp2
          go_roundg (n - i - 1)
          case rel => exact ⟨i + 1, a, 1, by rw [← HE.out]; rfl, by rfl, by rfl, by omega, by omega, rfl, by omega, Lib.hid (by rw [if_neg (by have := HE.out; omega)]), Lib.hid (by have := HE.out; omega)⟩
          case measure => omega
        · go_wp2
          go_roundg (n - i - 1)
          case rel => exact ⟨i + 1, p, q + 1, rfl, by rfl, by rfl, by omega, by omega, rfl, by omega, Lib.hid (by have h1 := hp.out; have h2 := hq.out; rw [if_neg (by omega)] at h1 ⊢; exact h1), Lib.hid (by have := hq.out; omega)⟩
          case measure => omega
      · have hin : ¬ (a ≤ fr + i ∧ fr + i < a + m) := fun h => h0 ((HI.out i hi).2 h)
        have h0i : ¬ (f i : Int) = (k : Int) := by omega
        have HIN := Lib.hid hin
        have HP2 := Lib.hid (show p = if fr + (i + 1) ≤ a then 0 else a by
          have h1 := hp.out
          by_cases h3 : fr + i ≤ a
          · rw [if_pos h3] at h1
            rw [if_pos (by omega)]; exact h1
          · rw [if_neg h3] at h1
            rw [if_neg (by omega)]; exact h1)
        clear hin
        go_wp2
        go_roundg (n - i - 1)
        case rel => exact ⟨i + 1, p, q, rfl, rfl, by rfl, by omega, by omega, rfl, by omega, HP2, Lib.hid (by have h1 := hq.out; have h2 := HIN.out; omega)⟩
        case measure => omega
    · have hin : i = n := by omega
      have hqm : q = m := by have := hq.out; omega
      have hpa : p = a := by have h1 := hp.out; rw [if_neg (by omega)] at h1; exact h1
      clear hp hq
      subst hin
      subst hqm
      subst hpa
      have hm0 : ¬ q = 0 := by omega
      go_wp2
      go_ret3
      exact ⟨rfl, rfl⟩
set_option maxRecDepth 100000 in
set_option maxHeartbeats 1000000 in
theorem rat_out (R : RefAt B w hr gl fr n last f) (hn : fr + n ≤ 65536) {k : Nat} (hk : k < 65536) (hno : k = 0 ∨ ∀ i, i < n → f i ≠ k) :
    Calls Try.prog 15 #[.pointer (some ⟨hr, 0, none⟩), .int .u16 (k : Nat)] w fun e w' => e = .returned (.tuple #[.int .i64 0, .int .i64 0, .int .i64 3]) ∧ w' = w := by
  have c0 := R.c0
  have c1 := R.c1
  have HR := Lib.hid R
  have HI := Lib.hid hno
  clear R hno
  go_enter Try.func15, Try.ntmps15
  go_wp2
  go_loopg [7, 8, 9] n (fun gh sa sc si wr => ∃ i : Nat, sa = .int .i64 0 ∧ sc = .int .i64 0 ∧ si = .int .i64 (i : Nat) ∧ i ≤ n ∧ n - i ≤ gh ∧ wr = w)
  case atStart => exact ⟨0, rfl, rfl, rfl, by omega, by omega, rfl⟩
  case round =>
    obtain ⟨i, rfl, rfl, rfl, hi1, hi2, hw⟩ := hrel
    subst hw
    by_cases hi : i < n
    · have ⟨k1, k2⟩ := HR.out.cf hi
      by_cases hk0 : k = 0
      · subst hk0
        go_wp2
        go_roundg (n - i - 1)
        case rel => exact ⟨i + 1, rfl, rfl, by rfl, by omega, by omega, rfl⟩
        case measure => omega
      · have h0 : f i ≠ k := by
          rcases HI.out with h | h
          · exact absurd h hk0
          · exact h i hi
        have h0i : ¬ (f i : Int) = (k : Int) := by omega
        go_wp2
        go_roundg (n - i - 1)
        case rel => exact ⟨i + 1, rfl, rfl, by rfl, by omega, by omega, rfl⟩
        case measure => omega
    · have hin : i = n := by omega
      subst hin
      go_wp2
      go_ret3
      exact ⟨rfl, rfl⟩
theorem keeps_gl (hr gl : Nat) (w : World) (x : Nat) (v : Value) : Keeps2 hr gl w (w.setCell ⟨gl, x, none⟩ v) :=
  ⟨rfl, rfl, rfl, (KeepsWalks.setCell w _ v).size, fun k _ _ h4 => Below.heap_setCell _ _ _ k h4⟩
theorem freeF_step {k i : Nat} (h : f i = k) : updF (freeF f k i) i 0 = freeF f k (i + 1) := by
  funext x
  unfold updF freeF
  by_cases e : x = i
  · subst e
    rw [if_pos rfl, if_pos ⟨by omega, h⟩]
  · rw [if_neg e]
    by_cases q : x < i ∧ f x = k
    · rw [if_pos q, if_pos ⟨by omega, q.2⟩]
    · rw [if_neg q, if_neg (fun q2 => q ⟨by omega, q2.2⟩)]
theorem freeF_skip {k i : Nat} (h : f i ≠ k) : freeF f k i = freeF f k (i + 1) := by
  funext x
  unfold freeF
  by_cases q : x < i ∧ f x = k
  · rw [if_pos q, if_pos ⟨by omega, q.2⟩]
  · rw [if_neg q, if_neg (fun q2 => q ⟨by
      have : x ≠ i := fun e => h (e ▸ q2.2)
      omega, q2.2⟩)]
theorem freeF_zero (k : Nat) : freeF f k 0 = f := by
  funext x
  unfold freeF
  rw [if_neg (by omega)]
theorem freeF_at (k i : Nat) : freeF f k i i = f i := by
  unfold freeF
  rw [if_neg (by omega)]
set_option maxRecDepth 100000 in
set_option maxHeartbeats 1000000 in
theorem rfree_in (R : RefAt B w hr gl fr n last f) (hn : fr + n ≤ 65536) {k a m : Nat} (hk : 1 ≤ k ∧ k < 65536) (hm : 1 ≤ m) (ha : fr ≤ a) (ham : a + m ≤ fr + n) (hiff : ∀ i, i < n → (f i = k ↔ a ≤ fr + i ∧ fr + i < a + m)) :
    Calls Try.prog 22 #[.pointer (some ⟨hr, 0, none⟩), .int .u16 (k : Nat)] w fun e w' => e = .returned (.int .i64 0) ∧ RefAt B w' hr gl fr n last (freeF f k n) ∧ Keeps2 hr gl w w' := by
  have HAT := Lib.hid (rat_in R hn hk hm ha ham hiff)
  have HR := Lib.hid R
  clear R hiff
  go_enter Try.func22, Try.ntmps22
  go_wp2_with (go_at_call 15; refine HAT.out.mono ?_; rintro e w' ⟨rfl, hw⟩; have hw2 := hw.symm; subst hw2; clear hw)
  go_loopg [8] n (fun gh si wr => ∃ i : Nat, si = .int .i64 (i : Nat) ∧ i ≤ n ∧ n - i ≤ gh ∧ Hid (RefAt B wr hr gl fr n last (freeF f k i)) ∧ Hid (Keeps2 hr gl w wr))
  case atStart => exact ⟨0, rfl, by omega, by omega, by rw [freeF_zero]; exact HR, Lib.hid (Keeps2.refl _ _ _)⟩
  case round =>
    obtain ⟨i, rfl, hi1, hi2, hR, hK⟩ := hrel
    have c1 := hR.out.c1
    by_cases hi : i < n
    · have ⟨k1, k2⟩ := hR.out.cf hi
      rw [freeF_at] at k1
      by_cases h0 : f i = k
      · rw [h0] at k1
        have hS := hR.out.store hi 0
        rw [freeF_step h0] at hS
        have HS := Lib.hid hS
        have HK := Lib.hid (hK.out.trans (keeps_gl hr gl wr i (.int .u16 ((0 : Nat) : Int))))
        clear hS h0 hR hK
        go_wp2
        go_roundg (n - i - 1)
        case rel => exact ⟨i + 1, by rfl, by omega, by omega, HS, HK⟩
        case measure => omega
      · have h0i : ¬ (f i : Int) = (k : Int) := by omega
        rw [freeF_skip h0] at hR
        go_wp2
        go_roundg (n - i - 1)
        case rel => exact ⟨i + 1, by rfl, by omega, by omega, hR, hK⟩
        case measure => omega
    · have hin : i = n := by omega
      subst hin
      go_wp2
      go_ret
      exact ⟨rfl, hR.out, hK.out⟩
set_option maxRecDepth 100000 in
set_option maxHeartbeats 1000000 in
theorem rfree_out (R : RefAt B w hr gl fr n last f) (hn : fr + n ≤ 65536) {k : Nat} (hk : k < 65536) (hno : k = 0 ∨ ∀ i, i < n → f i ≠ k) :
    Calls Try.prog 22 #[.pointer (some ⟨hr, 0, none⟩), .int .u16 (k : Nat)] w fun e w' => e = .returned (.int .i64 3) ∧ w' = w := by
  have HAT := Lib.hid (rat_out R hn hk hno)
  have c1 := R.c1
  clear R hno
  go_enter Try.func22, Try.ntmps22
  go_wp2_with (go_at_call 15; refine HAT.out.mono ?_; rintro e w' ⟨rfl, hw⟩; have hw2 := hw.symm; subst hw2; clear hw)
  go_loopg [8] 0 (fun gh si wr => si = .int .i64 0 ∧ wr = w)
  case atStart => exact ⟨rfl, rfl⟩
  case round =>
    obtain ⟨rfl, hw⟩ := hrel
    subst hw
    by_cases hi : 0 < n
    · go_wp2
      go_ret
      exact ⟨rfl, rfl⟩
    · have hin : n = 0 := by omega
      subst hin
      go_wp2
      go_ret
      exact ⟨rfl, rfl⟩
end
end Go.Proofs.Ytfdpcjdghmdkkaa.Hp
