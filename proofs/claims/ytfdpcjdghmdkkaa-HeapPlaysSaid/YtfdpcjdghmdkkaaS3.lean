/- heapSortOrdered over words. -/
import Derived.Test.YtfdpcjdghmdkkaaS2
set_option linter.unusedSimpArgs false
set_option linter.unusedVariables false
namespace Go.Proofs.Ytfdpcjdghmdkkaa.Hp
open Go.RowKit Go.Sort
theorem heapBuild_size (hi first : Nat) : ∀ (k : Nat) (d : Array Nat), (heapBuild ltU hi first k d).size = d.size
  | 0, d => rfl
  | k + 1, d => by rw [heapBuild, heapBuild_size hi first k, siftDown_size']
set_option maxRecDepth 100000 in
set_option maxHeartbeats 3200000 in
theorem heapSort_any {w0 w : World} {g cap a b : Nat} {d : Array Nat} (h : SU w0 g cap d w) (hab : a < b) (hb : b ≤ d.size) (hsz : d.size < 1152921504606846976) :
    Calls Try.prog 40 #[.slice (some ⟨g, 0, none⟩) d.size cap, .int .i64 a, .int .i64 b] w fun e w' => e = .returned (.tuple #[]) ∧ SU w0 g cap (heapSort ltU d a b) w' := by
  have H := Lib.hid h
  clear h
  obtain ⟨hi, hhi⟩ : ∃ hi, hi = b - a := ⟨_, rfl⟩
  obtain ⟨k0, hk0⟩ : ∃ k0, k0 = (hi - 1) / 2 := ⟨_, rfl⟩
  have HHI := Lib.hid hhi
  have HK0 := Lib.hid hk0
  have z1 : (b : Int) - (a : Int) = (hi : Int) := by omega
  have z2 : Int.tdiv ((hi : Int) - 1) 2 = (k0 : Int) := by rw [Int.tdiv_eq_ediv_of_nonneg (by omega)]; omega
  have hpos : 0 < hi := by omega
  have hk : 2 * k0 + 1 ≤ hi := by omega
  have hbd : a + hi ≤ d.size := by omega
  clear hhi hk0
  go_enter Try.func40, Try.ntmps40
  go_wp2
  go_loopg [9] (k0 + 1) (fun gh vi wr => ∃ (k : Nat) (dk : Array Nat), vi = .int .i64 ((k : Int) - 1) ∧ k ≤ k0 + 1 ∧ k ≤ gh ∧ dk.size = d.size ∧ Hid (SU w0 g cap dk wr) ∧ Hid (heapBuild ltU hi a k dk = heapBuild ltU hi a (k0 + 1) d))
  case atStart => exact ⟨k0 + 1, d, by congr 1; omega, by omega, by omega, rfl, H, Lib.hid rfl⟩
  case round =>
    obtain ⟨k, dk, rfl, hkk, hgh, hsk, hS, hR⟩ := hrel
    by_cases h0 : k = 0
    · subst h0
      have HB := Lib.hid (show dk = heapBuild ltU hi a (k0 + 1) d from hR.out)
      go_wp2
      go_loopg [10] hi (fun gh2 vi wr2 => ∃ (k : Nat) (dj : Array Nat), vi = .int .i64 ((k : Int) - 1) ∧ k ≤ hi ∧ k ≤ gh2 ∧ dj.size = d.size ∧ Hid (SU w0 g cap dj wr2) ∧ Hid (heapPop ltU a k dj = heapPop ltU a hi dk))
      case atStart => exact ⟨hi, dk, rfl, by omega, by omega, hsk, hS, Lib.hid rfl⟩
      case round =>
        obtain ⟨k, dj, rfl, hkk2, hgh2, hsj, hS2, hR2⟩ := hrel
        by_cases h0 : k = 0
        · subst h0
          go_wp2
          go_end0
          refine ⟨rfl, ?_⟩
          unfold heapSort
          rw [← HHI.out, ← HK0.out, ← HB.out, ← hR2.out]
          exact hS2.out
        · obtain ⟨q, rfl⟩ : ∃ q, k = q + 1 := ⟨k - 1, by omega⟩
          have zq : ((q + 1 : Nat) : Int) - 1 = (q : Int) := by omega
          rw [zq]
          obtain ⟨x, hx, cx, fx⟩ := hS2.out.spot (i := a) (by omega)
          obtain ⟨y, hy, cy, fy⟩ := hS2.out.spot (i := a + q) (by omega)
          have HE := Lib.hid (show heapPop ltU a q (siftDown ltU q a 0 (swp dj a (a + q))) = heapPop ltU a hi dk from hR2.out)
          have hss : (swp dj a (a + q)).size = d.size := by rw [size_swp]; exact hsj
          rcases Nat.eq_zero_or_pos q with hq0 | hq0
          · subst hq0
            have hyx : y = x := by rw [hx.out, hy.out, Nat.add_zero]
            subst hyx
            simp only [Nat.add_zero] at cy fy
            go_wp2
            go_region
            all_goals
              have HS3 := Lib.hid (hS2.out.drew.swap' (i := a) (j := a + 0) (by omega) (by omega) hx hy)
              have hc := sift_any (lo := 0) (hi := 0) (first := a) HS3.out (by omega) (by omega) (by omega)
              rw [hss] at hc
              have HC := Lib.hid hc
              clear hc
              go_wp2_with (go_at_call 52; refine HC.out.mono ?_; rintro e w3 ⟨rfl, hw3⟩; have HS4 := Lib.hid hw3; clear hw3)
              go_roundg 0
              case rel => exact ⟨0, siftDown ltU 0 a 0 (swp dj a (a + 0)), by congr 1, by omega, by omega, by rw [siftDown_size', hss], HS4, HE⟩
              case measure => omega
          · have hne : ¬ (a + q = a) := by omega
            go_wp2
            go_region
            all_goals
              have HS3 := Lib.hid (hS2.out.drew.swap' (i := a) (j := a + q) (by omega) (by omega) hx hy)
              have hc := sift_any (lo := 0) (hi := q) (first := a) HS3.out (by omega) (by omega) (by omega)
              rw [hss] at hc
              have HC := Lib.hid hc
              clear hc
              go_wp2_with (go_at_call 52; refine HC.out.mono ?_; rintro e w3 ⟨rfl, hw3⟩; have HS4 := Lib.hid hw3; clear hw3)
              go_roundg q
              case rel => exact ⟨q, siftDown ltU q a 0 (swp dj a (a + q)), by congr 1, by omega, by omega, by rw [siftDown_size', hss], HS4, HE⟩
              case measure => omega
    · obtain ⟨q, rfl⟩ : ∃ q, k = q + 1 := ⟨k - 1, by omega⟩
      have zq : ((q + 1 : Nat) : Int) - 1 = (q : Int) := by omega
      rw [zq]
      have hc := sift_any (lo := q) (hi := hi) (first := a) hS.out (by omega) (by omega) (by omega)
      rw [hsk] at hc
      have HC := Lib.hid hc
      clear hc
      have HE := Lib.hid (show heapBuild ltU hi a q (siftDown ltU hi a q dk) = heapBuild ltU hi a (k0 + 1) d from hR.out)
      go_wp2_with (go_at_call 52; refine HC.out.mono ?_; rintro e w3 ⟨rfl, hw3⟩; have HS4 := Lib.hid hw3; clear hw3)
      go_roundg q
      case rel => exact ⟨q, siftDown ltU hi a q dk, by congr 1, by omega, by omega, by rw [siftDown_size', hsk], HS4, HE⟩
      case measure => omega
end Go.Proofs.Ytfdpcjdghmdkkaa.Hp
