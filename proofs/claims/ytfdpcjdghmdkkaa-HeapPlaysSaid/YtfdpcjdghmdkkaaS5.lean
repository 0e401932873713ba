/- choosePivotOrdered over words. -/
import Derived.Test.YtfdpcjdghmdkkaaS4
set_option linter.unusedSimpArgs false
set_option linter.unusedVariables false
namespace Go.Proofs.Ytfdpcjdghmdkkaa.Hp
open Go.RowKit Go.Sort
section
variable {w0 w : World} {g cap : Nat} {d : Array Nat}
theorem SU.count (h : SU w0 g cap d w) : CU w0 g cap d w.heap.size 0 (w.alloc (.cells #[.int .i64 0] 3)) :=
  ⟨h.alloc _, h.size, heap_alloc_new w _⟩
/-- The end of choosePivot: what it says of a count. -/
theorem hint_cases (s : Nat) : (s = 0 ∧ hintCode (hintOf s) = 1) ∨ (s = 12 ∧ hintCode (hintOf s) = 2) ∨ (s ≠ 0 ∧ s ≠ 12 ∧ hintCode (hintOf s) = 0) := by
  unfold hintOf
  by_cases h0 : s = 0
  · exact .inl ⟨h0, by rw [if_pos h0]; rfl⟩
  · by_cases h1 : s = 12
    · exact .inr (.inl ⟨h1, by rw [if_neg h0, if_pos h1]; rfl⟩)
    · exact .inr (.inr ⟨h0, h1, by rw [if_neg h0, if_neg h1]; rfl⟩)
set_option maxRecDepth 100000 in
set_option maxHeartbeats 3200000 in
theorem pivot_any {a b : Nat} (h : SU w0 g cap d w) (hab : a + 12 < b) (hb : b ≤ d.size) (hsz : d.size < 1152921504606846976) :
    Calls Try.prog 42 #[.slice (some ⟨g, 0, none⟩) d.size cap, .int .i64 a, .int .i64 b] w fun e w' =>
      e = .returned (.tuple #[.int .i64 ((choosePivot ltU d a b).1 : Nat), .int .i64 (hintCode (choosePivot ltU d a b).2)]) ∧ SU w0 g cap d w' := by
  rw [choosePivot_eq]
  have HC := Lib.hid h.count
  clear h
  obtain ⟨l, hl⟩ : ∃ l, l = b - a := ⟨_, rfl⟩
  obtain ⟨q, hq⟩ : ∃ q, q = l / 4 := ⟨_, rfl⟩
  have z1 : (b : Int) - (a : Int) = (l : Int) := by omega
  have z2 : Int.tdiv (l : Int) 4 = (q : Int) := by rw [Int.tdiv_eq_ediv_of_nonneg (by omega)]; omega
  have HL := Lib.hid hl
  have HQ := Lib.hid hq
  have hl12 : 12 < l := by omega
  have hq4 : 4 * q ≤ l := by omega
  have hq3 : 3 ≤ q := by omega
  have hal : a + l ≤ d.size := by omega
  have h8 : decide ((l : Int) ≥ 8) = true := decide_eq_true (by omega)
  have h8' : decide ((8 : Int) ≤ (l : Int)) = true := decide_eq_true (by omega)
  clear hl hq
  by_cases h50 : 50 ≤ l
  · have g50 : decide ((l : Int) ≥ 50) = true := decide_eq_true (by omega)
    have g50' : decide ((50 : Int) ≤ (l : Int)) = true := decide_eq_true (by omega)
    have hR : rawPivot ltU d a b = median ltU d (medianAdjacent ltU d (a + q) 0).1 (medianAdjacent ltU d (a + q * 2) (medianAdjacent ltU d (a + q) 0).2).1
        (medianAdjacent ltU d (a + q * 3) (medianAdjacent ltU d (a + q * 2) (medianAdjacent ltU d (a + q) 0).2).2).1
        (medianAdjacent ltU d (a + q * 3) (medianAdjacent ltU d (a + q * 2) (medianAdjacent ltU d (a + q) 0).2).2).2 := by
      unfold rawPivot
      rw [← HL.out, ← HQ.out, if_pos (by omega), if_pos (by omega), Nat.mul_one]
    have c1 := medianAdj_any HC.out (a := a + q) (by omega) (by omega) hsz (by omega)
    obtain ⟨⟨i1, s1⟩, e1⟩ : ∃ r, medianAdjacent ltU d (a + q) 0 = r := ⟨_, rfl⟩
    rw [e1] at hR c1
    dsimp only at hR c1
    have c2 := fun w' (h' : CU w0 g cap d w.heap.size s1 w') (hs : s1 ≤ 3) => medianAdj_any h' (a := a + q * 2) (by omega) (by omega) hsz (by omega)
    obtain ⟨⟨i2, s2⟩, e2⟩ : ∃ r, medianAdjacent ltU d (a + q * 2) s1 = r := ⟨_, rfl⟩
    rw [e2] at hR c2
    dsimp only at hR c2
    have c3 := fun w' (h' : CU w0 g cap d w.heap.size s2 w') (hs : s2 ≤ 6) => medianAdj_any h' (a := a + q * 3) (by omega) (by omega) hsz (by omega)
    obtain ⟨⟨i3, s3⟩, e3⟩ : ∃ r, medianAdjacent ltU d (a + q * 3) s2 = r := ⟨_, rfl⟩
    rw [e3] at hR c3
    dsimp only at hR c3
    have c4 := fun w' (h' : CU w0 g cap d w.heap.size s3 w') (hs : s3 ≤ 9) (h1 : i1 < d.size) (h2 : i2 < d.size) (h3 : i3 < d.size) => median_any h' h1 h2 h3 hsz (by omega)
    obtain ⟨⟨p, s4⟩, e4⟩ : ∃ r, median ltU d i1 i2 i3 s3 = r := ⟨_, rfl⟩
    rw [e4] at hR c4
    rw [hR]
    dsimp only at c4 ⊢
    have C1 := Lib.hid c1
    have C2 := Lib.hid c2
    have C3 := Lib.hid c3
    have C4 := Lib.hid c4
    clear c1 c2 c3 c4 e1 e2 e3 e4 hR
    have n1 : ((a + q : Nat) : Int) = (a : Int) + (q : Int) := by omega
    have n2 : ((a + q * 2 : Nat) : Int) = (a : Int) + (q : Int) * 2 := by omega
    have n3 : ((a + q * 3 : Nat) : Int) = (a : Int) + (q : Int) * 3 := by omega
    rw [n1] at C1
    rw [n2] at C2
    rw [n3] at C3
    clear n1 n2 n3
    go_enter Try.func42, Try.ntmps42
    go_wp2_with fail
    refine C1.out.mono ?_
    rintro e w1 ⟨rfl, h1, hi1, hs1⟩
    have H1 := Lib.hid h1
    have B1 := Lib.hid (And.intro hi1 hs1)
    clear h1 hi1 hs1
    go_wp2_with fail
    refine (C2.out _ H1.out (by have := B1.out; omega)).mono ?_
    rintro e w2 ⟨rfl, h2, hi2, hs2⟩
    have H2 := Lib.hid h2
    have B2 := Lib.hid (And.intro hi2 hs2)
    clear h2 hi2 hs2
    go_wp2_with fail
    refine (C3.out _ H2.out (by have := B1.out; have := B2.out; omega)).mono ?_
    rintro e w3 ⟨rfl, h3, hi3, hs3⟩
    have H3 := Lib.hid h3
    have B3 := Lib.hid (And.intro hi3 hs3)
    clear h3 hi3 hs3
    go_wp2_with fail
    refine (C4.out _ H3.out (by have := B1.out; have := B2.out; have := B3.out; omega) B1.out.1 B2.out.1 B3.out.1).mono ?_
    rintro e w4 ⟨rfl, h4, hi4, hs4⟩
    have H4 := Lib.hid h4
    clear h4 hi4 hs4
    have hcc := H4.out.cell
    rcases hint_cases s4 with ⟨rfl, hh⟩ | ⟨rfl, hh⟩ | ⟨hn0, hn12, hh⟩
    · go_wp2
      go_ret2
      rw [hh]
      exact ⟨rfl, H4.out.su⟩
    · go_wp2
      go_ret2
      rw [hh]
      exact ⟨rfl, H4.out.su⟩
    · have t0 : ((s4 : Int) == 0) = false := by rw [beq_eq_false_iff_ne]; omega
      have t12 : ((s4 : Int) == 12) = false := by rw [beq_eq_false_iff_ne]; omega
      go_wp2
      go_ret2
      rw [hh]
      exact ⟨rfl, H4.out.su⟩
  · have g50 : decide ((l : Int) ≥ 50) = false := decide_eq_false (by omega)
    have g50' : decide ((50 : Int) ≤ (l : Int)) = false := decide_eq_false (by omega)
    have hR : rawPivot ltU d a b = median ltU d (a + q) (a + q * 2) (a + q * 3) 0 := by
      unfold rawPivot
      rw [← HL.out, ← HQ.out, if_pos (by omega), if_neg (by omega), Nat.mul_one]
    have c4 := median_any HC.out (a := a + q) (b := a + q * 2) (k := a + q * 3) (by omega) (by omega) (by omega) hsz (by omega)
    obtain ⟨⟨p, s4⟩, e4⟩ : ∃ r, median ltU d (a + q) (a + q * 2) (a + q * 3) 0 = r := ⟨_, rfl⟩
    rw [e4] at hR c4
    rw [hR]
    dsimp only at c4 ⊢
    have n1 : ((a + q : Nat) : Int) = (a : Int) + (q : Int) := by omega
    have n2 : ((a + q * 2 : Nat) : Int) = (a : Int) + (q : Int) * 2 := by omega
    have n3 : ((a + q * 3 : Nat) : Int) = (a : Int) + (q : Int) * 3 := by omega
    rw [n1, n2, n3] at c4
    have C4 := Lib.hid c4
    clear c4 e4 hR n1 n2 n3
    go_enter Try.func42, Try.ntmps42
    go_wp2_with fail
    refine C4.out.mono ?_
    rintro e w4 ⟨rfl, h4, hi4, hs4⟩
    have H4 := Lib.hid h4
    clear h4 hi4 hs4
    have hcc := H4.out.cell
    rcases hint_cases s4 with ⟨rfl, hh⟩ | ⟨rfl, hh⟩ | ⟨hn0, hn12, hh⟩
    · go_wp2
      go_ret2
      rw [hh]
      exact ⟨rfl, H4.out.su⟩
    · go_wp2
      go_ret2
      rw [hh]
      exact ⟨rfl, H4.out.su⟩
    · have t0 : ((s4 : Int) == 0) = false := by rw [beq_eq_false_iff_ne]; omega
      have t12 : ((s4 : Int) == 12) = false := by rw [beq_eq_false_iff_ne]; omega
      go_wp2
      go_ret2
      rw [hh]
      exact ⟨rfl, H4.out.su⟩
end
end Go.Proofs.Ytfdpcjdghmdkkaa.Hp
