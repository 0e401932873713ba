/- breakPatternsOrdered over words. -/
import Derived.Test.YtfdpcjdghmdkkaaS8
import Derived.Test.YtfdpcjdghmdkkaaShelf
import Derived.Shelf.SlSortCmp.Xorshift
import Derived.Sort.Walk7
set_option linter.unusedSimpArgs false
set_option linter.unusedVariables false
namespace Go.Proofs.Ytfdpcjdghmdkkaa.Hp
open Go.RowKit Go.Sort
theorem next_any (rb X : Nat) (hX : X < 18446744073709551616) (w : World) (hc : w.cell? ⟨rb, 0, none⟩ = some (.int .u64 X)) (hf : w.frozen? ⟨rb, 0, none⟩ = false) :
    Calls Try.prog 54 #[.pointer (some ⟨rb, 0, none⟩)] w fun e w' => e = .returned (.int .u64 (xorNextN X : Nat)) ∧ w' = (w.setCell ⟨rb, 0, none⟩ (.int .u64 (xorNextN X : Nat))).drewN 3 :=
  AnyF.xorshift_Next { Try.sortBlk with } rb 0 X hX w hc hf
theorem power_any (n : Nat) (hn : n < 4611686018427387904) (w : World) : Calls Try.prog 53 #[.int .i64 n] w fun e w' => e = .returned (.int .u64 ((1 <<< bitsLen n : Nat) : Int)) ∧ w' = w :=
  AnyF.nextPowerOfTwo { Try.sortBlk with } n hn w
/-- The row, and a generator in block c. -/
structure GU (w0 : World) (g cap : Nat) (d : Array Nat) (c X : Nat) (w : World) : Prop where
  su : SU w0 g cap d w
  le : w0.heap.size ≤ c
  gen : w.heap[c]? = some (.cells #[.int .u64 (X : Nat)] 98 (0, 0))
section
variable {w0 w : World} {g cap c X : Nat} {d : Array Nat}
theorem GU.cell (h : GU w0 g cap d c X w) : w.cell? ⟨c, 0, none⟩ = some (.int .u64 (X : Nat)) := by simp [World.cell?, h.gen]
theorem GU.frozen (h : GU w0 g cap d c X w) : w.frozen? ⟨c, 0, none⟩ = false := by simp [World.frozen?, h.gen]
theorem GU.drewN (h : GU w0 g cap d c X w) (n : Nat) : GU w0 g cap d c X (w.drewN n) := ⟨h.su.drewN n, h.le, h.gen⟩
theorem GU.drew (h : GU w0 g cap d c X w) : GU w0 g cap d c X w.drew := ⟨h.su.drew, h.le, h.gen⟩
theorem GU.set (h : GU w0 g cap d c X w) (x : Nat) : GU w0 g cap d c x (w.setCell ⟨c, 0, none⟩ (.int .u64 (x : Nat))) := by
  refine ⟨h.su.other h.le _, h.le, ?_⟩
  unfold World.setCell
  simp only [Array.getElem?_modify, if_true, h.gen]
  rfl
theorem GU.swap' (h : GU w0 g cap d c X w) {i j x y : Nat} (hi : i < d.size) (hj : j < d.size) (hx : Hid (x = d[i]!)) (hy : Hid (y = d[j]!)) :
    GU w0 g cap (swp d i j) c X ((w.setCell ⟨g, i, none⟩ (.int .u16 (y : Nat))).setCell ⟨g, j, none⟩ (.int .u16 (x : Nat))) := by
  have hlt := h.su.lt
  have hle := h.le
  refine ⟨h.su.swap' hi hj hx hy, h.le, ?_⟩
  rw [Below.heap_setCell _ _ _ c (by simp; omega), Below.heap_setCell _ _ _ c (by simp; omega)]
  exact h.gen
set_option maxRecDepth 100000 in
set_option maxHeartbeats 6400000 in
theorem break_any {a b : Nat} (h : SU w0 g cap d w) (hab : a + 12 < b) (hb : b ≤ d.size) (hsz : d.size < 1152921504606846976) :
    Calls Try.prog 41 #[.slice (some ⟨g, 0, none⟩) d.size cap, .int .i64 a, .int .i64 b] w fun e w' => e = .returned (.tuple #[]) ∧ SU w0 g cap (breakPatterns d a b) w' := by
  obtain ⟨L, rfl⟩ : ∃ L, b = a + L := ⟨b - a, by omega⟩
  rw [breakPatterns_eq d a L (by omega)]
  obtain ⟨M, hM⟩ : ∃ M : Nat, M = 1 <<< bitsLen L := ⟨_, rfl⟩
  have hM1 : 1 ≤ M := by rw [hM, Nat.one_shiftLeft]; exact Nat.two_pow_pos _
  have hM2 : M ≤ 2 * L := by rw [hM, Nat.one_shiftLeft]; exact two_pow_bitsLen_le (by omega)
  have HP := Lib.hid (fun w => power_any L (by omega) w)
  rw [← hM] at HP ⊢
  clear hM
  obtain ⟨i0, hi0⟩ : ∃ i0, i0 = a + L / 4 * 2 - 1 := ⟨_, rfl⟩
  obtain ⟨q, hq⟩ : ∃ q, q = L / 4 := ⟨_, rfl⟩
  rw [← hi0]
  have z0 : (a : Int) + (L : Int) - (a : Int) = (L : Int) := by omega
  have z1 : Int.tdiv (L : Int) 4 = (q : Int) := by rw [Int.tdiv_eq_ediv_of_nonneg (by omega)]; omega
  have z2 : (a : Int) + (q : Int) * 2 - 1 = (i0 : Int) := by omega
  have z3 : (a : Int) + (q : Int) * 2 + 1 = (i0 : Int) + 2 := by omega
  have bi : i0 + 3 < a + L := by omega
  have h8 : decide ((L : Int) ≥ 8) = true := decide_eq_true (by omega)
  have h8' : decide ((8 : Int) ≤ (L : Int)) = true := decide_eq_true (by omega)
  have HR0 := Lib.hid (show (UInt64.ofNat L).toNat = L from by simp; omega)
  have HG := Lib.hid (show GU w0 g cap d w.heap.size L (w.alloc (.cells #[.int .u64 (L : Nat)] 98)) from ⟨h.alloc _, h.size, heap_alloc_new w _⟩)
  have bL : a + L ≤ d.size := hb
  have bL2 : 12 < L := by omega
  clear h hi0 hq hb hab
  go_enter Try.func41, Try.ntmps41
  go_wp2_with (go_at_call 53; refine (HP.out _).mono ?_; rintro e w' ⟨rfl, rfl⟩)
  try go_frame
  go_loopg [9] 3 (fun gh vi wr => ∃ (t : Nat) (r : UInt64) (dk : Array Nat), vi = .int .i64 ((i0 + t : Nat) : Int) ∧ t ≤ 3 ∧ 3 - t ≤ gh ∧ dk.size = d.size ∧ Hid (GU w0 g cap dk w.heap.size r.toNat wr) ∧ Hid (bpRest a L M i0 (3 - t) t (r, dk) = bpRest a L M i0 3 0 (UInt64.ofNat L, d)))
  case atStart => exact ⟨0, UInt64.ofNat L, d, by first | rfl | go_num, by omega, by omega, rfl, by rw [HR0.out]; exact HG, Lib.hid rfl⟩
  case round =>
    obtain ⟨t, r, dk, rfl, ht, hgh, hsk, hS, HB⟩ := hrel
    by_cases ht3 : t < 3
    · have g1 : decide (((i0 + t : Nat) : Int) ≤ (i0 : Int) + 2) = true := decide_eq_true (by omega)
      have g1' : decide ((i0 : Int) + (t : Int) ≤ (i0 : Int) + 2) = true := decide_eq_true (by omega)
      obtain ⟨R, hRr⟩ : ∃ R : Nat, R = r.toNat := ⟨_, rfl⟩
      have lR : R < 18446744073709551616 := by rw [hRr]; exact r.toNat_lt
      obtain ⟨R', hR'⟩ : ∃ R' : Nat, R' = xorNextN R := ⟨_, rfl⟩
      have lR' : R' < 18446744073709551616 := by rw [hR']; exact xorNextN_lt R lR
      obtain ⟨O, hO⟩ : ∃ O : Nat, O = R' &&& (M - 1) := ⟨_, rfl⟩
      have lO : O ≤ M - 1 := by rw [hO]; exact Nat.and_le_right
      have eAnd : bits .and .u64 (R' : Int) ((M : Int) - 1) = (O : Int) := by
        rw [show ((M : Int) - 1) = ((M - 1 : Nat) : Int) by omega, bits_and_u64_nat _ _ lR' (by omega), hO]
      have HS := hS
      rw [← hRr] at HS
      have cB := HS.out.cell
      have fB := HS.out.frozen
      have hNext := next_any w.heap.size R lR wr cB fB
      rw [← hR'] at hNext
      have HNX := Lib.hid hNext
      have HN : Hid (R' = (xorNext r).toNat ∧ O = (xorNext r).toNat &&& (M - 1)) := by
        have e : R' = (xorNext r).toNat := by rw [hR', hRr, xorNext_toNat]
        exact Lib.hid ⟨e, by rw [hO, e]⟩
      have HN2 := Lib.hid ((HS.out.set R').drewN 3)
      clear hRr hR' hO hNext hS
      go_wp2_with (go_at_call 54; refine HNX.out.mono ?_; rintro e w' ⟨rfl, rfl⟩; fail)
      refine HNX.out.mono ?_
      rintro e w' ⟨rfl, rfl⟩
      generalize (wr.setCell ⟨w.heap.size, 0, none⟩ (.int .u64 (R' : Nat))).drewN 3 = wn at HN2 ⊢
      clear cB fB
      by_cases hLO : L ≤ O
      · have gLO : decide ((O : Int) ≥ (L : Int)) = true := decide_eq_true (by omega)
        have gLO' : decide ((L : Int) ≤ (O : Int)) = true := decide_eq_true (by omega)
        obtain ⟨O2, hO2⟩ : ∃ O2, O2 = O - L := ⟨_, rfl⟩
        have zO2 : (O : Int) - (L : Int) = (O2 : Int) := by omega
        have bO2 : O2 < L := by omega
        have HO2 := Lib.hid hO2
        clear hO2
        go_wp2
        have bo : a + O2 < d.size := by omega
        by_cases hal : i0 + t = a + O2
        · have HAL := Lib.hid hal
          obtain ⟨x, hx, cx, fx⟩ := HN2.out.su.spot (i := a + O2) (by omega)
          have zal : (i0 : Int) + (t : Int) = (a : Int) + (((O2 : Nat)) : Int) := by omega
          clear hal
          go_region
          all_goals
            go_wp2
            go_roundg (2 - t)
            case rel =>
              refine ⟨t + 1, xorNext r, swp dk (i0 + t) (a + O2), by go_num, by omega, by omega, by rw [size_swp]; exact hsk, Lib.hid ?_, Lib.hid ?_⟩
              · rw [HN.out.1.symm, HAL.out]
                exact (HN2.out.drew).swap' (by omega) (by omega) hx hx
              · rw [← HB.out, bp_step a L M _ t r dk (O2) (by omega) (by rw [← HN.out.2, if_pos (by omega), HO2.out])]
            case measure => omega
        · have hal2 : ¬ a + O2 = i0 + t := fun e => hal e.symm
          obtain ⟨x, hx, cx, fx⟩ := HN2.out.su.spot (i := i0 + t) (by omega)
          obtain ⟨y, hy, cy, fy⟩ := HN2.out.su.spot (i := a + O2) (by omega)
          go_region
          all_goals
            go_wp2
            go_roundg (2 - t)
            case rel =>
              refine ⟨t + 1, xorNext r, swp dk (i0 + t) (a + O2), by go_num, by omega, by omega, by rw [size_swp]; exact hsk, Lib.hid ?_, Lib.hid ?_⟩
              · rw [HN.out.1.symm]
                exact (HN2.out.drew).swap' (by omega) (by omega) hx hy
              · rw [← HB.out, bp_step a L M _ t r dk (O2) (by omega) (by rw [← HN.out.2, if_pos (by omega), HO2.out])]
            case measure => omega
      · have gLO : decide ((O : Int) ≥ (L : Int)) = false := decide_eq_false (by omega)
        have gLO' : decide ((L : Int) ≤ (O : Int)) = false := decide_eq_false (by omega)
        go_wp2
        have bo : a + O < d.size := by omega
        by_cases hal : i0 + t = a + O
        · have HAL := Lib.hid hal
          obtain ⟨x, hx, cx, fx⟩ := HN2.out.su.spot (i := a + O) (by omega)
          have zal : (i0 : Int) + (t : Int) = (a : Int) + (((O : Nat)) : Int) := by omega
          clear hal
          go_region
          all_goals
            go_wp2
            go_roundg (2 - t)
            case rel =>
              refine ⟨t + 1, xorNext r, swp dk (i0 + t) (a + O), by go_num, by omega, by omega, by rw [size_swp]; exact hsk, Lib.hid ?_, Lib.hid ?_⟩
              · rw [HN.out.1.symm, HAL.out]
                exact (HN2.out.drew).swap' (by omega) (by omega) hx hx
              · rw [← HB.out, bp_step a L M _ t r dk (O) (by omega) (by rw [← HN.out.2, if_neg (by omega)])]
            case measure => omega
        · have hal2 : ¬ a + O = i0 + t := fun e => hal e.symm
          obtain ⟨x, hx, cx, fx⟩ := HN2.out.su.spot (i := i0 + t) (by omega)
          obtain ⟨y, hy, cy, fy⟩ := HN2.out.su.spot (i := a + O) (by omega)
          go_region
          all_goals
            go_wp2
            go_roundg (2 - t)
            case rel =>
              refine ⟨t + 1, xorNext r, swp dk (i0 + t) (a + O), by go_num, by omega, by omega, by rw [size_swp]; exact hsk, Lib.hid ?_, Lib.hid ?_⟩
              · rw [HN.out.1.symm]
                exact (HN2.out.drew).swap' (by omega) (by omega) hx hy
              · rw [← HB.out, bp_step a L M _ t r dk (O) (by omega) (by rw [← HN.out.2, if_neg (by omega)])]
            case measure => omega
    · have g1 : decide (((i0 + t : Nat) : Int) ≤ (i0 : Int) + 2) = false := decide_eq_false (by omega)
      have g1' : decide ((i0 : Int) + (t : Int) ≤ (i0 : Int) + 2) = false := decide_eq_false (by omega)
      obtain rfl : t = 3 := by omega
      go_wp2
      go_end0
      exact ⟨rfl, by rw [← HB.out]; exact hS.out.su⟩
end
end Go.Proofs.Ytfdpcjdghmdkkaa.Hp
