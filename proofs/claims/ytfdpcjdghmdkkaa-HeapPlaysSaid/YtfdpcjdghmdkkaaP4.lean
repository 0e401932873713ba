/- HeapPlays: the reference's Make. -/
import Derived.Test.YtfdpcjdghmdkkaaP3
import Derived.Deep.QuietTactic
set_option linter.unusedSimpArgs false
set_option linter.unusedVariables false
namespace Go.Proofs.Ytfdpcjdghmdkkaa.Hp
open Go.RowKit Go.Sort
section
variable {B : Nat} {w w' : World} {hr gl fr n last : Nat} {f : Nat → Nat}
theorem fillF_start (s k : Nat) : fillF f s s k = f := by
  funext x
  unfold fillF
  rw [if_neg (by omega)]
theorem fillF_step {s j k : Nat} (h : s ≤ j) : updF (fillF f s j k) j k = fillF f s (j + 1) k := by
  funext x
  unfold updF fillF
  by_cases e : x = j
  · subst e
    rw [if_pos rfl, if_pos (by omega)]
  · rw [if_neg e]
    by_cases q : s ≤ x ∧ x < j
    · rw [if_pos q, if_pos (by omega)]
    · rw [if_neg q, if_neg (by omega)]
theorem keeps_hr (hr gl : Nat) (w : World) (x : Nat) (v : Value) : Keeps2 hr gl w (w.setCell ⟨hr, x, none⟩ v) :=
  ⟨rfl, rfl, rfl, (KeepsWalks.setCell w _ v).size, fun k _ h3 _ => Below.heap_setCell _ _ _ k h3⟩
theorem RefAt.drewN (R : RefAt B w hr gl fr n last f) (k : Nat) : RefAt B (w.drewN k) hr gl fr n last f := R.below (below_drewN (Below.refl _ _) k)
theorem keeps_drewN {h b : Nat} {w w' : World} (hk : Keeps2 h b w w') (k : Nat) : Keeps2 h b w (w'.drewN k) := hk.trans (Keeps2.of_below (below_drewN (Below.refl _ _) k))
set_option maxRecDepth 100000 in
set_option maxHeartbeats 1000000 in
theorem rmake_small {m : Int} (hm : m < 1) : Calls Try.prog 21 #[.pointer (some ⟨hr, 0, none⟩), .int .i64 m] w fun e w' => e = .returned (.tuple #[.int .u16 0, .int .i64 0, .int .i64 2]) ∧ w' = w := by
  go_enter Try.func21, Try.ntmps21
  go_wp2
  go_ret3
  exact ⟨rfl, rfl⟩
set_option maxRecDepth 100000 in
set_option maxHeartbeats 3200000 in
theorem rmake_any (R : RefAt B w hr gl fr n last f) (hn : fr + n ≤ 65536) (hl : last < 65535) {m : Nat} (hm : 1 ≤ m) (hhi : (m : Int) ≤ 9223372036854775807) :
    Calls Try.prog 21 #[.pointer (some ⟨hr, 0, none⟩), .int .i64 (m : Nat)] w fun e w' => Keeps2 hr gl w w' ∧
      ((∃ s, s + m ≤ n ∧ (∀ x, s ≤ x → x < s + m → f x = 0) ∧ (∀ s', (∀ x, s' ≤ x → x < s' + m → f x = 0) → s ≤ s') ∧ e = .returned (.tuple #[.int .u16 ((last + 1 : Nat) : Int), .int .i64 ((fr + s : Nat) : Int), .int .i64 0]) ∧ RefAt B w' hr gl fr n (last + 1) (fillF f s (s + m) (last + 1))) ∨
        ((∀ s, s + m ≤ n → ¬ ∀ x, s ≤ x → x < s + m → f x = 0) ∧ e = .returned (.tuple #[.int .u16 0, .int .i64 0, .int .i64 4]) ∧ RefAt B w' hr gl fr n last f)) := by
  have c1 := R.c1
  have c2 := R.c2
  have HR := Lib.hid R
  have HHI := Lib.hid hhi
  clear R
  have hm1s : decide ((m : Int) < 1) = false := decide_eq_false (by omega)
  go_enter Try.func21, Try.ntmps21
  go_wp2
  have hl1 : decide ((last : Int) < 65535) = true := decide_eq_true (by omega)
  have HLL := Lib.hid hl
  clear hhi hl
  go_loopg [7, 8] n (fun gh sf si wr => ∃ i q : Nat, sf = .int .i64 (q : Nat) ∧ si = .int .i64 (i : Nat) ∧ i ≤ n ∧ q ≤ i ∧ n - i ≤ gh ∧ wr = w ∧ Hid (Srch f m i q))
  case atStart => exact ⟨0, 0, rfl, rfl, by omega, by omega, by omega, rfl, Lib.hid (Srch.start f hm)⟩
  case round =>
    obtain ⟨i, q, rfl, rfl, hi1, hqi, hi2, hw, hs⟩ := hrel
    subst hw
    by_cases hi : i < n
    · have ⟨k1, k2⟩ := HR.out.cf hi
      have hqm := hs.out.lt
      have HQM := Lib.hid hqm
      by_cases h0 : f i = 0
      · rw [h0] at k1
        by_cases hfm : q + 1 = m
        · obtain ⟨f1, f2, f3⟩ := hs.out.found h0 hfm
          obtain ⟨s, hsq⟩ : ∃ s, s + m = i + 1 := ⟨i + 1 - m, by omega⟩
          have es : i + 1 - m = s := by omega
          rw [es] at f1 f3
          have HF := Lib.hid (And.intro f1 f3)
          have HSI := Lib.hid hsq
          have hfmI : (q : Int) + 1 = (m : Nat) := by omega
          have hw1 : (i : Int) - (m : Int) + 1 = (s : Nat) := by omega
          have HL := Lib.hid (show RefAt B (wr.setCell ⟨hr, 2, none⟩ (.int .i64 ((last : Int) + 1))) hr gl fr n (last + 1) f from HR.out.last_set (last + 1))
          have HK := Lib.hid (keeps_hr hr gl wr 2 (.int .i64 ((last : Int) + 1)))
          have hfz := HR.out.fz 2
          have hw64 : wrap64 ((last : Int) + 1) = (last : Int) + 1 := by have := HLL.out; unfold wrap64; omega
          clear f1 f2 f3 es hs h0 hfm hqm hm1s
          go_wp2
          clear hw64
          go_loopg [9] m (fun gh3 sj wr3 => ∃ j : Nat, sj = .int .i64 (j : Nat) ∧ s ≤ j ∧ j ≤ i + 1 ∧ i + 1 - j ≤ gh3 ∧ Hid (RefAt B wr3 hr gl fr n (last + 1) (fillF f s j (last + 1))) ∧ Hid (Keeps2 hr gl wr wr3))
          case atStart => exact ⟨s, rfl, by omega, by omega, by omega, by rw [fillF_start]; exact HL, HK⟩
          case round =>
            obtain ⟨j, rfl, hj1, hj2, hj3, hR3, hK3⟩ := hrel
            have d1 := hR3.out.c1
            have d2 := hR3.out.c2
            by_cases hj : j ≤ i
            · have ⟨e1, e2⟩ := hR3.out.cf (x := j) (by omega)
              have hS := hR3.out.store (x := j) (by omega) (last + 1)
              rw [fillF_step hj1] at hS
              have hwr : IntKind.u16.wrap ((last : Int) + 1) = ((last + 1 : Nat) : Int) := by have := HLL.out; simp [IntKind.wrap, IntKind.bits, IntKind.signed]; omega
              have HS := Lib.hid (show RefAt B (wr.setCell ⟨gl, j, none⟩ (.int .u16 (IntKind.u16.wrap ((last : Int) + 1)))).drew hr gl fr n (last + 1) (fillF f s (j + 1) (last + 1)) from by
                rw [hwr]
                exact hS.below ((Below.refl _ _).drew))
              have HKS := Lib.hid ((hK3.out.trans (keeps_gl hr gl wr j (.int .u16 (IntKind.u16.wrap ((last : Int) + 1))))).trans (Keeps2.of_below ((Below.refl _ _).drew)))
              clear hS c1 c2 k1 k2 hR3 hwr hK3
              go_wp2
              go_region
              go_wp2
              go_roundg (i - j)
              case rel => exact ⟨j + 1, by rfl, by omega, by omega, by omega, HS, HKS⟩
              case measure => omega
            · have HJE := Lib.hid (show j = s + m by have := HSI.out; omega)
              have HW1 := Lib.hid hw1
              have HHJ := Lib.hid (And.intro hj1 hj2)
              have d0 := hR3.out.c0
              clear c1 c2 k1 k2 hw1 hfmI
              go_wp2
              have w1e : IntKind.i64.wrap ((fr : Int) + (i : Int)) = (fr : Int) + (i : Int) := IntWalk.i64_in _ (by omega)
              have w2e : IntKind.i64.wrap ((fr : Int) + (i : Int) - (m : Int)) = (fr : Int) + (i : Int) - (m : Int) := IntWalk.i64_in _ (by have := HW1.out; omega)
              have w3e : IntKind.i64.wrap ((fr : Int) + (i : Int) - (m : Int) + 1) = (fr : Int) + (i : Int) - (m : Int) + 1 := IntWalk.i64_in _ (by have := HW1.out; omega)
              have hwr : IntKind.u16.wrap ((last : Int) + 1) = ((last + 1 : Nat) : Int) := by have := HLL.out; simp [IntKind.wrap, IntKind.bits, IntKind.signed]; omega
              go_big_quiet (fail)
              clear w1e w2e w3e hwr
              have hR4 := hR3.out.drewN nq
              rw [HJE.out] at hR4
              have HR4 := Lib.hid hR4
              clear hR4
              go_wp2
              go_ret3
              refine ⟨keeps_drewN hK3.out _, .inl ⟨s, by have := HSI.out; omega, HF.out.1, HF.out.2, ?_, HR4.out⟩⟩
              have e1 : (fr : Int) + (i : Int) - (m : Int) + 1 = ((fr + s : Nat) : Int) := by have := HSI.out; omega
              rw [e1]
              rfl
        · have hfmI : ¬ (q : Int) + 1 = (m : Int) := by omega
          have hfmB : ((q : Int) + 1 == (m : Int)) = false := by rw [beq_eq_false_iff_ne]; exact hfmI
          have HS := Lib.hid (hs.out.more h0 hfm)
          clear hs h0 hqm hm1s
          go_wp2
          go_roundg (n - i - 1)
          case rel => exact ⟨i + 1, q + 1, by rfl, by rfl, by omega, by omega, by omega, rfl, HS⟩
          case measure => omega
      · have h0i : ¬ (f i : Int) = 0 := by omega
        have hm0 : ¬ (0 : Int) = (m : Int) := by omega
        have hm1 : ((0 : Int) == (m : Int)) = false := by rw [beq_eq_false_iff_ne]; exact hm0
        have HS := Lib.hid (hs.out.taken h0 hm)
        have g1 : ((f i : Int) != 0) = true := by simpa using h0
        clear hs hqm hm1s hm hm0 HLL HHI HQM h0i h0
        go_wp2
        go_roundg (n - i - 1)
        case rel => exact ⟨i + 1, 0, by rfl, by rfl, by omega, by omega, by omega, rfl, HS⟩
        case measure => omega
    · have hin : i = n := by omega
      subst hin
      go_wp2
      go_ret3
      exact ⟨Keeps2.refl _ _ _, .inr ⟨hs.out.none_, rfl, HR.out⟩⟩
end
end Go.Proofs.Ytfdpcjdghmdkkaa.Hp
