/- More plain facts on words: what the law WordRules says, in plain Lean. -/
import Derived.Test.YtdodbbedlgglcaaDoorWPlain2
set_option linter.unusedSimpArgs false
set_option linter.unusedVariables false
namespace Go.Proofs.YtdodbbedlgglcaaDoor.WPlain
open Go

/-- Was there no trap? -/
def okP (r : Nat × Nat) : Bool := r.2 == 0
theorem sg_of (n : Int) (h0 : -32768 ≤ n) (h1 : n ≤ 32767) : sg (n % 65536).toNat = n := by unfold sg; split <;> omega
theorem of_sg (a : Nat) (ha : a < 65536) : (sg a % 65536).toNat = a := by unfold sg; split <;> omega
theorem mod_lt (n : Int) : (n % 65536).toNat < 65536 := by omega
theorem signed_in (n : Int) (h0 : -32768 ≤ n) (h1 : n ≤ 32767) : signedP n = ((n % 65536).toNat, 0) := by unfold signedP fitsP; rw [if_neg (by omega)]
theorem signed_out (n : Int) (h : n < -32768 ∨ 32767 < n) : signedP n = (0, 1) := by unfold signedP fitsP; rw [if_pos h]
theorem bare_in (n : Int) (h0 : 0 ≤ n) (h1 : n ≤ 65535) : bareP n = (n.toNat, 0) := by
  unfold bareP fitsP; rw [if_neg (by omega), Int.emod_eq_of_lt h0 (by omega)]
theorem bare_out (n : Int) (h : n < 0 ∨ 65535 < n) : bareP n = (0, 1) := by unfold bareP fitsP; rw [if_pos h]
theorem signed_ok {n : Int} (h : okP (signedP n) = true) : -32768 ≤ n ∧ n ≤ 32767 := by
  by_cases hn : n < -32768 ∨ 32767 < n
  · rw [signed_out n hn] at h; exact absurd h (by decide)
  · omega
theorem bare_ok {n : Int} (h : okP (bareP n) = true) : 0 ≤ n ∧ n ≤ 65535 := by
  by_cases hn : n < 0 ∨ 65535 < n
  · rw [bare_out n hn] at h; exact absurd h (by decide)
  · omega
theorem signedP_lt (n : Int) : (signedP n).1 < 65536 := by unfold signedP fitsP; split <;> simp <;> omega
theorem bareP_lt (n : Int) : (bareP n).1 < 65536 := by unfold bareP fitsP; split <;> simp <;> omega

/-! ### With a sign -/
theorem s_add (a b : Nat) : opP 1 b a = opP 1 a b := by show signedP _ = signedP _; rw [Int.add_comm]
theorem s_mul (a b : Nat) : opP 3 b a = opP 3 a b := by show signedP _ = signedP _; rw [Int.mul_comm]
theorem s_sub (a b : Nat) (ha : a < 65536) (h : okP (opP 1 a b) = true) : opP 2 (opP 1 a b).1 b = (a, 0) := by
  have hr := signed_ok (n := sg a + sg b) h
  have h1 := sg_bd a ha
  show signedP (sg (signedP (sg a + sg b)).1 - sg b) = _
  rw [signed_in _ hr.1 hr.2, sg_of _ hr.1 hr.2, show sg a + sg b - sg b = sg a by omega, signed_in _ h1.1 h1.2, of_sg a ha]
theorem sg_zero : sg 0 = 0 := by decide +kernel
theorem sg_ne {b : Nat} (hb : b < 65536) (h : b ≠ 0) : sg b ≠ 0 := by unfold sg; split <;> omega
theorem s_div0 (a : Nat) : opP 4 a 0 = (0, 4) := by show overP (sg 0) _ = _; unfold overP; rw [if_pos sg_zero]
theorem s_mod0 (a : Nat) : opP 5 a 0 = (0, 4) := by show overP (sg 0) _ = _; unfold overP; rw [if_pos sg_zero]
theorem s_div (a b : Nat) (hb : b < 65536) (h : b ≠ 0) : opP 4 a b = signedP ((sg a).tdiv (sg b)) := by show overP (sg b) _ = _; unfold overP; rw [if_neg (sg_ne hb h)]
theorem s_mod (a b : Nat) (hb : b < 65536) (h : b ≠ 0) : opP 5 a b = signedP ((sg a).tmod (sg b)) := by show overP (sg b) _ = _; unfold overP; rw [if_neg (sg_ne hb h)]
/-- What is left, and the quotient, of any two numbers. -/
theorem left_facts (a b : Int) (hb : b ≠ 0) : (a.tmod b).natAbs < b.natAbs ∧ (a.tmod b).natAbs ≤ a.natAbs ∧ (0 ≤ a → 0 ≤ a.tmod b) ∧ (a ≤ 0 → a.tmod b ≤ 0) ∧ b * a.tdiv b + a.tmod b = a := by
  refine ⟨?_, ?_, fun h => Int.tmod_nonneg b h, fun h => ?_, Int.mul_tdiv_add_tmod a b⟩
  · rw [Int.natAbs_tmod]; exact Nat.mod_lt _ (by omega)
  · rw [Int.natAbs_tmod]; exact Nat.mod_le _ _
  · have := Int.tmod_nonneg b (a := -a) (by omega)
    rw [Int.neg_tmod] at this
    omega
theorem s_left (a b : Nat) (ha : a < 65536) (hb : b < 65536) (h : b ≠ 0) :
    ∃ y, opP 5 a b = (y, 0) ∧ y < 65536 ∧ sg y = (sg a).tmod (sg b) ∧ ((sg a).tmod (sg b)).natAbs < (sg b).natAbs := by
  have h1 := sg_bd a ha
  have h2 := sg_bd b hb
  obtain ⟨f1, f2, f3, f4, f5⟩ := left_facts (sg a) (sg b) (sg_ne hb h)
  have r0 : -32768 ≤ (sg a).tmod (sg b) := by omega
  have r1 : (sg a).tmod (sg b) ≤ 32767 := by omega
  exact ⟨_, by rw [s_mod a b hb h, signed_in _ r0 r1], mod_lt _, sg_of _ r0 r1, f1⟩
theorem s_back (a b y : Nat) (ha : a < 65536) (hb : b < 65536) (h : b ≠ 0) (hy : sg y = (sg a).tmod (sg b)) (hk : okP (opP 4 a b) = true) :
    ∃ x m, opP 4 a b = (x, 0) ∧ x < 65536 ∧ opP 3 x b = (m, 0) ∧ m < 65536 ∧ opP 1 m y = (a, 0) := by
  have h1 := sg_bd a ha
  obtain ⟨f1, f2, f3, f4, f5⟩ := left_facts (sg a) (sg b) (sg_ne hb h)
  rw [s_div a b hb h] at hk ⊢
  obtain ⟨r0, r1⟩ := signed_ok hk
  have e : sg a - (sg a).tmod (sg b) = sg b * (sg a).tdiv (sg b) := by omega
  have e' : (sg a).tdiv (sg b) * sg b = sg a - (sg a).tmod (sg b) := by rw [Int.mul_comm]; omega
  refine ⟨_, ((sg a - (sg a).tmod (sg b)) % 65536).toNat, signed_in _ r0 r1, mod_lt _, ?_, mod_lt _, ?_⟩
  · show signedP (sg _ * sg b) = _
    rw [sg_of _ r0 r1, e', signed_in _ (by omega) (by omega)]
  · show signedP (sg _ + sg y) = _
    rw [sg_of _ (by omega) (by omega), hy, show sg a - (sg a).tmod (sg b) + (sg a).tmod (sg b) = sg a by omega, signed_in _ h1.1 h1.2, of_sg a ha]
theorem s_over (a b : Nat) (ha : a < 65536) (hb : b < 65536) (h : b ≠ 0) (hk : okP (opP 4 a b) = false) : a = 32768 ∧ b = 65535 := by
  have h1 := sg_bd a ha
  rw [s_div a b hb h] at hk
  have hq : ¬ (-32768 ≤ (sg a).tdiv (sg b) ∧ (sg a).tdiv (sg b) ≤ 32767) := by
    rintro ⟨r0, r1⟩
    rw [signed_in _ r0 r1] at hk
    simp [okP] at hk
  have hn : ((sg a).tdiv (sg b)).natAbs = (sg a).natAbs / (sg b).natAbs := Int.natAbs_tdiv _ _
  have hle : (sg a).natAbs / (sg b).natAbs ≤ (sg a).natAbs := Nat.div_le_self _ _
  have hA : (sg a).natAbs = 32768 ∧ ((sg a).tdiv (sg b)).natAbs = 32768 := by omega
  have hB : (sg b).natAbs = 1 := by
    have hb0 := sg_ne hb h
    rcases Nat.lt_or_ge 1 (sg b).natAbs with h2 | h2
    · have := Nat.div_lt_self (n := (sg a).natAbs) (by omega) h2
      omega
    · omega
  have ha' : sg a = -32768 := by omega
  have hb' : sg b = -1 := by
    rcases Int.natAbs_eq (sg b) with e | e
    · have e1 : sg b = 1 := by omega
      rw [ha', e1] at hq
      exact absurd (by decide) hq
    · omega
  unfold sg at ha' hb'
  constructor
  · split at ha' <;> omega
  · split at hb' <;> omega

/-! ### Without a sign -/
theorem u_add (a b : Nat) : opP 8 b a = opP 8 a b := by show bareP _ = bareP _; rw [Int.add_comm]
theorem u_mul (a b : Nat) : opP 10 b a = opP 10 a b := by show bareP _ = bareP _; rw [Int.mul_comm]
theorem u_sub (a b : Nat) (ha : a < 65536) (h : okP (opP 8 a b) = true) : opP 9 (opP 8 a b).1 b = (a, 0) := by
  have hr := bare_ok (n := (a : Int) + b) h
  show bareP (((bareP ((a : Int) + b)).1 : Int) - b) = _
  rw [bare_in _ hr.1 hr.2, show (((((a : Int) + b).toNat, 0) : Nat × Nat).1 : Int) - b = a from by show ((((a : Int) + b).toNat : Nat) : Int) - b = a; omega, bare_in _ (by omega) (by omega)]
  rfl
theorem u_div0 (a : Nat) : opP 11 a 0 = (0, 4) := rfl
theorem u_mod0 (a : Nat) : opP 12 a 0 = (0, 4) := rfl
theorem u_back (a b : Nat) (ha : a < 65536) (hb : b < 65536) (h : b ≠ 0) :
    ∃ x m y, opP 11 a b = (x, 0) ∧ x < 65536 ∧ opP 12 a b = (y, 0) ∧ y < b ∧ opP 10 x b = (m, 0) ∧ m < 65536 ∧ opP 8 m y = (a, 0) := by
  have hb0 : ¬ (b : Int) = 0 := by omega
  obtain ⟨q, r, hq, hr, hm, hy, hx⟩ : ∃ q r, a / b = q ∧ a % b = r ∧ q * b + r = a ∧ r < b ∧ q ≤ a :=
    ⟨_, _, rfl, rfl, by rw [Nat.mul_comm]; exact Nat.div_add_mod a b, Nat.mod_lt _ (by omega), Nat.div_le_self _ _⟩
  refine ⟨q, q * b, r, ?_, by omega, ?_, hy, ?_, by omega, ?_⟩
  · show overP (b : Int) (bareP ((a : Int).tdiv b)) = _
    unfold overP
    rw [if_neg hb0, show (a : Int).tdiv b = (q : Int) from by rw [← hq]; rfl, bare_in _ (by omega) (by omega)]; rfl
  · show overP (b : Int) (bareP ((a : Int).tmod b)) = _
    unfold overP
    rw [if_neg hb0, show (a : Int).tmod b = (r : Int) from by rw [← hr]; rfl, bare_in _ (by omega) (by omega)]; rfl
  · show bareP ((q : Int) * b) = _
    rw [show (q : Int) * b = ((q * b : Nat) : Int) from (Int.natCast_mul q b).symm, bare_in _ (by omega) (by omega)]; rfl
  · show bareP (((q * b : Nat) : Int) + ((r : Nat) : Int)) = _
    rw [show ((q * b : Nat) : Int) + ((r : Nat) : Int) = (a : Int) from by omega, bare_in _ (by omega) (by omega)]; rfl

end Go.Proofs.YtdodbbedlgglcaaDoor.WPlain
