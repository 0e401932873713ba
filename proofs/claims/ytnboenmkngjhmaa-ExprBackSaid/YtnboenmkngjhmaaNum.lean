/- Numerals, in plain Lean: what a row of digits is, which rows are written as a number is, what Atoi makes of them. -/
import Derived.Lib.ItoaNum
import Derived.Lib.ItoaMem
import Derived.Lib.AtoiAll
import Derived.Lib.AtoiAllCases
set_option linter.unusedSimpArgs false
set_option linter.unusedVariables false
namespace Go.Proofs.Ytnboenmkngjhmaa.Num
open Go

theorem dec_big (n : Nat) (h : 9 < n) : Lib.decDigits n = Lib.decDigits (n / 10) ++ [UInt8.ofNat (48 + n % 10)] := by
  rw [Lib.decDigits, dif_neg (by omega)]
theorem dec_small (n : Nat) (h : ¬ 9 < n) : Lib.decDigits n = [UInt8.ofNat (48 + n)] := by
  rw [Lib.decDigits, dif_pos (by omega)]
/-- What digits make of what is there. -/
def valFrom (n : Nat) (l : List UInt8) : Nat := l.foldl (fun n c => 10 * n + (c.toNat - 48)) n
def val (l : List UInt8) : Nat := valFrom 0 l
theorem val_snoc (l : List UInt8) (c : UInt8) : val (l ++ [c]) = 10 * val l + (c.toNat - 48) := by unfold val valFrom; rw [List.foldl_append]; rfl
theorem valFrom_cons (n : Nat) (c : UInt8) (l : List UInt8) : valFrom n (c :: l) = valFrom (10 * n + (c.toNat - 48)) l := by unfold valFrom; rw [List.foldl_cons]
theorem valFrom_ge (l : List UInt8) : ∀ n : Nat, n ≤ valFrom n l := by
  induction l with
  | nil => intro n; simp [valFrom]
  | cons c l ih =>
    intro n
    have := ih (10 * n + (c.toNat - 48))
    rw [valFrom_cons]; omega
theorem val_app (l m : List UInt8) : val (l ++ m) = valFrom (val l) m := by unfold val valFrom; rw [List.foldl_append]
def Digits (l : List UInt8) : Prop := ∀ c ∈ l, 48 ≤ c.toNat ∧ c.toNat ≤ 57
theorem digit_toNat (n : Nat) (h : n < 10) : (UInt8.ofNat (48 + n)).toNat = 48 + n := by
  rw [UInt8.toNat_ofNat']; omega
theorem val_dec (n : Nat) : val (Lib.decDigits n) = n := by
  induction n using Nat.strongRecOn with
  | ind n ih =>
    by_cases h : 9 < n
    · rw [dec_big n h, val_snoc, ih (n / 10) (by omega), digit_toNat _ (by omega)]; omega
    · rw [dec_small n h]
      show 10 * 0 + ((UInt8.ofNat (48 + n)).toNat - 48) = n
      rw [digit_toNat _ (by omega)]; omega
theorem dec_digits (n : Nat) : Digits (Lib.decDigits n) := by
  induction n using Nat.strongRecOn with
  | ind n ih =>
    intro c hc
    by_cases h : 9 < n
    · rw [dec_big n h, List.mem_append] at hc
      rcases hc with hc | hc
      · exact ih (n / 10) (by omega) c hc
      · rw [List.mem_singleton] at hc
        subst hc
        rw [digit_toNat _ (by omega)]; omega
    · rw [dec_small n h, List.mem_singleton] at hc
      subst hc
      rw [digit_toNat _ (by omega)]; omega
theorem dec_ne (n : Nat) : Lib.decDigits n ≠ [] := by
  by_cases h : 9 < n
  · rw [dec_big n h]; simp
  · rw [dec_small n h]; simp
/-- The first digit of a number above 0 is not 0. -/
theorem dec_head (n : Nat) (h0 : 1 ≤ n) : ∀ c, (Lib.decDigits n).head? = some c → c.toNat ≠ 48 := by
  induction n using Nat.strongRecOn with
  | ind n ih =>
    intro c hc
    by_cases h : 9 < n
    · rw [dec_big n h, List.head?_append, Option.or_of_isSome (by
        cases e : Lib.decDigits (n / 10) with
        | nil => exact absurd e (dec_ne _)
        | cons x r => rfl)] at hc
      exact ih (n / 10) (by omega) (by omega) c hc
    · rw [dec_small n h] at hc
      simp only [List.head?_cons, Option.some.injEq] at hc
      subst hc
      rw [digit_toNat _ (by omega)]; omega
/-- Digits of which the first is not 0 are just how their number is written. -/
theorem dec_of_val : ∀ (k : Nat) (l : List UInt8), l.length = k + 1 → Digits l → (∀ c, l.head? = some c → c.toNat ≠ 48) → 1 ≤ val l ∧ Lib.decDigits (val l) = l
  | 0, l, hl, hd, hh => by
    match l, hl with
    | [c], _ =>
      have h1 := hd c (by simp)
      have h2 := hh c rfl
      have hv : val [c] = c.toNat - 48 := by unfold val; rw [valFrom_cons]; unfold valFrom; rw [List.foldl_nil]; omega
      rw [hv, dec_small _ (by omega), show 48 + (c.toNat - 48) = c.toNat by omega]
      exact ⟨by omega, by simp⟩
  | k + 1, l, hl, hd, hh => by
    rcases List.eq_nil_or_concat l with rfl | ⟨l', c, rfl⟩
    · simp at hl
    · rw [List.concat_eq_append] at *
      have hl' : l'.length = k + 1 := by simpa using hl
      have hh' : ∀ c, l'.head? = some c → c.toNat ≠ 48 := by
        intro x hx
        apply hh x
        cases l' with
        | nil => simp at hl'
        | cons y r => simpa using hx
      obtain ⟨i1, i2⟩ := dec_of_val k l' hl' (fun x hx => hd x (List.mem_append_left _ hx)) hh'
      have hc := hd c (by simp)
      rw [val_snoc]
      refine ⟨by omega, ?_⟩
      rw [dec_big _ (by omega), show (10 * val l' + (c.toNat - 48)) / 10 = val l' by omega, show (10 * val l' + (c.toNat - 48)) % 10 = c.toNat - 48 by omega, i2, show 48 + (c.toNat - 48) = c.toNat by omega]
      simp

/-- What the reference's Number makes of a text. -/
def Good (l : List UInt8) : Prop := Digits l ∧ (∀ c, l.head? = some c → c.toNat ≠ 48) ∧ val l ≤ 1073741824
open Classical in
noncomputable def numN (l : List UInt8) : Nat := if Good l then val l else 0
theorem numN_dec (n : Nat) (h0 : 1 ≤ n) (h1 : n ≤ 1073741824) : numN (Lib.decDigits n) = n := by
  unfold numN
  rw [if_pos ⟨dec_digits n, dec_head n h0, by rw [val_dec]; exact h1⟩, val_dec]
theorem numN_good {l : List UInt8} (h : Good l) : numN l = val l := by unfold numN; rw [if_pos h]
theorem numN_bad {l : List UInt8} (h : ¬ Good l) : numN l = 0 := by unfold numN; rw [if_neg h]
theorem numN_le (l : List UInt8) : numN l ≤ 1073741824 := by
  by_cases h : Good l
  · rw [numN_good h]; exact h.2.2
  · rw [numN_bad h]; omega
theorem of_numN {l : List UInt8} (h : 1 ≤ numN l) : l = Lib.decDigits (numN l) := by
  by_cases hg : Good l
  · rw [numN_good hg] at h ⊢
    match l, h with
    | [], h => simp [val, valFrom] at h
    | c :: r, h => exact (dec_of_val r.length (c :: r) rfl hg.1 hg.2.1).2.symm
  · rw [numN_bad hg] at h; omega

/-- Atoi at a numeral. -/
theorem parse_ok : ∀ (l : List UInt8) (acc : Nat), Digits l → valFrom acc l < 1000000000000000000 → Lib.parseUint10 acc l = .ok (valFrom acc l)
  | [], acc, _, _ => rfl
  | c :: r, acc, hd, hv => by
    have hc := hd c (by simp)
    have hge := valFrom_ge r (10 * acc + (c.toNat - 48))
    rw [valFrom_cons] at hv ⊢
    unfold Lib.parseUint10
    rw [if_pos hc, if_neg (by omega), if_neg (by omega), Nat.mul_comm acc 10]
    exact parse_ok r _ (fun x hx => hd x (by simp [hx])) hv
theorem atoi_dec (n : Nat) (h : n ≤ 1073741824) : Lib.atoiAll (Lib.decDigits n) = .ok (n : Int) := by
  have hd := dec_digits n
  have hne := dec_ne n
  have hv := val_dec n
  cases hl : Lib.decDigits n with
  | nil => exact absurd hl hne
  | cons c r =>
    rw [hl] at hd hv
    have hc := hd c (by simp)
    have hp : Lib.parseMag (c :: r) = .ok n := by
      unfold Lib.parseMag
      rw [if_neg (by simp), parse_ok (c :: r) 0 hd (by show val (c :: r) < _; omega)]
      show Lib.NumEnd.ok (val (c :: r)) = _
      rw [hv]
    unfold Lib.atoiAll
    simp only
    rw [if_neg (by omega), hp]
    simp only
    rw [if_neg (by omega), if_neg (by omega), if_neg (by omega)]

end Go.Proofs.Ytnboenmkngjhmaa.Num
