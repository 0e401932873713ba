/- The walk of the reference's One at a digit. -/
import Derived.Test.YtibpekgmgidebaaR6
set_option linter.unusedSimpArgs false
set_option linter.unusedVariables false
namespace Go.Proofs.Ytibpekgmgidebaa.Lx
open Go.RowKit
open Pl Fl
attribute [local go_sem] run_store_complexL

theorem runN_all (p : UInt8 → Bool) (l : List UInt8) : ∀ c ∈ l.take (runN p l), p c = true := by
  induction l with
  | nil => simp
  | cons a r ih =>
    cases h : p a
    · rw [runN_no h]; simp
    · rw [runN_yes h, List.take_succ_cons]
      intro c hc
      rcases List.mem_cons.1 hc with rfl | hc
      · exact h
      · exact ih c hc
theorem isX_48 {c : UInt8} (h : isX c = true) : 48 ≤ c.toNat := by
  unfold isX isD at h
  simp only [Bool.or_eq_true, Bool.and_eq_true, decide_eq_true_eq] at h
  omega
theorem isX_of_isD {c : UInt8} (h : isD c = true) : isX c = true := by unfold isX; rw [h]; rfl
theorem not_isL_of_isD {c : UInt8} (h : isD c = true) : isL c = false := by
  unfold isD at h; unfold isL
  simp only [Bool.and_eq_true, decide_eq_true_eq] at h
  simp; omega
theorem take_data (s : ByteArray) (n : Nat) : (s.extract 0 n).data.toList = s.data.toList.take n := by rw [ext_take]; simp [bt]
/-- What is left to do behind the digits: n bytes are taken. -/
structure DigitAt (s : ByteArray) (n : Nat) : Prop where
  len : 1 ≤ (s.extract 0 n).size
  big : (s.extract 0 n).size ≤ 9223372036854775800
  low : ∀ c ∈ (s.extract 0 n).data.toList, 48 ≤ c.toNat
  none : numN (s.extract 0 n).data.toList = none → oneN s.data.toList = .error 41
  some : ∀ t, numN (s.extract 0 n).data.toList = some t → oneN s.data.toList = .ok (t, n)
theorem digit_at (s : ByteArray) (h0 : 0 < s.size) (hs : s.size ≤ 9223372036854775800) (hd : isD s[0] = true) (k n : Nat) (hk : runN isX s.data.toList = k)
    (hn : n = k ∧ s.data.toList[k]? ≠ some 72 ∨ n = k + 1 ∧ s.data.toList[k]? = some 72) : DigitAt s n := by
  have hk1 : 1 ≤ k := by
    have := head_at s h0
    rcases hl : s.data.toList with _ | ⟨a, r⟩
    · rw [hl] at this; cases this
    · rw [hl] at this; injection this with this
      rw [← hk, hl, runN_yes (by rw [this]; exact isX_of_isD hd)]; omega
  have hkl : k ≤ s.data.toList.length := by rw [← hk]; exact runN_le _ _
  have hnl : n ≤ s.data.toList.length := by
    rcases hn with ⟨rfl, _⟩ | ⟨rfl, h⟩
    · exact hkl
    · obtain ⟨h, _⟩ := List.getElem?_eq_some_iff.1 h; omega
  have hsz : (s.extract 0 n).size = n := by simp at hnl ⊢; omega
  have hone : oneN s.data.toList = match numN (s.data.toList.take n) with | none => .error 41 | some t => .ok (t, n) := by
    unfold oneN
    rw [head_at s h0]
    simp only [Option.getD_some, not_isL_of_isD hd, hd, if_true, Bool.false_eq_true, if_false]
    rw [hk]
    rcases hn with ⟨rfl, h⟩ | ⟨rfl, h⟩
    · rw [if_neg h] <;> (cases numN _ <;> rfl)
    · rw [if_pos h] <;> (cases numN _ <;> rfl)
  refine ⟨by rcases hn with ⟨rfl, _⟩ | ⟨rfl, h⟩ <;> omega, by simp at hnl; omega, ?_, ?_, ?_⟩
  · intro c hc
    rw [take_data] at hc
    rcases hn with ⟨rfl, _⟩ | ⟨rfl, h⟩
    · rw [← hk] at hc; exact isX_48 (runN_all _ _ c hc)
    · rw [List.take_add_one, h] at hc
      rcases List.mem_append.1 hc with hc | hc
      · rw [← hk] at hc; exact isX_48 (runN_all _ _ c hc)
      · simp at hc; subst hc; decide
  · intro h; rw [hone]; rw [take_data] at h; rw [h]
  · intro t h; rw [hone]; rw [take_data] at h; rw [h]

end Go.Proofs.Ytibpekgmgidebaa.Lx
