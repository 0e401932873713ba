/- The walk of the reference's One at a quote, at a symbol; all together. -/
import Derived.Test.YtibpekgmgidebaaR7
set_option linter.unusedSimpArgs false
set_option linter.unusedVariables false
namespace Go.Proofs.Ytibpekgmgidebaa.Lx
open Go.RowKit
open Pl Fl
attribute [local go_sem] run_store_complexL

/-- What a string goes on with. -/
def isQ (c : UInt8) (x : UInt8) : Bool := x != c && x != 10
theorem one_quote (s : ByteArray) (h0 : 0 < s.size) (hl : isL s[0] = false) (hd : isD s[0] = false) (hq : s[0] = 34 ∨ s[0] = 39) (k : Nat) (hk1 : 1 ≤ k) (hk : runN (isQ s[0]) (s.data.toList.drop 1) = k - 1) :
    ((s.data.toList[k]? = none ∨ s.data.toList[k]? = some 10) → oneN s.data.toList = .error 42) ∧
    (¬ (s.data.toList[k]? = none ∨ s.data.toList[k]? = some 10) → oneN s.data.toList = .ok (⟨4, s.extract 1 k, 0⟩, k + 1)) := by
  have hone : oneN s.data.toList = if s.data.toList[k]? = none ∨ s.data.toList[k]? = some 10 then .error 42 else .ok (⟨4, bt ((s.data.toList.take k).drop 1), 0⟩, k + 1) := by
    unfold oneN
    rw [head_at s h0]
    simp only [Option.getD_some, hl, hd, hq, if_true, Bool.false_eq_true, if_false]
    have e : runN (fun x => x != s[0] && x != 10) s.data.toList.tail = k - 1 := by rw [← hk, List.drop_one]; rfl
    rw [e, show 1 + (k - 1) = k from by omega]
  constructor
  · intro h; rw [hone, if_pos h]
  · intro h; rw [hone, if_neg h]
    have : s.extract 1 k = bt ((s.data.toList.take k).drop 1) := by
      apply bytes_ext
      rw [ByteArray.data_extract, Array.toList_extract, List.extract_eq_take_drop]
      simp [bt, List.drop_take]
    rw [this]

theorem ne_of_eq {a b : Int} {c : Bool} (h : (a == b) = c) : (a != b) = !c := by simp [bne, h]
theorem one_symbol (s : ByteArray) (h0 : 0 < s.size) (hl : isL s[0] = false) (hd : isD s[0] = false) (hq : ¬ (s[0] = 34 ∨ s[0] = 39)) :
    (symN s.data.toList = 0 → oneN s.data.toList = .error 40) ∧ (∀ n, symN s.data.toList = n → n ≠ 0 → oneN s.data.toList = .ok (plainT (s.extract 0 n), n)) := by
  have hone : oneN s.data.toList = if symN s.data.toList = 0 then .error 40 else .ok (plainT (bt (s.data.toList.take (symN s.data.toList))), symN s.data.toList) := by
    unfold oneN
    rw [head_at s h0]
    simp only [Option.getD_some, hl, hd, hq, Bool.false_eq_true, if_false]
  constructor
  · intro h; rw [hone, if_pos h]
  · rintro n rfl hn; rw [hone, if_neg hn, ext_take]
theorem symN_le (s : List UInt8) (h : s ≠ []) : symN s ≤ s.length := by
  unfold symN
  split
  · rename_i h2
    obtain ⟨x, hx, e⟩ := List.any_eq_true.1 h2
    have := twos_size x hx
    have e := eq_of_beq e
    rw [e] at this
    simp at this
    omega
  · split
    · rcases s with _ | ⟨a, r⟩
      · exact absurd rfl h
      · simp
    · omega

end Go.Proofs.Ytibpekgmgidebaa.Lx
