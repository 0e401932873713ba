/- The program's steps through a source are the reference's: plain. -/
import Derived.Test.YtkiedbanobjmlaaDoorL8
import Derived.Test.YtkiedbanobjmlaaDoorR9
set_option linter.unusedSimpArgs false
set_option linter.unusedVariables false
namespace Go.Proofs.YtkiedbanobjmlaaDoor.Lx
open Go.RowKit
open Pl Fl

theorem isBl_isB : isBl = isB := isBl_eq
theorem item_isB {s : List UInt8} (h : isB (s.head?.getD 0) = true) : item s = .blank 1 := by unfold item; rw [if_pos h]
theorem scan_run {src : List UInt8} : ∀ (m i : Nat), runN isB (src.drop i) = m → scanAt src i = scanAt src (i + m) := by
  intro m
  induction m with
  | zero => intro i _; rfl
  | succ m ih =>
    intro i h
    rcases Nat.lt_or_ge i src.length with hlt | hge
    · rw [List.drop_eq_getElem_cons hlt] at h
      cases hb : isB src[i]
      · rw [runN_no hb] at h; cases h
      · rw [runN_yes hb] at h
        have h2 : item (src.drop i) = .blank 1 := item_isB (by rw [List.drop_eq_getElem_cons hlt]; exact hb)
        rw [scanAt_blank hlt h2, ih (i + 1) (by omega)]
        congr 1
        omega
    · rw [List.drop_of_length_le hge, runN_nil] at h; cases h
theorem pre_take (s : List UInt8) : preB s [40, 42] = true ↔ s.take 2 = [40, 42] := by
  unfold preB
  rw [beq_iff_eq]
  rfl
/-- What blank does at a place of a source. -/
theorem blank_cases {src : List UInt8} {i : Nat} (h : i < src.length) :
    (∃ n, 1 ≤ n ∧ i + n ≤ src.length ∧ blankP (src.drop i) = (n, 0) ∧ scanAt src i = scanAt src (i + n)) ∨
    (blankP (src.drop i) = (0, 43) ∧ scanAt src i = .error (i, 43)) ∨
    (blankP (src.drop i) = (0, 0) ∧ scanAt src i = match oneN (src.drop i) with
      | .error k => .error (i, k)
      | .ok (t, n) => (scanAt src (i + n)).map ((t, i, i + n) :: ·)) := by
  have hle := runN_le isBl (src.drop i)
  rw [List.length_drop] at hle
  by_cases h0 : 0 < runN isBl (src.drop i)
  · refine .inl ⟨runN isBl (src.drop i), h0, by omega, by unfold blankP; rw [if_pos h0], ?_⟩
    rw [isBl_isB]
    exact scan_run _ i rfl
  · have hb0 : isB ((src.drop i).head?.getD 0) = false := by
      have hd := List.drop_eq_getElem_cons h
      cases hb : isB src[i]
      · rw [hd]; exact hb
      · rw [isBl_isB, hd, runN_yes hb] at h0
        omega
    by_cases hp : (src.drop i).take 2 = [40, 42]
    · have hpb := (pre_take _).2 hp
      by_cases hc : cmt 0 0 (src.drop i) = 0
      · refine .inr (.inl ⟨by unfold blankP; rw [if_neg h0, if_pos hpb, if_pos hc], ?_⟩)
        exact scanAt_bad h (by unfold item; rw [if_neg (by rw [hb0]; simp), if_pos hp, if_pos hc])
      · have hi : item (src.drop i) = .blank (cmt 0 0 (src.drop i)) := by unfold item; rw [if_neg (by rw [hb0]; simp), if_pos hp, if_neg hc]
        have hbd := (item_in h).1 _ hi
        refine .inl ⟨cmt 0 0 (src.drop i), hbd.1, hbd.2, by unfold blankP; rw [if_neg h0, if_pos hpb, if_neg hc], ?_⟩
        exact scanAt_blank h hi
    · have hpb : ¬ preB (src.drop i) [40, 42] = true := fun e => hp ((pre_take _).1 e)
      refine .inr (.inr ⟨by unfold blankP; rw [if_neg h0, if_neg hpb], ?_⟩)
      have hi : item (src.drop i) = match oneN (src.drop i) with | .error e => .bad e | .ok (t, n) => .tok t n := by
        rw [item, if_neg (by rw [hb0]; simp), if_neg hp] <;> (cases oneN (src.drop i) <;> rfl)
      cases ho : oneN (src.drop i) with
      | error k => rw [ho] at hi; exact scanAt_bad h hi
      | ok x =>
        obtain ⟨t, n⟩ := x
        rw [ho] at hi
        exact scanAt_tok h hi
end Go.Proofs.YtkiedbanobjmlaaDoor.Lx
