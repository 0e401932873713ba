/- The walks of place.Text, place.In and of the reference's Digits. -/
import Derived.Test.YtkiedbanobjmlaaDoorP5
import Derived.Test.YtkiedbanobjmlaaDoorShelf
import Derived.Laws.BytesString
import Derived.Laws.Concat
import Derived.Lib.AppendIntMem
import Derived.Lib.ItoaLen
import Derived.Lib.ItoaMem
set_option linter.unusedSimpArgs false
set_option linter.unusedVariables false
namespace Go.Proofs.YtkiedbanobjmlaaDoor.Pl
open Go.RowKit
open Fl

/-- The table that strconv reads. -/
def Tab (w : World) : Prop := Lib.TabIs Tryd.prog w "internal/strconv.uint64pow10" .u64 Lib.pow10Tab
theorem tab_below {w w' : World} (h : Tab w) (hb : Below w.heap.size w w') : Tab w' := by
  unfold Tab Lib.TabIs World.var? at h ⊢
  cases hg : Tryd.prog.globalNamed "internal/strconv.uint64pow10" with
  | none => rw [hg] at h; exact h
  | some g =>
    rw [hg] at h
    simp only [Option.bind_some] at h ⊢
    cases hh : w.heap[g]? with
    | none => rw [hh] at h; simp at h
    | some o => rw [hb.block g (Array.getElem?_eq_some_iff.1 hh).1, hh]; rw [hh] at h; exact h
theorem itoa_any (n : Nat) (w : World) (h1 : n ≤ 9223372036854775807) (ht : Tab w) :
    Calls Tryd.prog 105 #[.int .i64 n] w fun e w' => e = .returned (.string ⟨(Lib.decDigits n).toArray⟩) ∧ Below w.heap.size w w' :=
  (Tryd.strconv_Itoa n (by omega) (by omega) w ht).mono fun e w' ⟨he, k, os, hw⟩ => ⟨by rw [he, Lib.itoa_nonneg], by subst hw; exact Lib.below_grow _ _ (Nat.le_refl _) _ _⟩

def textN (p : Nat × Nat) : List UInt8 := if isN p then Lib.decDigits p.1 ++ 58 :: Lib.decDigits p.2 else []
theorem partN_in {p : Nat × Nat} (h : isN p = true) (n : Nat) : partN p n = n := by simp [partN, h]
theorem textN_in {p : Nat × Nat} (h : isN p = true) : textN p = Lib.decDigits p.1 ++ 58 :: Lib.decDigits p.2 := by simp [textN, h]
theorem textN_out {p : Nat × Nat} (h : isN p = false) : textN p = [] := by simp [textN, h]

end Go.Proofs.YtkiedbanobjmlaaDoor.Pl
