/- The walks of the reference's Is, Pos, Behind. -/
import Derived.Test.YtibpekgmgidebaaP3
import Derived.Laws.OwnMore
set_option linter.unusedSimpArgs false
set_option linter.unusedVariables false
namespace Go.Proofs.Ytibpekgmgidebaa.Pl
open Go.RowKit
open Fl

/-- The reference's place. -/
def R (l c : Int) : Value := .agg #[.int .i64 l, .int .i64 c]
def isR (l c : Int) : Bool := decide (1 ≤ l) && decide (l ≤ 1073741824) && (decide (1 ≤ c) && decide (c ≤ 1073741824))
theorem isR_in {l c : Int} (h : isR l c = true) : (1 ≤ l ∧ l ≤ 1073741824) ∧ 1 ≤ c ∧ c ≤ 1073741824 := by simpa [isR] using h
theorem ofN_in {l c : Int} (h : isR l c = true) : ofN l c = (l.toNat, c.toNat) := by
  have := isR_in h
  unfold ofN; rw [if_neg (by omega)]
theorem isR_mk {l c : Int} (h1 : 1 ≤ l) (h2 : l ≤ 1073741824) (h3 : 1 ≤ c) (h4 : c ≤ 1073741824) : isR l c = true := by simp [isR, h1, h2, h3, h4]
theorem ofN_out {l c : Int} (h : isR l c = false) : ofN l c = (0, 0) := by
  unfold ofN; rw [if_pos]
  by_cases g : 1 ≤ l ∧ l ≤ 1073741824 ∧ 1 ≤ c ∧ c ≤ 1073741824
  · rw [isR_mk g.1 g.2.1 g.2.2.1 g.2.2.2] at h; cases h
  · omega
theorem below_alloc {w wr : World} (h : Below w.heap.size w wr) (o : Obj) : Below w.heap.size w (wr.alloc o) := h.alloc h.size o

end Go.Proofs.Ytibpekgmgidebaa.Pl
