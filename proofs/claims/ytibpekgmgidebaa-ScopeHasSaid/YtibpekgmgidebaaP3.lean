/- The walks of Before and of the reference's Is, Pos and Behind. -/
import Derived.Test.YtibpekgmgidebaaP2
set_option linter.unusedSimpArgs false
set_option linter.unusedVariables false
namespace Go.Proofs.Ytibpekgmgidebaa.Pl
open Go.RowKit
open Fl

/-- Is one place ahead of another? -/
def befN (p q : Nat × Nat) : Bool := isN p && isN q && (decide (p.1 < q.1) || (decide (p.1 = q.1) && decide (p.2 < q.2)))
theorem befN_out1 {p q : Nat × Nat} (h : isN p = false) : befN p q = false := by simp [befN, h]
theorem befN_out2 {p q : Nat × Nat} (h : isN q = false) : befN p q = false := by simp [befN, h]
theorem befN_in {p q : Nat × Nat} (h1 : isN p = true) (h2 : isN q = true) : befN p q = (decide (p.1 < q.1) || (decide (p.1 = q.1) && decide (p.2 < q.2))) := by simp [befN, h1, h2]

end Go.Proofs.Ytibpekgmgidebaa.Pl
