/-
  No cell of these rows narrows 'for every input' (looked for: loops, veiled, ifaces, maps, wideKeys, modest, calm, conditions, laid).
  DERIVED. THE GIVEN ROWS OF THIS SEAT. 5 by the template 'for every input the law returns true; each argument reads behind the call as it read before'; 0 by the template 'total and deterministic' (their statements: YtnboenmkngjhmaaTotals.lean).
  GIVEN WITH THE SEED: the statements are not yours to turn. If you find one false, say at which input.
  Laid BY PROGRAM, IN A SANDBOX (cutbox-rows.mjs): the forced cells as the released guide's own fill.sh prints them over the translation 2cc33284dd1ef11e… (all of the seat's roots in one cut). By AI agents, Wed Nov 11 2026. No macro, syntax, notation, axiom, sorry.
-/
import Derived.Test.YtnboenmkngjhmaaChecked
import GoSem.Claim
import GoSem.ClaimJoined
import GoSem.ClaimMapViews
import Derived.JoinedTies
import Derived.KernelRfl
namespace Go.Proofs.Ytnboenmkngjhmaa
/- THE CELL 'sum', in the pinned program and in every row, IS THE sha256 OF THE DUMP (.gsa) THAT YtnboenmkngjhmaaProg.lean LOADS. Nothing in Lean hashes anything: it is a label: what it is worth is what the hold of that sum in a sandbox is worth. -/
noncomputable def Try.pinned : Pinned := { name := "ytnboenmkngjhmaa", sum := "2cc33284dd1ef11eaea8e12b97cb602d31329c808c8a04ee3479ed2e8a1a936c", checked := Try.checked }
namespace Rows
def none {H : Type} : Left H := { results := [], args := [] }

/-- 'separatumlaw06.ExprBack': WHATEVER THE INPUT: true; the input reads as it did. -/
def exprBackSpec : ChangeSpec := { name := "exprBack", fn := fun _ => fun
  | [d1, d2] => { results := [.lit (.bool true)], args := [d1, d2] }
  | _ => none }
def exprBackRow : OpenClaim := { program := "ytnboenmkngjhmaa", sum := "2cc33284dd1ef11eaea8e12b97cb602d31329c808c8a04ee3479ed2e8a1a936c", func := "separatum/separatumlaw06.ExprBack", spec := "exprBack", unfollowed := true, recurses := true, apart := false }
def ExprBackSaid : Prop := exprBackRow.holds Try.pinned (OpenSpec.ofChange exprBackSpec)

/-- ITS FALSE NEIGHBOUR: 'it returns false'. Refute it at one input. -/
def exprBackWrong : ChangeSpec := { name := "exprBack", fn := fun _ => fun
  | [d1, d2] => { results := [.lit (.bool false)], args := [d1, d2] }
  | _ => none }
def ExprBackWrongFalsely : Prop := exprBackRow.holds Try.pinned (OpenSpec.ofChange exprBackWrong)

/-- 'separatumlaw06.ExprSides': WHATEVER THE INPUT: true; the input reads as it did. -/
def exprSidesSpec : ChangeSpec := { name := "exprSides", fn := fun _ => fun
  | [d1, d2] => { results := [.lit (.bool true)], args := [d1, d2] }
  | _ => none }
def exprSidesRow : OpenClaim := { program := "ytnboenmkngjhmaa", sum := "2cc33284dd1ef11eaea8e12b97cb602d31329c808c8a04ee3479ed2e8a1a936c", func := "separatum/separatumlaw06.ExprSides", spec := "exprSides", unfollowed := true, recurses := true, apart := false }
def ExprSidesSaid : Prop := exprSidesRow.holds Try.pinned (OpenSpec.ofChange exprSidesSpec)

/-- ITS FALSE NEIGHBOUR: 'it returns false'. Refute it at one input. -/
def exprSidesWrong : ChangeSpec := { name := "exprSides", fn := fun _ => fun
  | [d1, d2] => { results := [.lit (.bool false)], args := [d1, d2] }
  | _ => none }
def ExprSidesWrongFalsely : Prop := exprSidesRow.holds Try.pinned (OpenSpec.ofChange exprSidesWrong)

/-- 'separatumlaw06.ExprParens': WHATEVER THE INPUT: true; the input reads as it did. -/
def exprParensSpec : ChangeSpec := { name := "exprParens", fn := fun _ => fun
  | [d1, d2] => { results := [.lit (.bool true)], args := [d1, d2] }
  | _ => none }
def exprParensRow : OpenClaim := { program := "ytnboenmkngjhmaa", sum := "2cc33284dd1ef11eaea8e12b97cb602d31329c808c8a04ee3479ed2e8a1a936c", func := "separatum/separatumlaw06.ExprParens", spec := "exprParens", unfollowed := true, recurses := true, apart := false }
def ExprParensSaid : Prop := exprParensRow.holds Try.pinned (OpenSpec.ofChange exprParensSpec)

/-- ITS FALSE NEIGHBOUR: 'it returns false'. Refute it at one input. -/
def exprParensWrong : ChangeSpec := { name := "exprParens", fn := fun _ => fun
  | [d1, d2] => { results := [.lit (.bool false)], args := [d1, d2] }
  | _ => none }
def ExprParensWrongFalsely : Prop := exprParensRow.holds Try.pinned (OpenSpec.ofChange exprParensWrong)

/-- 'separatumlaw06.ExprReads': WHATEVER THE INPUT: true; the input reads as it did. -/
def exprReadsSpec : ChangeSpec := { name := "exprReads", fn := fun _ => fun
  | [d1, d2, d3] => { results := [.lit (.bool true)], args := [d1, d2, d3] }
  | _ => none }
def exprReadsRow : OpenClaim := { program := "ytnboenmkngjhmaa", sum := "2cc33284dd1ef11eaea8e12b97cb602d31329c808c8a04ee3479ed2e8a1a936c", func := "separatum/separatumlaw06.ExprReads", spec := "exprReads", unfollowed := true, recurses := true, apart := false }
def ExprReadsSaid : Prop := exprReadsRow.holds Try.pinned (OpenSpec.ofChange exprReadsSpec)

/-- ITS FALSE NEIGHBOUR: 'it returns false'. Refute it at one input. -/
def exprReadsWrong : ChangeSpec := { name := "exprReads", fn := fun _ => fun
  | [d1, d2, d3] => { results := [.lit (.bool false)], args := [d1, d2, d3] }
  | _ => none }
def ExprReadsWrongFalsely : Prop := exprReadsRow.holds Try.pinned (OpenSpec.ofChange exprReadsWrong)

/-- 'separatumlaw06.ExprCuts': WHATEVER THE INPUT: true; the input reads as it did. -/
def exprCutsSpec : ChangeSpec := { name := "exprCuts", fn := fun _ => fun
  | [d1, d2, d3] => { results := [.lit (.bool true)], args := [d1, d2, d3] }
  | _ => none }
def exprCutsRow : OpenClaim := { program := "ytnboenmkngjhmaa", sum := "2cc33284dd1ef11eaea8e12b97cb602d31329c808c8a04ee3479ed2e8a1a936c", func := "separatum/separatumlaw06.ExprCuts", spec := "exprCuts", unfollowed := true, recurses := true, apart := false }
def ExprCutsSaid : Prop := exprCutsRow.holds Try.pinned (OpenSpec.ofChange exprCutsSpec)

/-- ITS FALSE NEIGHBOUR: 'it returns false'. Refute it at one input. -/
def exprCutsWrong : ChangeSpec := { name := "exprCuts", fn := fun _ => fun
  | [d1, d2, d3] => { results := [.lit (.bool false)], args := [d1, d2, d3] }
  | _ => none }
def ExprCutsWrongFalsely : Prop := exprCutsRow.holds Try.pinned (OpenSpec.ofChange exprCutsWrong)

/- THE SECOND FORM. 'bulk': how many values and letters a reading holds, each counted each time it is reached (what is shared counts as often as it is met; a slice's spare places count too). A statement '..UptoSaid' is the law's where the arguments, and the package variables that the reading takes, are together of bulk at most 1048576: NARROWER than '..Said'. Prove '..Said' where nothing that the law and all that it calls make is longer than what came in: it says more and counts as full. Else prove '..UptoSaid'. A law counts once. -/
mutual
def uptoBulk {H : Type} : DataW H → Nat
  | .lit (.string bytes) => bytes.length + 1
  | .lit _ => 1
  | .nil => 1
  | .ptr d => uptoBulk d + 1
  | .slice elems spare => uptoBulkAll elems + uptoBulkAll spare + 1
  | .agg parts => uptoBulkAll parts + 1
  | .iface _ d => uptoBulk d + 1
  | .map entries => uptoBulkEntries entries + 1
  | .held _ => 1
def uptoBulkAll {H : Type} : List (DataW H) → Nat
  | [] => 0
  | d :: r => uptoBulk d + uptoBulkAll r
def uptoBulkEntries {H : Type} : List (Lit × DataW H) → Nat
  | [] => 0
  | x :: r => uptoBulkEntry x + uptoBulkEntries r
def uptoBulkEntry {H : Type} : Lit × DataW H → Nat
  | (.string bytes, d) => bytes.length + uptoBulk d + 1
  | (_, d) => uptoBulk d + 1
 end
def uptoSmall : (H : Type) → List (DataW H) → Bool := fun _ ds => decide (uptoBulkAll ds ≤ 1048576)
def OpenSpec.upto (s : _root_.Go.ChangeSpec) : _root_.Go.OpenSpec := { _root_.Go.OpenSpec.ofChange s with cond := some uptoSmall }

/-- 'separatumlaw06.ExprBack', WHERE WHAT IT READS IS OF BULK AT MOST 1048576: true; the input reads as it did. -/
def exprBackUptoRow : OpenClaim := { program := "ytnboenmkngjhmaa", sum := "2cc33284dd1ef11eaea8e12b97cb602d31329c808c8a04ee3479ed2e8a1a936c", func := "separatum/separatumlaw06.ExprBack", spec := "exprBack", unfollowed := true, recurses := true, apart := false, narrowed := true }
def ExprBackUptoSaid : Prop := exprBackUptoRow.holds Try.pinned (OpenSpec.upto exprBackSpec)

/-- 'separatumlaw06.ExprSides', WHERE WHAT IT READS IS OF BULK AT MOST 1048576: true; the input reads as it did. -/
def exprSidesUptoRow : OpenClaim := { program := "ytnboenmkngjhmaa", sum := "2cc33284dd1ef11eaea8e12b97cb602d31329c808c8a04ee3479ed2e8a1a936c", func := "separatum/separatumlaw06.ExprSides", spec := "exprSides", unfollowed := true, recurses := true, apart := false, narrowed := true }
def ExprSidesUptoSaid : Prop := exprSidesUptoRow.holds Try.pinned (OpenSpec.upto exprSidesSpec)

/-- 'separatumlaw06.ExprParens', WHERE WHAT IT READS IS OF BULK AT MOST 1048576: true; the input reads as it did. -/
def exprParensUptoRow : OpenClaim := { program := "ytnboenmkngjhmaa", sum := "2cc33284dd1ef11eaea8e12b97cb602d31329c808c8a04ee3479ed2e8a1a936c", func := "separatum/separatumlaw06.ExprParens", spec := "exprParens", unfollowed := true, recurses := true, apart := false, narrowed := true }
def ExprParensUptoSaid : Prop := exprParensUptoRow.holds Try.pinned (OpenSpec.upto exprParensSpec)

/-- 'separatumlaw06.ExprReads', WHERE WHAT IT READS IS OF BULK AT MOST 1048576: true; the input reads as it did. -/
def exprReadsUptoRow : OpenClaim := { program := "ytnboenmkngjhmaa", sum := "2cc33284dd1ef11eaea8e12b97cb602d31329c808c8a04ee3479ed2e8a1a936c", func := "separatum/separatumlaw06.ExprReads", spec := "exprReads", unfollowed := true, recurses := true, apart := false, narrowed := true }
def ExprReadsUptoSaid : Prop := exprReadsUptoRow.holds Try.pinned (OpenSpec.upto exprReadsSpec)

/-- 'separatumlaw06.ExprCuts', WHERE WHAT IT READS IS OF BULK AT MOST 1048576: true; the input reads as it did. -/
def exprCutsUptoRow : OpenClaim := { program := "ytnboenmkngjhmaa", sum := "2cc33284dd1ef11eaea8e12b97cb602d31329c808c8a04ee3479ed2e8a1a936c", func := "separatum/separatumlaw06.ExprCuts", spec := "exprCuts", unfollowed := true, recurses := true, apart := false, narrowed := true }
def ExprCutsUptoSaid : Prop := exprCutsUptoRow.holds Try.pinned (OpenSpec.upto exprCutsSpec)

end Rows
end Go.Proofs.Ytnboenmkngjhmaa
