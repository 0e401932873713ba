/-
  No cell of these rows narrows 'for every input' (looked for: loops, veiled, ifaces, maps, wideKeys, modest, calm, conditions, laid).
  DERIVED. THE GIVEN ROWS OF THIS SEAT. 4 by the template 'for every input the law returns true; each argument reads behind the call as it read before'; 0 by the template 'total and deterministic' (their statements: YtecmjhohniipoaaTotals.lean).
  GIVEN WITH THE SEED: the statements are not yours to turn. If you find one false, say at which input.
  Laid BY PROGRAM, IN A SANDBOX (cutbox-rows.mjs): the forced cells as the released guide's own fill.sh prints them over the translation 9714bc0ec556fe91… (all of the seat's roots in one cut). By AI agents, Wed Nov 11 2026. No macro, syntax, notation, axiom, sorry.
-/
import Derived.Test.YtecmjhohniipoaaChecked
import GoSem.Claim
import GoSem.ClaimJoined
import GoSem.ClaimMapViews
import Derived.JoinedTies
import Derived.KernelRfl
namespace Go.Proofs.Ytecmjhohniipoaa
/- THE CELL 'sum', in the pinned program and in every row, IS THE sha256 OF THE DUMP (.gsa) THAT YtecmjhohniipoaaProg.lean LOADS. Nothing in Lean hashes anything: it is a label: what it is worth is what the hold of that sum in a sandbox is worth. -/
noncomputable def Try.pinned : Pinned := { name := "ytecmjhohniipoaa", sum := "9714bc0ec556fe91e04597d96087aab7851ee328be33d4e6c178082c636c9a00", checked := Try.checked }
namespace Rows
def none {H : Type} : Left H := { results := [], args := [] }

/-- 'separatumlaw07.StmtReads': WHATEVER THE INPUT: true; the input reads as it did. -/
def stmtReadsSpec : ChangeSpec := { name := "stmtReads", fn := fun _ => fun
  | [d1, d2] => { results := [.lit (.bool true)], args := [d1, d2] }
  | _ => none }
def stmtReadsRow : OpenClaim := { program := "ytecmjhohniipoaa", sum := "9714bc0ec556fe91e04597d96087aab7851ee328be33d4e6c178082c636c9a00", func := "separatum/separatumlaw07.StmtReads", spec := "stmtReads", unfollowed := true, recurses := true, apart := false }
def StmtReadsSaid : Prop := stmtReadsRow.holds Try.pinned (OpenSpec.ofChange stmtReadsSpec)

/-- ITS FALSE NEIGHBOUR: 'it returns false'. Refute it at one input. -/
def stmtReadsWrong : ChangeSpec := { name := "stmtReads", fn := fun _ => fun
  | [d1, d2] => { results := [.lit (.bool false)], args := [d1, d2] }
  | _ => none }
def StmtReadsWrongFalsely : Prop := stmtReadsRow.holds Try.pinned (OpenSpec.ofChange stmtReadsWrong)

/-- 'separatumlaw07.StmtSemis': WHATEVER THE INPUT: true; the input reads as it did. -/
def stmtSemisSpec : ChangeSpec := { name := "stmtSemis", fn := fun _ => fun
  | [d1, d2, d3] => { results := [.lit (.bool true)], args := [d1, d2, d3] }
  | _ => none }
def stmtSemisRow : OpenClaim := { program := "ytecmjhohniipoaa", sum := "9714bc0ec556fe91e04597d96087aab7851ee328be33d4e6c178082c636c9a00", func := "separatum/separatumlaw07.StmtSemis", spec := "stmtSemis", unfollowed := true, recurses := true, apart := false }
def StmtSemisSaid : Prop := stmtSemisRow.holds Try.pinned (OpenSpec.ofChange stmtSemisSpec)

/-- ITS FALSE NEIGHBOUR: 'it returns false'. Refute it at one input. -/
def stmtSemisWrong : ChangeSpec := { name := "stmtSemis", fn := fun _ => fun
  | [d1, d2, d3] => { results := [.lit (.bool false)], args := [d1, d2, d3] }
  | _ => none }
def StmtSemisWrongFalsely : Prop := stmtSemisRow.holds Try.pinned (OpenSpec.ofChange stmtSemisWrong)

/-- 'separatumlaw07.StmtCuts': WHATEVER THE INPUT: true; the input reads as it did. -/
def stmtCutsSpec : ChangeSpec := { name := "stmtCuts", fn := fun _ => fun
  | [d1, d2] => { results := [.lit (.bool true)], args := [d1, d2] }
  | _ => none }
def stmtCutsRow : OpenClaim := { program := "ytecmjhohniipoaa", sum := "9714bc0ec556fe91e04597d96087aab7851ee328be33d4e6c178082c636c9a00", func := "separatum/separatumlaw07.StmtCuts", spec := "stmtCuts", unfollowed := true, recurses := true, apart := false }
def StmtCutsSaid : Prop := stmtCutsRow.holds Try.pinned (OpenSpec.ofChange stmtCutsSpec)

/-- ITS FALSE NEIGHBOUR: 'it returns false'. Refute it at one input. -/
def stmtCutsWrong : ChangeSpec := { name := "stmtCuts", fn := fun _ => fun
  | [d1, d2] => { results := [.lit (.bool false)], args := [d1, d2] }
  | _ => none }
def StmtCutsWrongFalsely : Prop := stmtCutsRow.holds Try.pinned (OpenSpec.ofChange stmtCutsWrong)

/-- 'separatumlaw07.StmtWithin': WHATEVER THE INPUT: true; the input reads as it did. -/
def stmtWithinSpec : ChangeSpec := { name := "stmtWithin", fn := fun _ => fun
  | [d1, d2] => { results := [.lit (.bool true)], args := [d1, d2] }
  | _ => none }
def stmtWithinRow : OpenClaim := { program := "ytecmjhohniipoaa", sum := "9714bc0ec556fe91e04597d96087aab7851ee328be33d4e6c178082c636c9a00", func := "separatum/separatumlaw07.StmtWithin", spec := "stmtWithin", unfollowed := true, recurses := true, apart := false }
def StmtWithinSaid : Prop := stmtWithinRow.holds Try.pinned (OpenSpec.ofChange stmtWithinSpec)

/-- ITS FALSE NEIGHBOUR: 'it returns false'. Refute it at one input. -/
def stmtWithinWrong : ChangeSpec := { name := "stmtWithin", fn := fun _ => fun
  | [d1, d2] => { results := [.lit (.bool false)], args := [d1, d2] }
  | _ => none }
def StmtWithinWrongFalsely : Prop := stmtWithinRow.holds Try.pinned (OpenSpec.ofChange stmtWithinWrong)

/- THE SECOND FORM. 'bulk': how many values and letters a reading holds, each counted each time it is reached (what is shared counts as often as it is met; a slice's spare places count too). A statement '..UptoSaid' is the law's where the arguments, and the package variables that the reading takes, are together of bulk at most 1048576: NARROWER than '..Said'. Prove '..Said' where nothing that the law and all that it calls make is longer than what came in: it says more and counts as full. Else prove '..UptoSaid'. A law counts once. -/
mutual
def uptoBulk {H : Type} : DataW H → Nat
  | .lit (.string bytes) => bytes.length + 1
  | .lit _ => 1
  | .nil => 1
  | .ptr d => uptoBulk d + 1
  | .slice elems spare => uptoBulkAll elems + uptoBulkAll spare + 1
  | .agg parts => uptoBulkAll parts + 1
  | .iface _ d => uptoBulk d + 1
  | .map entries => uptoBulkEntries entries + 1
  | .held _ => 1
def uptoBulkAll {H : Type} : List (DataW H) → Nat
  | [] => 0
  | d :: r => uptoBulk d + uptoBulkAll r
def uptoBulkEntries {H : Type} : List (Lit × DataW H) → Nat
  | [] => 0
  | x :: r => uptoBulkEntry x + uptoBulkEntries r
def uptoBulkEntry {H : Type} : Lit × DataW H → Nat
  | (.string bytes, d) => bytes.length + uptoBulk d + 1
  | (_, d) => uptoBulk d + 1
 end
def uptoSmall : (H : Type) → List (DataW H) → Bool := fun _ ds => decide (uptoBulkAll ds ≤ 1048576)
def OpenSpec.upto (s : _root_.Go.ChangeSpec) : _root_.Go.OpenSpec := { _root_.Go.OpenSpec.ofChange s with cond := some uptoSmall }

/-- 'separatumlaw07.StmtReads', WHERE WHAT IT READS IS OF BULK AT MOST 1048576: true; the input reads as it did. -/
def stmtReadsUptoRow : OpenClaim := { program := "ytecmjhohniipoaa", sum := "9714bc0ec556fe91e04597d96087aab7851ee328be33d4e6c178082c636c9a00", func := "separatum/separatumlaw07.StmtReads", spec := "stmtReads", unfollowed := true, recurses := true, apart := false, narrowed := true }
def StmtReadsUptoSaid : Prop := stmtReadsUptoRow.holds Try.pinned (OpenSpec.upto stmtReadsSpec)

/-- 'separatumlaw07.StmtSemis', WHERE WHAT IT READS IS OF BULK AT MOST 1048576: true; the input reads as it did. -/
def stmtSemisUptoRow : OpenClaim := { program := "ytecmjhohniipoaa", sum := "9714bc0ec556fe91e04597d96087aab7851ee328be33d4e6c178082c636c9a00", func := "separatum/separatumlaw07.StmtSemis", spec := "stmtSemis", unfollowed := true, recurses := true, apart := false, narrowed := true }
def StmtSemisUptoSaid : Prop := stmtSemisUptoRow.holds Try.pinned (OpenSpec.upto stmtSemisSpec)

/-- 'separatumlaw07.StmtCuts', WHERE WHAT IT READS IS OF BULK AT MOST 1048576: true; the input reads as it did. -/
def stmtCutsUptoRow : OpenClaim := { program := "ytecmjhohniipoaa", sum := "9714bc0ec556fe91e04597d96087aab7851ee328be33d4e6c178082c636c9a00", func := "separatum/separatumlaw07.StmtCuts", spec := "stmtCuts", unfollowed := true, recurses := true, apart := false, narrowed := true }
def StmtCutsUptoSaid : Prop := stmtCutsUptoRow.holds Try.pinned (OpenSpec.upto stmtCutsSpec)

/-- 'separatumlaw07.StmtWithin', WHERE WHAT IT READS IS OF BULK AT MOST 1048576: true; the input reads as it did. -/
def stmtWithinUptoRow : OpenClaim := { program := "ytecmjhohniipoaa", sum := "9714bc0ec556fe91e04597d96087aab7851ee328be33d4e6c178082c636c9a00", func := "separatum/separatumlaw07.StmtWithin", spec := "stmtWithin", unfollowed := true, recurses := true, apart := false, narrowed := true }
def StmtWithinUptoSaid : Prop := stmtWithinUptoRow.holds Try.pinned (OpenSpec.upto stmtWithinSpec)

end Rows
end Go.Proofs.Ytecmjhohniipoaa
