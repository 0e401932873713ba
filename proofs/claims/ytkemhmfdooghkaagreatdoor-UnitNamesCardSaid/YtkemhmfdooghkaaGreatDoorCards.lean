/-
  DERIVED. GIVEN WITH THE SEED: THE CARDS: each row of YtkemhmfdooghkaaGreatDoorRows.lean that lists a variable, with what it lists TIED to the program's text (the seventh form; the later family's looks); each row that meets fmt, with fmt's text TOLD by the authors' own Lean function (tested against real Go, not proved from fmt's source: count such statements apart). THE CARD IS WHAT COUNTS. Prove the row's statement (the work); the ties are given (YtkemhmfdooghkaaGreatDoorTie.lean); close each card by the builder's one call (the guide's Derived/Test/ToyasCard.lean, 'card_holds'). Laid BY PROGRAM, IN A SANDBOX (cutbox-door.mjs). By AI agents, Wed Nov 11 2026. No macro, syntax, notation, axiom, sorry.
-/
import Derived.Test.YtkemhmfdooghkaaGreatDoorRows
import GoSem.ClaimSeven
namespace Go.Proofs.YtkemhmfdooghkaaGreatDoor
namespace Rows

/-- THE TIED CARD OF 'separatumlaw09.UnitCuts'. -/
def unitCutsCard : Claim7 := { stood := { row := unitCutsRow, standIns := [], harness := (true, "4eda0326797f9a25d4841bc9e30e5ab2f3628c7d5084d35509cef25a6ad40f3b"), looks := true }, kinds := [], alts := [], laidByText := true, laidKinds := [.data, .data, .data, .sentinel, .sentinel], laidTests := true, laidLooks := .later }
def UnitCutsCardSaid : Prop := Claim7.holds Tryz.pinned (.plain (OpenSpec.ofChange unitCutsSpec)) unitCutsCard

/-- THE TIED CARD OF 'separatumlaw09.UnitBlanks'. -/
def unitBlanksCard : Claim7 := { stood := { row := unitBlanksRow, standIns := [], harness := (true, "4eda0326797f9a25d4841bc9e30e5ab2f3628c7d5084d35509cef25a6ad40f3b"), looks := true }, kinds := [], alts := [], laidByText := true, laidKinds := [.data, .data, .data, .sentinel, .sentinel], laidTests := true, laidLooks := .later }
def UnitBlanksCardSaid : Prop := Claim7.holds Tryz.pinned (.plain (OpenSpec.ofChange unitBlanksSpec)) unitBlanksCard

/-- THE TIED CARD OF 'separatumlaw09.UnitNames'. -/
def unitNamesCard : Claim7 := { stood := { row := unitNamesRow, standIns := [], harness := (true, "4eda0326797f9a25d4841bc9e30e5ab2f3628c7d5084d35509cef25a6ad40f3b"), looks := true }, kinds := [], alts := [], laidByText := true, laidKinds := [.data, .data, .data, .sentinel, .sentinel], laidTests := true, laidLooks := .later }
def UnitNamesCardSaid : Prop := Claim7.holds Tryz.pinned (.plain (OpenSpec.ofChange unitNamesSpec)) unitNamesCard

/-- THE TIED CARD OF 'separatumlaw09.UnitImports'. -/
def unitImportsCard : Claim7 := { stood := { row := unitImportsRow, standIns := [], harness := (true, "4eda0326797f9a25d4841bc9e30e5ab2f3628c7d5084d35509cef25a6ad40f3b"), looks := true }, kinds := [], alts := [], laidByText := true, laidKinds := [.data, .data, .data, .sentinel, .sentinel], laidTests := true, laidLooks := .later }
def UnitImportsCardSaid : Prop := Claim7.holds Tryz.pinned (.plain (OpenSpec.ofChange unitImportsSpec)) unitImportsCard

/-- THE SECOND FORM's CARD OF 'separatumlaw09.UnitCuts'. -/
def unitCutsUptoCard : Claim7 := { stood := { row := unitCutsUptoRow, standIns := [], harness := (true, "4eda0326797f9a25d4841bc9e30e5ab2f3628c7d5084d35509cef25a6ad40f3b"), looks := true }, kinds := [], alts := [], laidByText := true, laidKinds := [.data, .data, .data, .sentinel, .sentinel], laidTests := true, laidLooks := .later }
def UnitCutsUptoCardSaid : Prop := Claim7.holds Tryz.pinned (.plain (OpenSpec.upto unitCutsSpec)) unitCutsUptoCard

/-- THE SECOND FORM's CARD OF 'separatumlaw09.UnitBlanks'. -/
def unitBlanksUptoCard : Claim7 := { stood := { row := unitBlanksUptoRow, standIns := [], harness := (true, "4eda0326797f9a25d4841bc9e30e5ab2f3628c7d5084d35509cef25a6ad40f3b"), looks := true }, kinds := [], alts := [], laidByText := true, laidKinds := [.data, .data, .data, .sentinel, .sentinel], laidTests := true, laidLooks := .later }
def UnitBlanksUptoCardSaid : Prop := Claim7.holds Tryz.pinned (.plain (OpenSpec.upto unitBlanksSpec)) unitBlanksUptoCard

/-- THE SECOND FORM's CARD OF 'separatumlaw09.UnitNames'. -/
def unitNamesUptoCard : Claim7 := { stood := { row := unitNamesUptoRow, standIns := [], harness := (true, "4eda0326797f9a25d4841bc9e30e5ab2f3628c7d5084d35509cef25a6ad40f3b"), looks := true }, kinds := [], alts := [], laidByText := true, laidKinds := [.data, .data, .data, .sentinel, .sentinel], laidTests := true, laidLooks := .later }
def UnitNamesUptoCardSaid : Prop := Claim7.holds Tryz.pinned (.plain (OpenSpec.upto unitNamesSpec)) unitNamesUptoCard

/-- THE SECOND FORM's CARD OF 'separatumlaw09.UnitImports'. -/
def unitImportsUptoCard : Claim7 := { stood := { row := unitImportsUptoRow, standIns := [], harness := (true, "4eda0326797f9a25d4841bc9e30e5ab2f3628c7d5084d35509cef25a6ad40f3b"), looks := true }, kinds := [], alts := [], laidByText := true, laidKinds := [.data, .data, .data, .sentinel, .sentinel], laidTests := true, laidLooks := .later }
def UnitImportsUptoCardSaid : Prop := Claim7.holds Tryz.pinned (.plain (OpenSpec.upto unitImportsSpec)) unitImportsUptoCard
end Rows
end Go.Proofs.YtkemhmfdooghkaaGreatDoor
