/-
  DERIVED. GIVEN WITH THE SEED: THE CARDS: each row of YtpomnihgimgpdaaDoorRows.lean that lists a variable, with what it lists TIED to the program's text (the seventh form; the later family's looks); each row that meets fmt, with fmt's text TOLD by the authors' own Lean function (tested against real Go, not proved from fmt's source: count such statements apart). THE CARD IS WHAT COUNTS. Prove the row's statement (the work); the ties are given (YtpomnihgimgpdaaDoorTie.lean); close each card by the builder's one call (the guide's Derived/Test/ToyasCard.lean, 'card_holds'). Laid BY PROGRAM, IN A SANDBOX (cutbox-door.mjs). By AI agents, Wed Nov 11 2026. No macro, syntax, notation, axiom, sorry.
-/
import Derived.Test.YtpomnihgimgpdaaDoorRows
import GoSem.ClaimSeven
namespace Go.Proofs.YtpomnihgimgpdaaDoor
namespace Rows

/-- THE TIED CARD OF 'separatumlaw03.PlaceTells'. -/
def placeTellsCard : Claim7 := { stood := { row := placeTellsRow, standIns := [], harness := (true, "fa6b1e6807ad8f874003d3d9fbb31f0be222599dc27b23f3b1246ea094c8e256"), looks := true }, kinds := [], alts := [], laidByText := true, laidKinds := [.data, .data, .data, .sentinel, .sentinel], laidTests := true, laidLooks := .later }
def PlaceTellsCardSaid : Prop := Claim7.holds Tryd.pinned (.plain (OpenSpec.ofChange placeTellsSpec)) placeTellsCard

/-- THE TIED CARD OF 'separatumlaw03.PlaceOrder'. -/
def placeOrderCard : Claim7 := { stood := { row := placeOrderRow, standIns := [], harness := (true, "fa6b1e6807ad8f874003d3d9fbb31f0be222599dc27b23f3b1246ea094c8e256"), looks := true }, kinds := [], alts := [], laidByText := true, laidKinds := [.data, .data, .data, .sentinel, .sentinel], laidTests := true, laidLooks := .later }
def PlaceOrderCardSaid : Prop := Claim7.holds Tryd.pinned (.plain (OpenSpec.ofChange placeOrderSpec)) placeOrderCard

/-- THE TIED CARD OF 'separatumlaw03.PlaceLines'. -/
def placeLinesCard : Claim7 := { stood := { row := placeLinesRow, standIns := [], harness := (true, "fa6b1e6807ad8f874003d3d9fbb31f0be222599dc27b23f3b1246ea094c8e256"), looks := true }, kinds := [], alts := [], laidByText := true, laidKinds := [.data, .data, .data, .sentinel, .sentinel], laidTests := true, laidLooks := .later }
def PlaceLinesCardSaid : Prop := Claim7.holds Tryd.pinned (.plain (OpenSpec.ofChange placeLinesSpec)) placeLinesCard

/-- THE TIED CARD OF 'separatumlaw03.PlacePlain'. -/
def placePlainCard : Claim7 := { stood := { row := placePlainRow, standIns := [], harness := (true, "fa6b1e6807ad8f874003d3d9fbb31f0be222599dc27b23f3b1246ea094c8e256"), looks := true }, kinds := [], alts := [], laidByText := true, laidKinds := [.data, .data, .data, .sentinel, .sentinel], laidTests := true, laidLooks := .later }
def PlacePlainCardSaid : Prop := Claim7.holds Tryd.pinned (.plain (OpenSpec.ofChange placePlainSpec)) placePlainCard

/-- THE TIED CARD OF 'separatumlaw03.PlaceIn'. -/
def placeInCard : Claim7 := { stood := { row := placeInRow, standIns := [], harness := (true, "fa6b1e6807ad8f874003d3d9fbb31f0be222599dc27b23f3b1246ea094c8e256"), looks := true }, kinds := [], alts := [], laidByText := true, laidKinds := [.data, .data, .data, .sentinel, .sentinel], laidTests := true, laidLooks := .later }
def PlaceInCardSaid : Prop := Claim7.holds Tryd.pinned (.plain (OpenSpec.ofChange placeInSpec)) placeInCard

/-- THE TIED CARD OF 'separatumlaw03.PlaceBack'. -/
def placeBackCard : Claim7 := { stood := { row := placeBackRow, standIns := [], harness := (true, "fa6b1e6807ad8f874003d3d9fbb31f0be222599dc27b23f3b1246ea094c8e256"), looks := true }, kinds := [], alts := [], laidByText := true, laidKinds := [.data, .data, .data, .sentinel, .sentinel], laidTests := true, laidLooks := .later }
def PlaceBackCardSaid : Prop := Claim7.holds Tryd.pinned (.plain (OpenSpec.ofChange placeBackSpec)) placeBackCard

/-- THE SECOND FORM's CARD OF 'separatumlaw03.PlaceTells'. -/
def placeTellsUptoCard : Claim7 := { stood := { row := placeTellsUptoRow, standIns := [], harness := (true, "fa6b1e6807ad8f874003d3d9fbb31f0be222599dc27b23f3b1246ea094c8e256"), looks := true }, kinds := [], alts := [], laidByText := true, laidKinds := [.data, .data, .data, .sentinel, .sentinel], laidTests := true, laidLooks := .later }
def PlaceTellsUptoCardSaid : Prop := Claim7.holds Tryd.pinned (.plain (OpenSpec.upto placeTellsSpec)) placeTellsUptoCard

/-- THE SECOND FORM's CARD OF 'separatumlaw03.PlaceOrder'. -/
def placeOrderUptoCard : Claim7 := { stood := { row := placeOrderUptoRow, standIns := [], harness := (true, "fa6b1e6807ad8f874003d3d9fbb31f0be222599dc27b23f3b1246ea094c8e256"), looks := true }, kinds := [], alts := [], laidByText := true, laidKinds := [.data, .data, .data, .sentinel, .sentinel], laidTests := true, laidLooks := .later }
def PlaceOrderUptoCardSaid : Prop := Claim7.holds Tryd.pinned (.plain (OpenSpec.upto placeOrderSpec)) placeOrderUptoCard

/-- THE SECOND FORM's CARD OF 'separatumlaw03.PlaceLines'. -/
def placeLinesUptoCard : Claim7 := { stood := { row := placeLinesUptoRow, standIns := [], harness := (true, "fa6b1e6807ad8f874003d3d9fbb31f0be222599dc27b23f3b1246ea094c8e256"), looks := true }, kinds := [], alts := [], laidByText := true, laidKinds := [.data, .data, .data, .sentinel, .sentinel], laidTests := true, laidLooks := .later }
def PlaceLinesUptoCardSaid : Prop := Claim7.holds Tryd.pinned (.plain (OpenSpec.upto placeLinesSpec)) placeLinesUptoCard

/-- THE SECOND FORM's CARD OF 'separatumlaw03.PlacePlain'. -/
def placePlainUptoCard : Claim7 := { stood := { row := placePlainUptoRow, standIns := [], harness := (true, "fa6b1e6807ad8f874003d3d9fbb31f0be222599dc27b23f3b1246ea094c8e256"), looks := true }, kinds := [], alts := [], laidByText := true, laidKinds := [.data, .data, .data, .sentinel, .sentinel], laidTests := true, laidLooks := .later }
def PlacePlainUptoCardSaid : Prop := Claim7.holds Tryd.pinned (.plain (OpenSpec.upto placePlainSpec)) placePlainUptoCard

/-- THE SECOND FORM's CARD OF 'separatumlaw03.PlaceIn'. -/
def placeInUptoCard : Claim7 := { stood := { row := placeInUptoRow, standIns := [], harness := (true, "fa6b1e6807ad8f874003d3d9fbb31f0be222599dc27b23f3b1246ea094c8e256"), looks := true }, kinds := [], alts := [], laidByText := true, laidKinds := [.data, .data, .data, .sentinel, .sentinel], laidTests := true, laidLooks := .later }
def PlaceInUptoCardSaid : Prop := Claim7.holds Tryd.pinned (.plain (OpenSpec.upto placeInSpec)) placeInUptoCard

/-- THE SECOND FORM's CARD OF 'separatumlaw03.PlaceBack'. -/
def placeBackUptoCard : Claim7 := { stood := { row := placeBackUptoRow, standIns := [], harness := (true, "fa6b1e6807ad8f874003d3d9fbb31f0be222599dc27b23f3b1246ea094c8e256"), looks := true }, kinds := [], alts := [], laidByText := true, laidKinds := [.data, .data, .data, .sentinel, .sentinel], laidTests := true, laidLooks := .later }
def PlaceBackUptoCardSaid : Prop := Claim7.holds Tryd.pinned (.plain (OpenSpec.upto placeBackSpec)) placeBackUptoCard
end Rows
end Go.Proofs.YtpomnihgimgpdaaDoor
