/-
  DERIVED. GIVEN WITH THE SEED: THE CARDS: each row of YtdodbbedlgglcaaDoorRows.lean that lists a variable, with what it lists TIED to the program's text (the seventh form; the later family's looks); each row that meets fmt, with fmt's text TOLD by the authors' own Lean function (tested against real Go, not proved from fmt's source: count such statements apart). THE CARD IS WHAT COUNTS. Prove the row's statement (the work); the ties are given (YtdodbbedlgglcaaDoorTie.lean); close each card by the builder's one call (the guide's Derived/Test/ToyasCard.lean, 'card_holds'). Laid BY PROGRAM, IN A SANDBOX (cutbox-door.mjs). By AI agents, Wed Nov 11 2026. No macro, syntax, notation, axiom, sorry.
-/
import Derived.Test.YtdodbbedlgglcaaDoorRows
import GoSem.ClaimSeven
namespace Go.Proofs.YtdodbbedlgglcaaDoor
namespace Rows

/-- THE TIED CARD OF 'separatumlaw01.WordDoes'. -/
def wordDoesCard : Claim7 := { stood := { row := wordDoesRow, standIns := [], harness := (true, "203e559b992980478519b74afd651c58ccbccd669bdee83c8ed2887839e8b40e"), looks := false }, kinds := [], alts := [], laidByText := true, laidKinds := [.data, .data, .data], laidTests := true, laidLooks := .later }
def WordDoesCardSaid : Prop := Claim7.holds Tryd.pinned (.plain (OpenSpec.ofChange wordDoesSpec)) wordDoesCard

/-- THE TIED CARD OF 'separatumlaw01.WordRules'. -/
def wordRulesCard : Claim7 := { stood := { row := wordRulesRow, standIns := [], harness := (true, "203e559b992980478519b74afd651c58ccbccd669bdee83c8ed2887839e8b40e"), looks := false }, kinds := [], alts := [], laidByText := true, laidKinds := [.data, .data, .data], laidTests := true, laidLooks := .later }
def WordRulesCardSaid : Prop := Claim7.holds Tryd.pinned (.plain (OpenSpec.ofChange wordRulesSpec)) wordRulesCard

/-- THE TIED CARD OF 'separatumlaw01.WordAsks'. -/
def wordAsksCard : Claim7 := { stood := { row := wordAsksRow, standIns := [], harness := (true, "203e559b992980478519b74afd651c58ccbccd669bdee83c8ed2887839e8b40e"), looks := false }, kinds := [], alts := [], laidByText := true, laidKinds := [.data, .data, .data], laidTests := true, laidLooks := .later }
def WordAsksCardSaid : Prop := Claim7.holds Tryd.pinned (.plain (OpenSpec.ofChange wordAsksSpec)) wordAsksCard

/-- THE TIED CARD OF 'separatumlaw01.WordSets'. -/
def wordSetsCard : Claim7 := { stood := { row := wordSetsRow, standIns := [], harness := (true, "203e559b992980478519b74afd651c58ccbccd669bdee83c8ed2887839e8b40e"), looks := false }, kinds := [], alts := [], laidByText := true, laidKinds := [.data, .data, .data], laidTests := true, laidLooks := .later }
def WordSetsCardSaid : Prop := Claim7.holds Tryd.pinned (.plain (OpenSpec.ofChange wordSetsSpec)) wordSetsCard

/-- THE TIED CARD OF 'separatumlaw01.WordTexts'. -/
def wordTextsCard : Claim7 := { stood := { row := wordTextsRow, standIns := [], harness := (true, "203e559b992980478519b74afd651c58ccbccd669bdee83c8ed2887839e8b40e"), looks := false }, kinds := [], alts := [], laidByText := true, laidKinds := [.data, .data, .data], laidTests := true, laidLooks := .later }
def WordTextsCardSaid : Prop := Claim7.holds Tryd.pinned (.plain (OpenSpec.ofChange wordTextsSpec)) wordTextsCard

/-- THE TIED CARD OF 'separatumlaw01.WordTells'. -/
def wordTellsCard : Claim7 := { stood := { row := wordTellsRow, standIns := [], harness := (true, "203e559b992980478519b74afd651c58ccbccd669bdee83c8ed2887839e8b40e"), looks := false }, kinds := [], alts := [], laidByText := true, laidKinds := [.data, .data, .data], laidTests := true, laidLooks := .later }
def WordTellsCardSaid : Prop := Claim7.holds Tryd.pinned (.plain (OpenSpec.ofChange wordTellsSpec)) wordTellsCard

/-- THE SECOND FORM's CARD OF 'separatumlaw01.WordDoes'. -/
def wordDoesUptoCard : Claim7 := { stood := { row := wordDoesUptoRow, standIns := [], harness := (true, "203e559b992980478519b74afd651c58ccbccd669bdee83c8ed2887839e8b40e"), looks := false }, kinds := [], alts := [], laidByText := true, laidKinds := [.data, .data, .data], laidTests := true, laidLooks := .later }
def WordDoesUptoCardSaid : Prop := Claim7.holds Tryd.pinned (.plain (OpenSpec.upto wordDoesSpec)) wordDoesUptoCard

/-- THE SECOND FORM's CARD OF 'separatumlaw01.WordRules'. -/
def wordRulesUptoCard : Claim7 := { stood := { row := wordRulesUptoRow, standIns := [], harness := (true, "203e559b992980478519b74afd651c58ccbccd669bdee83c8ed2887839e8b40e"), looks := false }, kinds := [], alts := [], laidByText := true, laidKinds := [.data, .data, .data], laidTests := true, laidLooks := .later }
def WordRulesUptoCardSaid : Prop := Claim7.holds Tryd.pinned (.plain (OpenSpec.upto wordRulesSpec)) wordRulesUptoCard

/-- THE SECOND FORM's CARD OF 'separatumlaw01.WordAsks'. -/
def wordAsksUptoCard : Claim7 := { stood := { row := wordAsksUptoRow, standIns := [], harness := (true, "203e559b992980478519b74afd651c58ccbccd669bdee83c8ed2887839e8b40e"), looks := false }, kinds := [], alts := [], laidByText := true, laidKinds := [.data, .data, .data], laidTests := true, laidLooks := .later }
def WordAsksUptoCardSaid : Prop := Claim7.holds Tryd.pinned (.plain (OpenSpec.upto wordAsksSpec)) wordAsksUptoCard

/-- THE SECOND FORM's CARD OF 'separatumlaw01.WordSets'. -/
def wordSetsUptoCard : Claim7 := { stood := { row := wordSetsUptoRow, standIns := [], harness := (true, "203e559b992980478519b74afd651c58ccbccd669bdee83c8ed2887839e8b40e"), looks := false }, kinds := [], alts := [], laidByText := true, laidKinds := [.data, .data, .data], laidTests := true, laidLooks := .later }
def WordSetsUptoCardSaid : Prop := Claim7.holds Tryd.pinned (.plain (OpenSpec.upto wordSetsSpec)) wordSetsUptoCard

/-- THE SECOND FORM's CARD OF 'separatumlaw01.WordTexts'. -/
def wordTextsUptoCard : Claim7 := { stood := { row := wordTextsUptoRow, standIns := [], harness := (true, "203e559b992980478519b74afd651c58ccbccd669bdee83c8ed2887839e8b40e"), looks := false }, kinds := [], alts := [], laidByText := true, laidKinds := [.data, .data, .data], laidTests := true, laidLooks := .later }
def WordTextsUptoCardSaid : Prop := Claim7.holds Tryd.pinned (.plain (OpenSpec.upto wordTextsSpec)) wordTextsUptoCard

/-- THE SECOND FORM's CARD OF 'separatumlaw01.WordTells'. -/
def wordTellsUptoCard : Claim7 := { stood := { row := wordTellsUptoRow, standIns := [], harness := (true, "203e559b992980478519b74afd651c58ccbccd669bdee83c8ed2887839e8b40e"), looks := false }, kinds := [], alts := [], laidByText := true, laidKinds := [.data, .data, .data], laidTests := true, laidLooks := .later }
def WordTellsUptoCardSaid : Prop := Claim7.holds Tryd.pinned (.plain (OpenSpec.upto wordTellsSpec)) wordTellsUptoCard
end Rows
end Go.Proofs.YtdodbbedlgglcaaDoor
