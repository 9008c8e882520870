/-
  DERIVED. GIVEN WITH THE SEED: THE CARDS: each row of YtnepdjgbfhakmaaDoorRows.lean that lists a variable, with what it lists TIED to the program's text (the seventh form; the later family's looks); each row that meets fmt, with fmt's text TOLD by the authors' own Lean function (tested against real Go, not proved from fmt's source: count such statements apart). THE CARD IS WHAT COUNTS. Prove the row's statement (the work); the ties are given (YtnepdjgbfhakmaaDoorTie.lean); close each card by the builder's one call (the guide's Derived/Test/ToyasCard.lean, 'card_holds'). Laid BY PROGRAM, IN A SANDBOX (cutbox-door.mjs). By AI agents, Wed Nov 11 2026. No macro, syntax, notation, axiom, sorry.
-/
import Derived.Test.YtnepdjgbfhakmaaDoorRows
import GoSem.ClaimSeven
namespace Go.Proofs.YtnepdjgbfhakmaaDoor
namespace Rows

/-- THE TIED CARD OF 'shucklaw1.TextDecodes'. -/
def textDecodesCard : Claim7 := { stood := { row := textDecodesRow, standIns := [], harness := (true, "19e285c451f42da9f002c06b9b4d2bbf8eee271d8418369a13fb87a97667d19d"), looks := false }, kinds := [], alts := [], laidByText := true, laidKinds := [.data, .data, .data], laidTests := true, laidLooks := .later }
def TextDecodesCardSaid : Prop := Claim7.holds Tryd.pinned (.plain (OpenSpec.ofChange textDecodesSpec)) textDecodesCard

/-- THE TIED CARD OF 'shucklaw1.TextRunes'. -/
def textRunesCard : Claim7 := { stood := { row := textRunesRow, standIns := [], harness := (true, "19e285c451f42da9f002c06b9b4d2bbf8eee271d8418369a13fb87a97667d19d"), looks := false }, kinds := [], alts := [], laidByText := true, laidKinds := [.data, .data, .data], laidTests := true, laidLooks := .later }
def TextRunesCardSaid : Prop := Claim7.holds Tryd.pinned (.plain (OpenSpec.ofChange textRunesSpec)) textRunesCard

/-- THE TIED CARD OF 'shucklaw1.TextGo'. -/
def textGoCard : Claim7 := { stood := { row := textGoRow, standIns := [], harness := (true, "19e285c451f42da9f002c06b9b4d2bbf8eee271d8418369a13fb87a97667d19d"), looks := false }, kinds := [], alts := [], laidByText := true, laidKinds := [.data, .data, .data], laidTests := true, laidLooks := .later }
def TextGoCardSaid : Prop := Claim7.holds Tryd.pinned (.plain (OpenSpec.ofChange textGoSpec)) textGoCard

/-- THE TIED CARD OF 'shucklaw1.TextPlaces'. -/
def textPlacesCard : Claim7 := { stood := { row := textPlacesRow, standIns := [], harness := (true, "19e285c451f42da9f002c06b9b4d2bbf8eee271d8418369a13fb87a97667d19d"), looks := false }, kinds := [], alts := [], laidByText := true, laidKinds := [.data, .data, .data], laidTests := true, laidLooks := .later }
def TextPlacesCardSaid : Prop := Claim7.holds Tryd.pinned (.plain (OpenSpec.ofChange textPlacesSpec)) textPlacesCard

/-- THE TIED CARD OF 'shucklaw1.TextQuotes'. -/
def textQuotesCard : Claim7 := { stood := { row := textQuotesRow, standIns := [], harness := (true, "19e285c451f42da9f002c06b9b4d2bbf8eee271d8418369a13fb87a97667d19d"), looks := false }, kinds := [], alts := [], laidByText := true, laidKinds := [.data, .data, .data], laidTests := true, laidLooks := .later }
def TextQuotesCardSaid : Prop := Claim7.holds Tryd.pinned (.plain (OpenSpec.ofChange textQuotesSpec)) textQuotesCard

/-- THE TIED CARD OF 'shucklaw1.TextPieces'. -/
def textPiecesCard : Claim7 := { stood := { row := textPiecesRow, standIns := [], harness := (true, "19e285c451f42da9f002c06b9b4d2bbf8eee271d8418369a13fb87a97667d19d"), looks := false }, kinds := [], alts := [], laidByText := true, laidKinds := [.data, .data, .data], laidTests := true, laidLooks := .later }
def TextPiecesCardSaid : Prop := Claim7.holds Tryd.pinned (.plain (OpenSpec.ofChange textPiecesSpec)) textPiecesCard

/-- THE TIED CARD OF 'shucklaw1.TextLines'. -/
def textLinesCard : Claim7 := { stood := { row := textLinesRow, standIns := [], harness := (true, "19e285c451f42da9f002c06b9b4d2bbf8eee271d8418369a13fb87a97667d19d"), looks := false }, kinds := [], alts := [], laidByText := true, laidKinds := [.data, .data, .data], laidTests := true, laidLooks := .later }
def TextLinesCardSaid : Prop := Claim7.holds Tryd.pinned (.plain (OpenSpec.ofChange textLinesSpec)) textLinesCard

/-- THE TIED CARD OF 'shucklaw3.TreeMakes'. -/
def treeMakesCard : Claim7 := { stood := { row := treeMakesRow, standIns := [], harness := (true, "19e285c451f42da9f002c06b9b4d2bbf8eee271d8418369a13fb87a97667d19d"), looks := false }, kinds := [], alts := [], laidByText := true, laidKinds := [.data, .pinned], laidTests := true, laidLooks := .later }
def TreeMakesCardSaid : Prop := Claim7.holds Tryd.pinned (.plain (OpenSpec.ofChange treeMakesSpec)) treeMakesCard

/-- THE TIED CARD OF 'shucklaw3.TreeRoots'. -/
def treeRootsCard : Claim7 := { stood := { row := treeRootsRow, standIns := [], harness := (true, "19e285c451f42da9f002c06b9b4d2bbf8eee271d8418369a13fb87a97667d19d"), looks := false }, kinds := [], alts := [], laidByText := true, laidKinds := [.data, .pinned], laidTests := true, laidLooks := .later }
def TreeRootsCardSaid : Prop := Claim7.holds Tryd.pinned (.plain (OpenSpec.ofChange treeRootsSpec)) treeRootsCard

/-- THE TIED CARD OF 'shucklaw3.TreeDeeper'. -/
def treeDeeperCard : Claim7 := { stood := { row := treeDeeperRow, standIns := [], harness := (true, "19e285c451f42da9f002c06b9b4d2bbf8eee271d8418369a13fb87a97667d19d"), looks := false }, kinds := [], alts := [], laidByText := true, laidKinds := [.data, .pinned], laidTests := true, laidLooks := .later }
def TreeDeeperCardSaid : Prop := Claim7.holds Tryd.pinned (.plain (OpenSpec.ofChange treeDeeperSpec)) treeDeeperCard

/-- THE TIED CARD OF 'shucklaw3.TreeSames'. -/
def treeSamesCard : Claim7 := { stood := { row := treeSamesRow, standIns := [], harness := (true, "19e285c451f42da9f002c06b9b4d2bbf8eee271d8418369a13fb87a97667d19d"), looks := false }, kinds := [], alts := [], laidByText := true, laidKinds := [.data, .pinned], laidTests := true, laidLooks := .later }
def TreeSamesCardSaid : Prop := Claim7.holds Tryd.pinned (.plain (OpenSpec.ofChange treeSamesSpec)) treeSamesCard

/-- THE TIED CARD OF 'shucklaw3.TreeRounds'. -/
def treeRoundsCard : Claim7 := { stood := { row := treeRoundsRow, standIns := [], harness := (true, "19e285c451f42da9f002c06b9b4d2bbf8eee271d8418369a13fb87a97667d19d"), looks := false }, kinds := [], alts := [], laidByText := true, laidKinds := [.data, .pinned], laidTests := true, laidLooks := .later }
def TreeRoundsCardSaid : Prop := Claim7.holds Tryd.pinned (.plain (OpenSpec.ofChange treeRoundsSpec)) treeRoundsCard

/-- THE TIED CARD OF 'shucklaw19.ReportOutputs'. -/
def reportOutputsCard : Claim7 := { stood := { row := reportOutputsRow, standIns := [], harness := (true, "19e285c451f42da9f002c06b9b4d2bbf8eee271d8418369a13fb87a97667d19d"), looks := false }, kinds := [], alts := [], laidByText := true, laidKinds := [.data, .data, .data], laidTests := true, laidLooks := .later }
def ReportOutputsCardSaid : Prop := Claim7.holds Tryd.pinned (.plain (OpenSpec.ofChange reportOutputsSpec)) reportOutputsCard

/-- THE TIED CARD OF 'shucklaw19.ReportMarks'. -/
def reportMarksCard : Claim7 := { stood := { row := reportMarksRow, standIns := [], harness := (true, "19e285c451f42da9f002c06b9b4d2bbf8eee271d8418369a13fb87a97667d19d"), looks := false }, kinds := [], alts := [], laidByText := true, laidKinds := [.data, .data, .data], laidTests := true, laidLooks := .later }
def ReportMarksCardSaid : Prop := Claim7.holds Tryd.pinned (.plain (OpenSpec.ofChange reportMarksSpec)) reportMarksCard

/-- THE TIED CARD OF 'shucklaw5.CoreTwice'. -/
def coreTwiceCard : Claim7 := { stood := { row := coreTwiceRow, standIns := [], harness := (true, "19e285c451f42da9f002c06b9b4d2bbf8eee271d8418369a13fb87a97667d19d"), looks := false }, kinds := [], alts := [], laidByText := true, laidKinds := [.data, .pinned], laidTests := true, laidLooks := .later }
def CoreTwiceCardSaid : Prop := Claim7.holds Tryd.pinned (.plain (OpenSpec.ofChange coreTwiceSpec)) coreTwiceCard

/-- THE TIED CARD OF 'shucklaw19.ReportOutcomes'. -/
def reportOutcomesCard : Claim7 := { stood := { row := reportOutcomesRow, standIns := [], harness := (true, "19e285c451f42da9f002c06b9b4d2bbf8eee271d8418369a13fb87a97667d19d"), looks := false }, kinds := [], alts := [], laidByText := true, laidKinds := [.data, .data, .data], laidTests := true, laidLooks := .later }
def ReportOutcomesCardSaid : Prop := Claim7.holds Tryd.pinned (.plain (OpenSpec.ofChange reportOutcomesSpec)) reportOutcomesCard

/-- THE SECOND FORM's CARD OF 'shucklaw1.TextDecodes'. -/
def textDecodesUptoCard : Claim7 := { stood := { row := textDecodesUptoRow, standIns := [], harness := (true, "19e285c451f42da9f002c06b9b4d2bbf8eee271d8418369a13fb87a97667d19d"), looks := false }, kinds := [], alts := [], laidByText := true, laidKinds := [.data, .data, .data], laidTests := true, laidLooks := .later }
def TextDecodesUptoCardSaid : Prop := Claim7.holds Tryd.pinned (.plain (OpenSpec.upto textDecodesSpec)) textDecodesUptoCard

/-- THE SECOND FORM's CARD OF 'shucklaw1.TextRunes'. -/
def textRunesUptoCard : Claim7 := { stood := { row := textRunesUptoRow, standIns := [], harness := (true, "19e285c451f42da9f002c06b9b4d2bbf8eee271d8418369a13fb87a97667d19d"), looks := false }, kinds := [], alts := [], laidByText := true, laidKinds := [.data, .data, .data], laidTests := true, laidLooks := .later }
def TextRunesUptoCardSaid : Prop := Claim7.holds Tryd.pinned (.plain (OpenSpec.upto textRunesSpec)) textRunesUptoCard

/-- THE SECOND FORM's CARD OF 'shucklaw1.TextGo'. -/
def textGoUptoCard : Claim7 := { stood := { row := textGoUptoRow, standIns := [], harness := (true, "19e285c451f42da9f002c06b9b4d2bbf8eee271d8418369a13fb87a97667d19d"), looks := false }, kinds := [], alts := [], laidByText := true, laidKinds := [.data, .data, .data], laidTests := true, laidLooks := .later }
def TextGoUptoCardSaid : Prop := Claim7.holds Tryd.pinned (.plain (OpenSpec.upto textGoSpec)) textGoUptoCard

/-- THE SECOND FORM's CARD OF 'shucklaw1.TextPlaces'. -/
def textPlacesUptoCard : Claim7 := { stood := { row := textPlacesUptoRow, standIns := [], harness := (true, "19e285c451f42da9f002c06b9b4d2bbf8eee271d8418369a13fb87a97667d19d"), looks := false }, kinds := [], alts := [], laidByText := true, laidKinds := [.data, .data, .data], laidTests := true, laidLooks := .later }
def TextPlacesUptoCardSaid : Prop := Claim7.holds Tryd.pinned (.plain (OpenSpec.upto textPlacesSpec)) textPlacesUptoCard

/-- THE SECOND FORM's CARD OF 'shucklaw1.TextQuotes'. -/
def textQuotesUptoCard : Claim7 := { stood := { row := textQuotesUptoRow, standIns := [], harness := (true, "19e285c451f42da9f002c06b9b4d2bbf8eee271d8418369a13fb87a97667d19d"), looks := false }, kinds := [], alts := [], laidByText := true, laidKinds := [.data, .data, .data], laidTests := true, laidLooks := .later }
def TextQuotesUptoCardSaid : Prop := Claim7.holds Tryd.pinned (.plain (OpenSpec.upto textQuotesSpec)) textQuotesUptoCard

/-- THE SECOND FORM's CARD OF 'shucklaw1.TextPieces'. -/
def textPiecesUptoCard : Claim7 := { stood := { row := textPiecesUptoRow, standIns := [], harness := (true, "19e285c451f42da9f002c06b9b4d2bbf8eee271d8418369a13fb87a97667d19d"), looks := false }, kinds := [], alts := [], laidByText := true, laidKinds := [.data, .data, .data], laidTests := true, laidLooks := .later }
def TextPiecesUptoCardSaid : Prop := Claim7.holds Tryd.pinned (.plain (OpenSpec.upto textPiecesSpec)) textPiecesUptoCard

/-- THE SECOND FORM's CARD OF 'shucklaw1.TextLines'. -/
def textLinesUptoCard : Claim7 := { stood := { row := textLinesUptoRow, standIns := [], harness := (true, "19e285c451f42da9f002c06b9b4d2bbf8eee271d8418369a13fb87a97667d19d"), looks := false }, kinds := [], alts := [], laidByText := true, laidKinds := [.data, .data, .data], laidTests := true, laidLooks := .later }
def TextLinesUptoCardSaid : Prop := Claim7.holds Tryd.pinned (.plain (OpenSpec.upto textLinesSpec)) textLinesUptoCard

/-- THE SECOND FORM's CARD OF 'shucklaw3.TreeMakes'. -/
def treeMakesUptoCard : Claim7 := { stood := { row := treeMakesUptoRow, standIns := [], harness := (true, "19e285c451f42da9f002c06b9b4d2bbf8eee271d8418369a13fb87a97667d19d"), looks := false }, kinds := [], alts := [], laidByText := true, laidKinds := [.data, .pinned], laidTests := true, laidLooks := .later }
def TreeMakesUptoCardSaid : Prop := Claim7.holds Tryd.pinned (.plain (OpenSpec.upto treeMakesSpec)) treeMakesUptoCard

/-- THE SECOND FORM's CARD OF 'shucklaw3.TreeRoots'. -/
def treeRootsUptoCard : Claim7 := { stood := { row := treeRootsUptoRow, standIns := [], harness := (true, "19e285c451f42da9f002c06b9b4d2bbf8eee271d8418369a13fb87a97667d19d"), looks := false }, kinds := [], alts := [], laidByText := true, laidKinds := [.data, .pinned], laidTests := true, laidLooks := .later }
def TreeRootsUptoCardSaid : Prop := Claim7.holds Tryd.pinned (.plain (OpenSpec.upto treeRootsSpec)) treeRootsUptoCard

/-- THE SECOND FORM's CARD OF 'shucklaw3.TreeDeeper'. -/
def treeDeeperUptoCard : Claim7 := { stood := { row := treeDeeperUptoRow, standIns := [], harness := (true, "19e285c451f42da9f002c06b9b4d2bbf8eee271d8418369a13fb87a97667d19d"), looks := false }, kinds := [], alts := [], laidByText := true, laidKinds := [.data, .pinned], laidTests := true, laidLooks := .later }
def TreeDeeperUptoCardSaid : Prop := Claim7.holds Tryd.pinned (.plain (OpenSpec.upto treeDeeperSpec)) treeDeeperUptoCard

/-- THE SECOND FORM's CARD OF 'shucklaw3.TreeSames'. -/
def treeSamesUptoCard : Claim7 := { stood := { row := treeSamesUptoRow, standIns := [], harness := (true, "19e285c451f42da9f002c06b9b4d2bbf8eee271d8418369a13fb87a97667d19d"), looks := false }, kinds := [], alts := [], laidByText := true, laidKinds := [.data, .pinned], laidTests := true, laidLooks := .later }
def TreeSamesUptoCardSaid : Prop := Claim7.holds Tryd.pinned (.plain (OpenSpec.upto treeSamesSpec)) treeSamesUptoCard

/-- THE SECOND FORM's CARD OF 'shucklaw3.TreeRounds'. -/
def treeRoundsUptoCard : Claim7 := { stood := { row := treeRoundsUptoRow, standIns := [], harness := (true, "19e285c451f42da9f002c06b9b4d2bbf8eee271d8418369a13fb87a97667d19d"), looks := false }, kinds := [], alts := [], laidByText := true, laidKinds := [.data, .pinned], laidTests := true, laidLooks := .later }
def TreeRoundsUptoCardSaid : Prop := Claim7.holds Tryd.pinned (.plain (OpenSpec.upto treeRoundsSpec)) treeRoundsUptoCard

/-- THE SECOND FORM's CARD OF 'shucklaw19.ReportOutputs'. -/
def reportOutputsUptoCard : Claim7 := { stood := { row := reportOutputsUptoRow, standIns := [], harness := (true, "19e285c451f42da9f002c06b9b4d2bbf8eee271d8418369a13fb87a97667d19d"), looks := false }, kinds := [], alts := [], laidByText := true, laidKinds := [.data, .data, .data], laidTests := true, laidLooks := .later }
def ReportOutputsUptoCardSaid : Prop := Claim7.holds Tryd.pinned (.plain (OpenSpec.upto reportOutputsSpec)) reportOutputsUptoCard

/-- THE SECOND FORM's CARD OF 'shucklaw19.ReportMarks'. -/
def reportMarksUptoCard : Claim7 := { stood := { row := reportMarksUptoRow, standIns := [], harness := (true, "19e285c451f42da9f002c06b9b4d2bbf8eee271d8418369a13fb87a97667d19d"), looks := false }, kinds := [], alts := [], laidByText := true, laidKinds := [.data, .data, .data], laidTests := true, laidLooks := .later }
def ReportMarksUptoCardSaid : Prop := Claim7.holds Tryd.pinned (.plain (OpenSpec.upto reportMarksSpec)) reportMarksUptoCard

/-- THE SECOND FORM's CARD OF 'shucklaw5.CoreTwice'. -/
def coreTwiceUptoCard : Claim7 := { stood := { row := coreTwiceUptoRow, standIns := [], harness := (true, "19e285c451f42da9f002c06b9b4d2bbf8eee271d8418369a13fb87a97667d19d"), looks := false }, kinds := [], alts := [], laidByText := true, laidKinds := [.data, .pinned], laidTests := true, laidLooks := .later }
def CoreTwiceUptoCardSaid : Prop := Claim7.holds Tryd.pinned (.plain (OpenSpec.upto coreTwiceSpec)) coreTwiceUptoCard

/-- THE SECOND FORM's CARD OF 'shucklaw19.ReportOutcomes'. -/
def reportOutcomesUptoCard : Claim7 := { stood := { row := reportOutcomesUptoRow, standIns := [], harness := (true, "19e285c451f42da9f002c06b9b4d2bbf8eee271d8418369a13fb87a97667d19d"), looks := false }, kinds := [], alts := [], laidByText := true, laidKinds := [.data, .data, .data], laidTests := true, laidLooks := .later }
def ReportOutcomesUptoCardSaid : Prop := Claim7.holds Tryd.pinned (.plain (OpenSpec.upto reportOutcomesSpec)) reportOutcomesUptoCard
end Rows
end Go.Proofs.YtnepdjgbfhakmaaDoor
