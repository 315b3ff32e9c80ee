/-
  DERIVED. GIVEN WITH THE SEED: THE CARDS: each row of YtadodmjdkphddaaDoorRows.lean that lists a variable, with what it lists TIED to the program's text (the seventh form; the later family's looks); each row that meets fmt, with fmt's text TOLD by the authors' own Lean function (tested against real Go, not proved from fmt's source: count such statements apart). THE CARD IS WHAT COUNTS. Prove the row's statement (the work); the ties are given (YtadodmjdkphddaaDoorTie.lean); close each card by the builder's one call (the guide's Derived/Test/ToyasCard.lean, 'card_holds'). Laid BY PROGRAM, IN A SANDBOX (cutbox-door.mjs). By AI agents, Wed Nov 11 2026. No macro, syntax, notation, axiom, sorry.
-/
import Derived.Test.YtadodmjdkphddaaDoorRows
import GoSem.ClaimSeven
namespace Go.Proofs.YtadodmjdkphddaaDoor
namespace Rows

/-- THE TIED CARD OF 'colanderlaw03.ParseWraps'. -/
def parseWrapsCard : Claim7 := { stood := { row := parseWrapsRow, standIns := [], harness := (true, "aa0ed56c3559362fe8994ee982c3505cd6e490b9947e437ca456bdc414569078"), looks := false }, kinds := [], alts := [], laidByText := true, laidKinds := [.data, .pinned], laidTests := true, laidLooks := .later }
def ParseWrapsCardSaid : Prop := Claim7.holds Tryd.pinned (.plain (OpenSpec.ofChange parseWrapsSpec)) parseWrapsCard

/-- THE TIED CARD OF 'colanderlaw03.ParseGroups'. -/
def parseGroupsCard : Claim7 := { stood := { row := parseGroupsRow, standIns := [], harness := (true, "aa0ed56c3559362fe8994ee982c3505cd6e490b9947e437ca456bdc414569078"), looks := false }, kinds := [], alts := [], laidByText := true, laidKinds := [.data, .pinned], laidTests := true, laidLooks := .later }
def ParseGroupsCardSaid : Prop := Claim7.holds Tryd.pinned (.plain (OpenSpec.ofChange parseGroupsSpec)) parseGroupsCard

/-- THE TIED CARD OF 'colanderlaw03.ParseRepeats'. -/
def parseRepeatsCard : Claim7 := { stood := { row := parseRepeatsRow, standIns := [], harness := (true, "aa0ed56c3559362fe8994ee982c3505cd6e490b9947e437ca456bdc414569078"), looks := false }, kinds := [], alts := [], laidByText := true, laidKinds := [.data, .pinned], laidTests := true, laidLooks := .later }
def ParseRepeatsCardSaid : Prop := Claim7.holds Tryd.pinned (.plain (OpenSpec.ofChange parseRepeatsSpec)) parseRepeatsCard

/-- THE TIED CARD OF 'colanderlaw03.ParseRows'. -/
def parseRowsCard : Claim7 := { stood := { row := parseRowsRow, standIns := [], harness := (true, "aa0ed56c3559362fe8994ee982c3505cd6e490b9947e437ca456bdc414569078"), looks := false }, kinds := [], alts := [], laidByText := true, laidKinds := [.data, .pinned], laidTests := true, laidLooks := .later }
def ParseRowsCardSaid : Prop := Claim7.holds Tryd.pinned (.plain (OpenSpec.ofChange parseRowsSpec)) parseRowsCard

/-- THE TIED CARD OF 'colanderlaw03.ParseUnits'. -/
def parseUnitsCard : Claim7 := { stood := { row := parseUnitsRow, standIns := [], harness := (true, "aa0ed56c3559362fe8994ee982c3505cd6e490b9947e437ca456bdc414569078"), looks := false }, kinds := [], alts := [], laidByText := true, laidKinds := [.data, .pinned], laidTests := true, laidLooks := .later }
def ParseUnitsCardSaid : Prop := Claim7.holds Tryd.pinned (.plain (OpenSpec.ofChange parseUnitsSpec)) parseUnitsCard

/-- THE TIED CARD OF 'colanderlaw03.ParseTwice'. -/
def parseTwiceCard : Claim7 := { stood := { row := parseTwiceRow, standIns := [], harness := (true, "aa0ed56c3559362fe8994ee982c3505cd6e490b9947e437ca456bdc414569078"), looks := false }, kinds := [], alts := [], laidByText := true, laidKinds := [.data, .pinned], laidTests := true, laidLooks := .later }
def ParseTwiceCardSaid : Prop := Claim7.holds Tryd.pinned (.plain (OpenSpec.ofChange parseTwiceSpec)) parseTwiceCard

/-- THE TIED CARD OF 'colanderlaw04.ShapeOrders'. -/
def shapeOrdersCard : Claim7 := { stood := { row := shapeOrdersRow, standIns := [], harness := (true, "aa0ed56c3559362fe8994ee982c3505cd6e490b9947e437ca456bdc414569078"), looks := false }, kinds := [], alts := [], laidByText := true, laidKinds := [.data, .pinned], laidTests := true, laidLooks := .later }
def ShapeOrdersCardSaid : Prop := Claim7.holds Tryd.pinned (.plain (OpenSpec.ofChange shapeOrdersSpec)) shapeOrdersCard

/-- THE TIED CARD OF 'colanderlaw04.ShapeRows'. -/
def shapeRowsCard : Claim7 := { stood := { row := shapeRowsRow, standIns := [], harness := (true, "aa0ed56c3559362fe8994ee982c3505cd6e490b9947e437ca456bdc414569078"), looks := false }, kinds := [], alts := [], laidByText := true, laidKinds := [.data, .pinned], laidTests := true, laidLooks := .later }
def ShapeRowsCardSaid : Prop := Claim7.holds Tryd.pinned (.plain (OpenSpec.ofChange shapeRowsSpec)) shapeRowsCard

/-- THE TIED CARD OF 'colanderlaw04.ShapeBehind'. -/
def shapeBehindCard : Claim7 := { stood := { row := shapeBehindRow, standIns := [], harness := (true, "aa0ed56c3559362fe8994ee982c3505cd6e490b9947e437ca456bdc414569078"), looks := false }, kinds := [], alts := [], laidByText := true, laidKinds := [.data, .pinned], laidTests := true, laidLooks := .later }
def ShapeBehindCardSaid : Prop := Claim7.holds Tryd.pinned (.plain (OpenSpec.ofChange shapeBehindSpec)) shapeBehindCard

/-- THE TIED CARD OF 'colanderlaw04.ShapeDeep'. -/
def shapeDeepCard : Claim7 := { stood := { row := shapeDeepRow, standIns := [], harness := (true, "aa0ed56c3559362fe8994ee982c3505cd6e490b9947e437ca456bdc414569078"), looks := false }, kinds := [], alts := [], laidByText := true, laidKinds := [.data, .pinned], laidTests := true, laidLooks := .later }
def ShapeDeepCardSaid : Prop := Claim7.holds Tryd.pinned (.plain (OpenSpec.ofChange shapeDeepSpec)) shapeDeepCard

/-- THE TIED CARD OF 'colanderlaw04.ShapeAlts'. -/
def shapeAltsCard : Claim7 := { stood := { row := shapeAltsRow, standIns := [], harness := (true, "aa0ed56c3559362fe8994ee982c3505cd6e490b9947e437ca456bdc414569078"), looks := false }, kinds := [], alts := [], laidByText := true, laidKinds := [.data, .pinned], laidTests := true, laidLooks := .later }
def ShapeAltsCardSaid : Prop := Claim7.holds Tryd.pinned (.plain (OpenSpec.ofChange shapeAltsSpec)) shapeAltsCard

/-- THE TIED CARD OF 'colanderlaw04.ShapeFree'. -/
def shapeFreeCard : Claim7 := { stood := { row := shapeFreeRow, standIns := [], harness := (true, "aa0ed56c3559362fe8994ee982c3505cd6e490b9947e437ca456bdc414569078"), looks := false }, kinds := [], alts := [], laidByText := true, laidKinds := [.data, .pinned], laidTests := true, laidLooks := .later }
def ShapeFreeCardSaid : Prop := Claim7.holds Tryd.pinned (.plain (OpenSpec.ofChange shapeFreeSpec)) shapeFreeCard

/-- THE SECOND FORM's CARD OF 'colanderlaw03.ParseWraps'. -/
def parseWrapsUptoCard : Claim7 := { stood := { row := parseWrapsUptoRow, standIns := [], harness := (true, "aa0ed56c3559362fe8994ee982c3505cd6e490b9947e437ca456bdc414569078"), looks := false }, kinds := [], alts := [], laidByText := true, laidKinds := [.data, .pinned], laidTests := true, laidLooks := .later }
def ParseWrapsUptoCardSaid : Prop := Claim7.holds Tryd.pinned (.plain (OpenSpec.upto parseWrapsSpec)) parseWrapsUptoCard

/-- THE SECOND FORM's CARD OF 'colanderlaw03.ParseGroups'. -/
def parseGroupsUptoCard : Claim7 := { stood := { row := parseGroupsUptoRow, standIns := [], harness := (true, "aa0ed56c3559362fe8994ee982c3505cd6e490b9947e437ca456bdc414569078"), looks := false }, kinds := [], alts := [], laidByText := true, laidKinds := [.data, .pinned], laidTests := true, laidLooks := .later }
def ParseGroupsUptoCardSaid : Prop := Claim7.holds Tryd.pinned (.plain (OpenSpec.upto parseGroupsSpec)) parseGroupsUptoCard

/-- THE SECOND FORM's CARD OF 'colanderlaw03.ParseRepeats'. -/
def parseRepeatsUptoCard : Claim7 := { stood := { row := parseRepeatsUptoRow, standIns := [], harness := (true, "aa0ed56c3559362fe8994ee982c3505cd6e490b9947e437ca456bdc414569078"), looks := false }, kinds := [], alts := [], laidByText := true, laidKinds := [.data, .pinned], laidTests := true, laidLooks := .later }
def ParseRepeatsUptoCardSaid : Prop := Claim7.holds Tryd.pinned (.plain (OpenSpec.upto parseRepeatsSpec)) parseRepeatsUptoCard

/-- THE SECOND FORM's CARD OF 'colanderlaw03.ParseRows'. -/
def parseRowsUptoCard : Claim7 := { stood := { row := parseRowsUptoRow, standIns := [], harness := (true, "aa0ed56c3559362fe8994ee982c3505cd6e490b9947e437ca456bdc414569078"), looks := false }, kinds := [], alts := [], laidByText := true, laidKinds := [.data, .pinned], laidTests := true, laidLooks := .later }
def ParseRowsUptoCardSaid : Prop := Claim7.holds Tryd.pinned (.plain (OpenSpec.upto parseRowsSpec)) parseRowsUptoCard

/-- THE SECOND FORM's CARD OF 'colanderlaw03.ParseUnits'. -/
def parseUnitsUptoCard : Claim7 := { stood := { row := parseUnitsUptoRow, standIns := [], harness := (true, "aa0ed56c3559362fe8994ee982c3505cd6e490b9947e437ca456bdc414569078"), looks := false }, kinds := [], alts := [], laidByText := true, laidKinds := [.data, .pinned], laidTests := true, laidLooks := .later }
def ParseUnitsUptoCardSaid : Prop := Claim7.holds Tryd.pinned (.plain (OpenSpec.upto parseUnitsSpec)) parseUnitsUptoCard

/-- THE SECOND FORM's CARD OF 'colanderlaw03.ParseTwice'. -/
def parseTwiceUptoCard : Claim7 := { stood := { row := parseTwiceUptoRow, standIns := [], harness := (true, "aa0ed56c3559362fe8994ee982c3505cd6e490b9947e437ca456bdc414569078"), looks := false }, kinds := [], alts := [], laidByText := true, laidKinds := [.data, .pinned], laidTests := true, laidLooks := .later }
def ParseTwiceUptoCardSaid : Prop := Claim7.holds Tryd.pinned (.plain (OpenSpec.upto parseTwiceSpec)) parseTwiceUptoCard

/-- THE SECOND FORM's CARD OF 'colanderlaw04.ShapeOrders'. -/
def shapeOrdersUptoCard : Claim7 := { stood := { row := shapeOrdersUptoRow, standIns := [], harness := (true, "aa0ed56c3559362fe8994ee982c3505cd6e490b9947e437ca456bdc414569078"), looks := false }, kinds := [], alts := [], laidByText := true, laidKinds := [.data, .pinned], laidTests := true, laidLooks := .later }
def ShapeOrdersUptoCardSaid : Prop := Claim7.holds Tryd.pinned (.plain (OpenSpec.upto shapeOrdersSpec)) shapeOrdersUptoCard

/-- THE SECOND FORM's CARD OF 'colanderlaw04.ShapeRows'. -/
def shapeRowsUptoCard : Claim7 := { stood := { row := shapeRowsUptoRow, standIns := [], harness := (true, "aa0ed56c3559362fe8994ee982c3505cd6e490b9947e437ca456bdc414569078"), looks := false }, kinds := [], alts := [], laidByText := true, laidKinds := [.data, .pinned], laidTests := true, laidLooks := .later }
def ShapeRowsUptoCardSaid : Prop := Claim7.holds Tryd.pinned (.plain (OpenSpec.upto shapeRowsSpec)) shapeRowsUptoCard

/-- THE SECOND FORM's CARD OF 'colanderlaw04.ShapeBehind'. -/
def shapeBehindUptoCard : Claim7 := { stood := { row := shapeBehindUptoRow, standIns := [], harness := (true, "aa0ed56c3559362fe8994ee982c3505cd6e490b9947e437ca456bdc414569078"), looks := false }, kinds := [], alts := [], laidByText := true, laidKinds := [.data, .pinned], laidTests := true, laidLooks := .later }
def ShapeBehindUptoCardSaid : Prop := Claim7.holds Tryd.pinned (.plain (OpenSpec.upto shapeBehindSpec)) shapeBehindUptoCard

/-- THE SECOND FORM's CARD OF 'colanderlaw04.ShapeDeep'. -/
def shapeDeepUptoCard : Claim7 := { stood := { row := shapeDeepUptoRow, standIns := [], harness := (true, "aa0ed56c3559362fe8994ee982c3505cd6e490b9947e437ca456bdc414569078"), looks := false }, kinds := [], alts := [], laidByText := true, laidKinds := [.data, .pinned], laidTests := true, laidLooks := .later }
def ShapeDeepUptoCardSaid : Prop := Claim7.holds Tryd.pinned (.plain (OpenSpec.upto shapeDeepSpec)) shapeDeepUptoCard

/-- THE SECOND FORM's CARD OF 'colanderlaw04.ShapeAlts'. -/
def shapeAltsUptoCard : Claim7 := { stood := { row := shapeAltsUptoRow, standIns := [], harness := (true, "aa0ed56c3559362fe8994ee982c3505cd6e490b9947e437ca456bdc414569078"), looks := false }, kinds := [], alts := [], laidByText := true, laidKinds := [.data, .pinned], laidTests := true, laidLooks := .later }
def ShapeAltsUptoCardSaid : Prop := Claim7.holds Tryd.pinned (.plain (OpenSpec.upto shapeAltsSpec)) shapeAltsUptoCard

/-- THE SECOND FORM's CARD OF 'colanderlaw04.ShapeFree'. -/
def shapeFreeUptoCard : Claim7 := { stood := { row := shapeFreeUptoRow, standIns := [], harness := (true, "aa0ed56c3559362fe8994ee982c3505cd6e490b9947e437ca456bdc414569078"), looks := false }, kinds := [], alts := [], laidByText := true, laidKinds := [.data, .pinned], laidTests := true, laidLooks := .later }
def ShapeFreeUptoCardSaid : Prop := Claim7.holds Tryd.pinned (.plain (OpenSpec.upto shapeFreeSpec)) shapeFreeUptoCard
end Rows
end Go.Proofs.YtadodmjdkphddaaDoor
