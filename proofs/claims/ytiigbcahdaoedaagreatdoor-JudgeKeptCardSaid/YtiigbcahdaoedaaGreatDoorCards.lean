/-
  DERIVED. GIVEN WITH THE SEED: THE CARDS: each row of YtiigbcahdaoedaaGreatDoorRows.lean that lists a variable, with what it lists TIED to the program's text (the seventh form; the later family's looks); each row that meets fmt, with fmt's text TOLD by the authors' own Lean function (tested against real Go, not proved from fmt's source: count such statements apart). THE CARD IS WHAT COUNTS. Prove the row's statement (the work); the ties are given (YtiigbcahdaoedaaGreatDoorTie.lean); close each card by the builder's one call (the guide's Derived/Test/ToyasCard.lean, 'card_holds'). Laid BY PROGRAM, IN A SANDBOX (cutbox-door.mjs). By AI agents, Wed Nov 11 2026. No macro, syntax, notation, axiom, sorry.
-/
import Derived.Test.YtiigbcahdaoedaaGreatDoorRows
import GoSem.ClaimSeven
namespace Go.Proofs.YtiigbcahdaoedaaGreatDoor
namespace Rows

/-- THE TIED CARD OF 'colanderlaw19.JudgeAgrees'. -/
def judgeAgreesCard : Claim7 := { stood := { row := judgeAgreesRow, standIns := [], harness := (true, "4487f4a49bb2595de23d329e9a8ac7d3f2dc5251f5bd4c6ad52e880d46566562"), looks := false }, kinds := [], alts := [], laidByText := true, laidKinds := [.data, .pinned], laidTests := true, laidLooks := .later }
def JudgeAgreesCardSaid : Prop := Claim7.holds Tryz.pinned (.plain (OpenSpec.ofChange judgeAgreesSpec)) judgeAgreesCard

/-- THE TIED CARD OF 'colanderlaw19.JudgeStable'. -/
def judgeStableCard : Claim7 := { stood := { row := judgeStableRow, standIns := [], harness := (true, "4487f4a49bb2595de23d329e9a8ac7d3f2dc5251f5bd4c6ad52e880d46566562"), looks := false }, kinds := [], alts := [], laidByText := true, laidKinds := [.data, .pinned], laidTests := true, laidLooks := .later }
def JudgeStableCardSaid : Prop := Claim7.holds Tryz.pinned (.plain (OpenSpec.ofChange judgeStableSpec)) judgeStableCard

/-- THE TIED CARD OF 'colanderlaw19.JudgeCommon'. -/
def judgeCommonCard : Claim7 := { stood := { row := judgeCommonRow, standIns := [], harness := (true, "4487f4a49bb2595de23d329e9a8ac7d3f2dc5251f5bd4c6ad52e880d46566562"), looks := false }, kinds := [], alts := [], laidByText := true, laidKinds := [.data, .pinned], laidTests := true, laidLooks := .later }
def JudgeCommonCardSaid : Prop := Claim7.holds Tryz.pinned (.plain (OpenSpec.ofChange judgeCommonSpec)) judgeCommonCard

/-- THE TIED CARD OF 'colanderlaw19.JudgeSets'. -/
def judgeSetsCard : Claim7 := { stood := { row := judgeSetsRow, standIns := [], harness := (true, "4487f4a49bb2595de23d329e9a8ac7d3f2dc5251f5bd4c6ad52e880d46566562"), looks := false }, kinds := [], alts := [], laidByText := true, laidKinds := [.data, .pinned], laidTests := true, laidLooks := .later }
def JudgeSetsCardSaid : Prop := Claim7.holds Tryz.pinned (.plain (OpenSpec.ofChange judgeSetsSpec)) judgeSetsCard

/-- THE TIED CARD OF 'colanderlaw19.JudgeSelf'. -/
def judgeSelfCard : Claim7 := { stood := { row := judgeSelfRow, standIns := [], harness := (true, "4487f4a49bb2595de23d329e9a8ac7d3f2dc5251f5bd4c6ad52e880d46566562"), looks := false }, kinds := [], alts := [], laidByText := true, laidKinds := [.data, .pinned], laidTests := true, laidLooks := .later }
def JudgeSelfCardSaid : Prop := Claim7.holds Tryz.pinned (.plain (OpenSpec.ofChange judgeSelfSpec)) judgeSelfCard

/-- THE TIED CARD OF 'colanderlaw19.JudgeChain'. -/
def judgeChainCard : Claim7 := { stood := { row := judgeChainRow, standIns := [], harness := (true, "4487f4a49bb2595de23d329e9a8ac7d3f2dc5251f5bd4c6ad52e880d46566562"), looks := false }, kinds := [], alts := [], laidByText := true, laidKinds := [.data, .pinned], laidTests := true, laidLooks := .later }
def JudgeChainCardSaid : Prop := Claim7.holds Tryz.pinned (.plain (OpenSpec.ofChange judgeChainSpec)) judgeChainCard

/-- THE TIED CARD OF 'colanderlaw19.JudgeKept'. -/
def judgeKeptCard : Claim7 := { stood := { row := judgeKeptRow, standIns := [], harness := (true, "4487f4a49bb2595de23d329e9a8ac7d3f2dc5251f5bd4c6ad52e880d46566562"), looks := false }, kinds := [], alts := [], laidByText := true, laidKinds := [.data, .pinned], laidTests := true, laidLooks := .later }
def JudgeKeptCardSaid : Prop := Claim7.holds Tryz.pinned (.plain (OpenSpec.ofChange judgeKeptSpec)) judgeKeptCard

/-- THE SECOND FORM's CARD OF 'colanderlaw19.JudgeAgrees'. -/
def judgeAgreesUptoCard : Claim7 := { stood := { row := judgeAgreesUptoRow, standIns := [], harness := (true, "4487f4a49bb2595de23d329e9a8ac7d3f2dc5251f5bd4c6ad52e880d46566562"), looks := false }, kinds := [], alts := [], laidByText := true, laidKinds := [.data, .pinned], laidTests := true, laidLooks := .later }
def JudgeAgreesUptoCardSaid : Prop := Claim7.holds Tryz.pinned (.plain (OpenSpec.upto judgeAgreesSpec)) judgeAgreesUptoCard

/-- THE SECOND FORM's CARD OF 'colanderlaw19.JudgeStable'. -/
def judgeStableUptoCard : Claim7 := { stood := { row := judgeStableUptoRow, standIns := [], harness := (true, "4487f4a49bb2595de23d329e9a8ac7d3f2dc5251f5bd4c6ad52e880d46566562"), looks := false }, kinds := [], alts := [], laidByText := true, laidKinds := [.data, .pinned], laidTests := true, laidLooks := .later }
def JudgeStableUptoCardSaid : Prop := Claim7.holds Tryz.pinned (.plain (OpenSpec.upto judgeStableSpec)) judgeStableUptoCard

/-- THE SECOND FORM's CARD OF 'colanderlaw19.JudgeCommon'. -/
def judgeCommonUptoCard : Claim7 := { stood := { row := judgeCommonUptoRow, standIns := [], harness := (true, "4487f4a49bb2595de23d329e9a8ac7d3f2dc5251f5bd4c6ad52e880d46566562"), looks := false }, kinds := [], alts := [], laidByText := true, laidKinds := [.data, .pinned], laidTests := true, laidLooks := .later }
def JudgeCommonUptoCardSaid : Prop := Claim7.holds Tryz.pinned (.plain (OpenSpec.upto judgeCommonSpec)) judgeCommonUptoCard

/-- THE SECOND FORM's CARD OF 'colanderlaw19.JudgeSets'. -/
def judgeSetsUptoCard : Claim7 := { stood := { row := judgeSetsUptoRow, standIns := [], harness := (true, "4487f4a49bb2595de23d329e9a8ac7d3f2dc5251f5bd4c6ad52e880d46566562"), looks := false }, kinds := [], alts := [], laidByText := true, laidKinds := [.data, .pinned], laidTests := true, laidLooks := .later }
def JudgeSetsUptoCardSaid : Prop := Claim7.holds Tryz.pinned (.plain (OpenSpec.upto judgeSetsSpec)) judgeSetsUptoCard

/-- THE SECOND FORM's CARD OF 'colanderlaw19.JudgeSelf'. -/
def judgeSelfUptoCard : Claim7 := { stood := { row := judgeSelfUptoRow, standIns := [], harness := (true, "4487f4a49bb2595de23d329e9a8ac7d3f2dc5251f5bd4c6ad52e880d46566562"), looks := false }, kinds := [], alts := [], laidByText := true, laidKinds := [.data, .pinned], laidTests := true, laidLooks := .later }
def JudgeSelfUptoCardSaid : Prop := Claim7.holds Tryz.pinned (.plain (OpenSpec.upto judgeSelfSpec)) judgeSelfUptoCard

/-- THE SECOND FORM's CARD OF 'colanderlaw19.JudgeChain'. -/
def judgeChainUptoCard : Claim7 := { stood := { row := judgeChainUptoRow, standIns := [], harness := (true, "4487f4a49bb2595de23d329e9a8ac7d3f2dc5251f5bd4c6ad52e880d46566562"), looks := false }, kinds := [], alts := [], laidByText := true, laidKinds := [.data, .pinned], laidTests := true, laidLooks := .later }
def JudgeChainUptoCardSaid : Prop := Claim7.holds Tryz.pinned (.plain (OpenSpec.upto judgeChainSpec)) judgeChainUptoCard

/-- THE SECOND FORM's CARD OF 'colanderlaw19.JudgeKept'. -/
def judgeKeptUptoCard : Claim7 := { stood := { row := judgeKeptUptoRow, standIns := [], harness := (true, "4487f4a49bb2595de23d329e9a8ac7d3f2dc5251f5bd4c6ad52e880d46566562"), looks := false }, kinds := [], alts := [], laidByText := true, laidKinds := [.data, .pinned], laidTests := true, laidLooks := .later }
def JudgeKeptUptoCardSaid : Prop := Claim7.holds Tryz.pinned (.plain (OpenSpec.upto judgeKeptSpec)) judgeKeptUptoCard
end Rows
end Go.Proofs.YtiigbcahdaoedaaGreatDoor
