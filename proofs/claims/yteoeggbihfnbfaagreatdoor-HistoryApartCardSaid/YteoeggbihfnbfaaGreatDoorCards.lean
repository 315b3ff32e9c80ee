/-
  DERIVED. GIVEN WITH THE SEED: THE CARDS: each row of YteoeggbihfnbfaaGreatDoorRows.lean that lists a variable, with what it lists TIED to the program's text (the seventh form; the later family's looks); each row that meets fmt, with fmt's text TOLD by the authors' own Lean function (tested against real Go, not proved from fmt's source: count such statements apart). THE CARD IS WHAT COUNTS. Prove the row's statement (the work); the ties are given (YteoeggbihfnbfaaGreatDoorTie.lean); close each card by the builder's one call (the guide's Derived/Test/ToyasCard.lean, 'card_holds'). Laid BY PROGRAM, IN A SANDBOX (cutbox-door.mjs). By AI agents, Wed Nov 11 2026. No macro, syntax, notation, axiom, sorry.
-/
import Derived.Test.YteoeggbihfnbfaaGreatDoorRows
import GoSem.ClaimSeven
namespace Go.Proofs.YteoeggbihfnbfaaGreatDoor
namespace Rows

/-- THE TIED CARD OF 'colanderlaw08.VerdictRules'. -/
def verdictRulesCard : Claim7 := { stood := { row := verdictRulesRow, standIns := [], harness := (true, "cb08e3e60930965065f09f9783a784d0f3e78900a927b5cdd827454dbc2fb059"), looks := false }, kinds := [], alts := [], laidByText := true, laidKinds := [.data, .pinned], laidTests := true, laidLooks := .later }
def VerdictRulesCardSaid : Prop := Claim7.holds Tryz.pinned (.plain (OpenSpec.ofChange verdictRulesSpec)) verdictRulesCard

/-- THE TIED CARD OF 'colanderlaw08.VerdictFirst'. -/
def verdictFirstCard : Claim7 := { stood := { row := verdictFirstRow, standIns := [], harness := (true, "cb08e3e60930965065f09f9783a784d0f3e78900a927b5cdd827454dbc2fb059"), looks := false }, kinds := [], alts := [], laidByText := true, laidKinds := [.data, .pinned], laidTests := true, laidLooks := .later }
def VerdictFirstCardSaid : Prop := Claim7.holds Tryz.pinned (.plain (OpenSpec.ofChange verdictFirstSpec)) verdictFirstCard

/-- THE TIED CARD OF 'colanderlaw08.VerdictChanges'. -/
def verdictChangesCard : Claim7 := { stood := { row := verdictChangesRow, standIns := [], harness := (true, "cb08e3e60930965065f09f9783a784d0f3e78900a927b5cdd827454dbc2fb059"), looks := false }, kinds := [], alts := [], laidByText := true, laidKinds := [.data, .pinned], laidTests := true, laidLooks := .later }
def VerdictChangesCardSaid : Prop := Claim7.holds Tryz.pinned (.plain (OpenSpec.ofChange verdictChangesSpec)) verdictChangesCard

/-- THE TIED CARD OF 'colanderlaw08.VerdictKeeps'. -/
def verdictKeepsCard : Claim7 := { stood := { row := verdictKeepsRow, standIns := [], harness := (true, "cb08e3e60930965065f09f9783a784d0f3e78900a927b5cdd827454dbc2fb059"), looks := false }, kinds := [], alts := [], laidByText := true, laidKinds := [.data, .pinned], laidTests := true, laidLooks := .later }
def VerdictKeepsCardSaid : Prop := Claim7.holds Tryz.pinned (.plain (OpenSpec.ofChange verdictKeepsSpec)) verdictKeepsCard

/-- THE TIED CARD OF 'colanderlaw08.VerdictPuts'. -/
def verdictPutsCard : Claim7 := { stood := { row := verdictPutsRow, standIns := [], harness := (true, "cb08e3e60930965065f09f9783a784d0f3e78900a927b5cdd827454dbc2fb059"), looks := false }, kinds := [], alts := [], laidByText := true, laidKinds := [.data, .pinned], laidTests := true, laidLooks := .later }
def VerdictPutsCardSaid : Prop := Claim7.holds Tryz.pinned (.plain (OpenSpec.ofChange verdictPutsSpec)) verdictPutsCard

/-- THE TIED CARD OF 'colanderlaw14.HistoryApart'. -/
def historyApartCard : Claim7 := { stood := { row := historyApartRow, standIns := [], harness := (true, "cb08e3e60930965065f09f9783a784d0f3e78900a927b5cdd827454dbc2fb059"), looks := false }, kinds := [], alts := [], laidByText := true, laidKinds := [.data, .pinned], laidTests := true, laidLooks := .later }
def HistoryApartCardSaid : Prop := Claim7.holds Tryz.pinned (.plain (OpenSpec.ofChange historyApartSpec)) historyApartCard

/-- THE TIED CARD OF 'colanderlaw14.HistoryGrows'. -/
def historyGrowsCard : Claim7 := { stood := { row := historyGrowsRow, standIns := [], harness := (true, "cb08e3e60930965065f09f9783a784d0f3e78900a927b5cdd827454dbc2fb059"), looks := false }, kinds := [], alts := [], laidByText := true, laidKinds := [.data, .pinned], laidTests := true, laidLooks := .later }
def HistoryGrowsCardSaid : Prop := Claim7.holds Tryz.pinned (.plain (OpenSpec.ofChange historyGrowsSpec)) historyGrowsCard

/-- THE TIED CARD OF 'colanderlaw14.HistoryTwice'. -/
def historyTwiceCard : Claim7 := { stood := { row := historyTwiceRow, standIns := [], harness := (true, "cb08e3e60930965065f09f9783a784d0f3e78900a927b5cdd827454dbc2fb059"), looks := false }, kinds := [], alts := [], laidByText := true, laidKinds := [.data, .pinned], laidTests := true, laidLooks := .later }
def HistoryTwiceCardSaid : Prop := Claim7.holds Tryz.pinned (.plain (OpenSpec.ofChange historyTwiceSpec)) historyTwiceCard

/-- THE TIED CARD OF 'colanderlaw14.HistoryOwn'. -/
def historyOwnCard : Claim7 := { stood := { row := historyOwnRow, standIns := [], harness := (true, "cb08e3e60930965065f09f9783a784d0f3e78900a927b5cdd827454dbc2fb059"), looks := false }, kinds := [], alts := [], laidByText := true, laidKinds := [.data, .pinned], laidTests := true, laidLooks := .later }
def HistoryOwnCardSaid : Prop := Claim7.holds Tryz.pinned (.plain (OpenSpec.ofChange historyOwnSpec)) historyOwnCard

/-- THE TIED CARD OF 'colanderlaw14.HistoryBegins'. -/
def historyBeginsCard : Claim7 := { stood := { row := historyBeginsRow, standIns := [], harness := (true, "cb08e3e60930965065f09f9783a784d0f3e78900a927b5cdd827454dbc2fb059"), looks := false }, kinds := [], alts := [], laidByText := true, laidKinds := [.data, .pinned], laidTests := true, laidLooks := .later }
def HistoryBeginsCardSaid : Prop := Claim7.holds Tryz.pinned (.plain (OpenSpec.ofChange historyBeginsSpec)) historyBeginsCard

/-- THE TIED CARD OF 'colanderlaw14.HistoryRuns'. -/
def historyRunsCard : Claim7 := { stood := { row := historyRunsRow, standIns := [], harness := (true, "cb08e3e60930965065f09f9783a784d0f3e78900a927b5cdd827454dbc2fb059"), looks := false }, kinds := [], alts := [], laidByText := true, laidKinds := [.data, .pinned], laidTests := true, laidLooks := .later }
def HistoryRunsCardSaid : Prop := Claim7.holds Tryz.pinned (.plain (OpenSpec.ofChange historyRunsSpec)) historyRunsCard

/-- THE SECOND FORM's CARD OF 'colanderlaw08.VerdictRules'. -/
def verdictRulesUptoCard : Claim7 := { stood := { row := verdictRulesUptoRow, standIns := [], harness := (true, "cb08e3e60930965065f09f9783a784d0f3e78900a927b5cdd827454dbc2fb059"), looks := false }, kinds := [], alts := [], laidByText := true, laidKinds := [.data, .pinned], laidTests := true, laidLooks := .later }
def VerdictRulesUptoCardSaid : Prop := Claim7.holds Tryz.pinned (.plain (OpenSpec.upto verdictRulesSpec)) verdictRulesUptoCard

/-- THE SECOND FORM's CARD OF 'colanderlaw08.VerdictFirst'. -/
def verdictFirstUptoCard : Claim7 := { stood := { row := verdictFirstUptoRow, standIns := [], harness := (true, "cb08e3e60930965065f09f9783a784d0f3e78900a927b5cdd827454dbc2fb059"), looks := false }, kinds := [], alts := [], laidByText := true, laidKinds := [.data, .pinned], laidTests := true, laidLooks := .later }
def VerdictFirstUptoCardSaid : Prop := Claim7.holds Tryz.pinned (.plain (OpenSpec.upto verdictFirstSpec)) verdictFirstUptoCard

/-- THE SECOND FORM's CARD OF 'colanderlaw08.VerdictChanges'. -/
def verdictChangesUptoCard : Claim7 := { stood := { row := verdictChangesUptoRow, standIns := [], harness := (true, "cb08e3e60930965065f09f9783a784d0f3e78900a927b5cdd827454dbc2fb059"), looks := false }, kinds := [], alts := [], laidByText := true, laidKinds := [.data, .pinned], laidTests := true, laidLooks := .later }
def VerdictChangesUptoCardSaid : Prop := Claim7.holds Tryz.pinned (.plain (OpenSpec.upto verdictChangesSpec)) verdictChangesUptoCard

/-- THE SECOND FORM's CARD OF 'colanderlaw08.VerdictKeeps'. -/
def verdictKeepsUptoCard : Claim7 := { stood := { row := verdictKeepsUptoRow, standIns := [], harness := (true, "cb08e3e60930965065f09f9783a784d0f3e78900a927b5cdd827454dbc2fb059"), looks := false }, kinds := [], alts := [], laidByText := true, laidKinds := [.data, .pinned], laidTests := true, laidLooks := .later }
def VerdictKeepsUptoCardSaid : Prop := Claim7.holds Tryz.pinned (.plain (OpenSpec.upto verdictKeepsSpec)) verdictKeepsUptoCard

/-- THE SECOND FORM's CARD OF 'colanderlaw08.VerdictPuts'. -/
def verdictPutsUptoCard : Claim7 := { stood := { row := verdictPutsUptoRow, standIns := [], harness := (true, "cb08e3e60930965065f09f9783a784d0f3e78900a927b5cdd827454dbc2fb059"), looks := false }, kinds := [], alts := [], laidByText := true, laidKinds := [.data, .pinned], laidTests := true, laidLooks := .later }
def VerdictPutsUptoCardSaid : Prop := Claim7.holds Tryz.pinned (.plain (OpenSpec.upto verdictPutsSpec)) verdictPutsUptoCard

/-- THE SECOND FORM's CARD OF 'colanderlaw14.HistoryApart'. -/
def historyApartUptoCard : Claim7 := { stood := { row := historyApartUptoRow, standIns := [], harness := (true, "cb08e3e60930965065f09f9783a784d0f3e78900a927b5cdd827454dbc2fb059"), looks := false }, kinds := [], alts := [], laidByText := true, laidKinds := [.data, .pinned], laidTests := true, laidLooks := .later }
def HistoryApartUptoCardSaid : Prop := Claim7.holds Tryz.pinned (.plain (OpenSpec.upto historyApartSpec)) historyApartUptoCard

/-- THE SECOND FORM's CARD OF 'colanderlaw14.HistoryGrows'. -/
def historyGrowsUptoCard : Claim7 := { stood := { row := historyGrowsUptoRow, standIns := [], harness := (true, "cb08e3e60930965065f09f9783a784d0f3e78900a927b5cdd827454dbc2fb059"), looks := false }, kinds := [], alts := [], laidByText := true, laidKinds := [.data, .pinned], laidTests := true, laidLooks := .later }
def HistoryGrowsUptoCardSaid : Prop := Claim7.holds Tryz.pinned (.plain (OpenSpec.upto historyGrowsSpec)) historyGrowsUptoCard

/-- THE SECOND FORM's CARD OF 'colanderlaw14.HistoryTwice'. -/
def historyTwiceUptoCard : Claim7 := { stood := { row := historyTwiceUptoRow, standIns := [], harness := (true, "cb08e3e60930965065f09f9783a784d0f3e78900a927b5cdd827454dbc2fb059"), looks := false }, kinds := [], alts := [], laidByText := true, laidKinds := [.data, .pinned], laidTests := true, laidLooks := .later }
def HistoryTwiceUptoCardSaid : Prop := Claim7.holds Tryz.pinned (.plain (OpenSpec.upto historyTwiceSpec)) historyTwiceUptoCard

/-- THE SECOND FORM's CARD OF 'colanderlaw14.HistoryOwn'. -/
def historyOwnUptoCard : Claim7 := { stood := { row := historyOwnUptoRow, standIns := [], harness := (true, "cb08e3e60930965065f09f9783a784d0f3e78900a927b5cdd827454dbc2fb059"), looks := false }, kinds := [], alts := [], laidByText := true, laidKinds := [.data, .pinned], laidTests := true, laidLooks := .later }
def HistoryOwnUptoCardSaid : Prop := Claim7.holds Tryz.pinned (.plain (OpenSpec.upto historyOwnSpec)) historyOwnUptoCard

/-- THE SECOND FORM's CARD OF 'colanderlaw14.HistoryBegins'. -/
def historyBeginsUptoCard : Claim7 := { stood := { row := historyBeginsUptoRow, standIns := [], harness := (true, "cb08e3e60930965065f09f9783a784d0f3e78900a927b5cdd827454dbc2fb059"), looks := false }, kinds := [], alts := [], laidByText := true, laidKinds := [.data, .pinned], laidTests := true, laidLooks := .later }
def HistoryBeginsUptoCardSaid : Prop := Claim7.holds Tryz.pinned (.plain (OpenSpec.upto historyBeginsSpec)) historyBeginsUptoCard

/-- THE SECOND FORM's CARD OF 'colanderlaw14.HistoryRuns'. -/
def historyRunsUptoCard : Claim7 := { stood := { row := historyRunsUptoRow, standIns := [], harness := (true, "cb08e3e60930965065f09f9783a784d0f3e78900a927b5cdd827454dbc2fb059"), looks := false }, kinds := [], alts := [], laidByText := true, laidKinds := [.data, .pinned], laidTests := true, laidLooks := .later }
def HistoryRunsUptoCardSaid : Prop := Claim7.holds Tryz.pinned (.plain (OpenSpec.upto historyRunsSpec)) historyRunsUptoCard
end Rows
end Go.Proofs.YteoeggbihfnbfaaGreatDoor
