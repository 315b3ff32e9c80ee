/-
  DERIVED. GIVEN WITH THE SEED: THE CARDS: each row of YtbecmoihajlobaaDoorRows.lean that lists a variable, with what it lists TIED to the program's text (the seventh form; the later family's looks); each row that meets fmt, with fmt's text TOLD by the authors' own Lean function (tested against real Go, not proved from fmt's source: count such statements apart). THE CARD IS WHAT COUNTS. Prove the row's statement (the work); the ties are given (YtbecmoihajlobaaDoorTie.lean); close each card by the builder's one call (the guide's Derived/Test/ToyasCard.lean, 'card_holds'). Laid BY PROGRAM, IN A SANDBOX (cutbox-door.mjs). By AI agents, Wed Nov 11 2026. No macro, syntax, notation, axiom, sorry.
-/
import Derived.Test.YtbecmoihajlobaaDoorRows
import GoSem.ClaimSeven
namespace Go.Proofs.YtbecmoihajlobaaDoor
namespace Rows

/-- THE TIED CARD OF 'colanderlaw01.UnitSplits'. -/
def unitSplitsCard : Claim7 := { stood := { row := unitSplitsRow, standIns := [], harness := (true, "698f9da24a2c5719589c279ef98a7fa37e84e3ac160b472f304a53b7a6216aa7"), looks := false }, kinds := [], alts := [], laidByText := true, laidKinds := [.data, .pinned], laidTests := true, laidLooks := .later }
def UnitSplitsCardSaid : Prop := Claim7.holds Tryd.pinned (.plain (OpenSpec.ofChange unitSplitsSpec)) unitSplitsCard

/-- THE TIED CARD OF 'colanderlaw01.UnitParts'. -/
def unitPartsCard : Claim7 := { stood := { row := unitPartsRow, standIns := [], harness := (true, "698f9da24a2c5719589c279ef98a7fa37e84e3ac160b472f304a53b7a6216aa7"), looks := false }, kinds := [], alts := [], laidByText := true, laidKinds := [.data, .pinned], laidTests := true, laidLooks := .later }
def UnitPartsCardSaid : Prop := Claim7.holds Tryd.pinned (.plain (OpenSpec.ofChange unitPartsSpec)) unitPartsCard

/-- THE TIED CARD OF 'colanderlaw01.UnitTurned'. -/
def unitTurnedCard : Claim7 := { stood := { row := unitTurnedRow, standIns := [], harness := (true, "698f9da24a2c5719589c279ef98a7fa37e84e3ac160b472f304a53b7a6216aa7"), looks := false }, kinds := [], alts := [], laidByText := true, laidKinds := [.data, .pinned], laidTests := true, laidLooks := .later }
def UnitTurnedCardSaid : Prop := Claim7.holds Tryd.pinned (.plain (OpenSpec.ofChange unitTurnedSpec)) unitTurnedCard

/-- THE TIED CARD OF 'colanderlaw01.UnitCounts'. -/
def unitCountsCard : Claim7 := { stood := { row := unitCountsRow, standIns := [], harness := (true, "698f9da24a2c5719589c279ef98a7fa37e84e3ac160b472f304a53b7a6216aa7"), looks := false }, kinds := [], alts := [], laidByText := true, laidKinds := [.data, .pinned], laidTests := true, laidLooks := .later }
def UnitCountsCardSaid : Prop := Claim7.holds Tryd.pinned (.plain (OpenSpec.ofChange unitCountsSpec)) unitCountsCard

/-- THE TIED CARD OF 'colanderlaw01.UnitBack'. -/
def unitBackCard : Claim7 := { stood := { row := unitBackRow, standIns := [], harness := (true, "698f9da24a2c5719589c279ef98a7fa37e84e3ac160b472f304a53b7a6216aa7"), looks := false }, kinds := [], alts := [], laidByText := true, laidKinds := [.data, .pinned], laidTests := true, laidLooks := .later }
def UnitBackCardSaid : Prop := Claim7.holds Tryd.pinned (.plain (OpenSpec.ofChange unitBackSpec)) unitBackCard

/-- THE TIED CARD OF 'colanderlaw01.UnitJoins'. -/
def unitJoinsCard : Claim7 := { stood := { row := unitJoinsRow, standIns := [], harness := (true, "698f9da24a2c5719589c279ef98a7fa37e84e3ac160b472f304a53b7a6216aa7"), looks := false }, kinds := [], alts := [], laidByText := true, laidKinds := [.data, .pinned], laidTests := true, laidLooks := .later }
def UnitJoinsCardSaid : Prop := Claim7.holds Tryd.pinned (.plain (OpenSpec.ofChange unitJoinsSpec)) unitJoinsCard

/-- THE SECOND FORM's CARD OF 'colanderlaw01.UnitSplits'. -/
def unitSplitsUptoCard : Claim7 := { stood := { row := unitSplitsUptoRow, standIns := [], harness := (true, "698f9da24a2c5719589c279ef98a7fa37e84e3ac160b472f304a53b7a6216aa7"), looks := false }, kinds := [], alts := [], laidByText := true, laidKinds := [.data, .pinned], laidTests := true, laidLooks := .later }
def UnitSplitsUptoCardSaid : Prop := Claim7.holds Tryd.pinned (.plain (OpenSpec.upto unitSplitsSpec)) unitSplitsUptoCard

/-- THE SECOND FORM's CARD OF 'colanderlaw01.UnitParts'. -/
def unitPartsUptoCard : Claim7 := { stood := { row := unitPartsUptoRow, standIns := [], harness := (true, "698f9da24a2c5719589c279ef98a7fa37e84e3ac160b472f304a53b7a6216aa7"), looks := false }, kinds := [], alts := [], laidByText := true, laidKinds := [.data, .pinned], laidTests := true, laidLooks := .later }
def UnitPartsUptoCardSaid : Prop := Claim7.holds Tryd.pinned (.plain (OpenSpec.upto unitPartsSpec)) unitPartsUptoCard

/-- THE SECOND FORM's CARD OF 'colanderlaw01.UnitTurned'. -/
def unitTurnedUptoCard : Claim7 := { stood := { row := unitTurnedUptoRow, standIns := [], harness := (true, "698f9da24a2c5719589c279ef98a7fa37e84e3ac160b472f304a53b7a6216aa7"), looks := false }, kinds := [], alts := [], laidByText := true, laidKinds := [.data, .pinned], laidTests := true, laidLooks := .later }
def UnitTurnedUptoCardSaid : Prop := Claim7.holds Tryd.pinned (.plain (OpenSpec.upto unitTurnedSpec)) unitTurnedUptoCard

/-- THE SECOND FORM's CARD OF 'colanderlaw01.UnitCounts'. -/
def unitCountsUptoCard : Claim7 := { stood := { row := unitCountsUptoRow, standIns := [], harness := (true, "698f9da24a2c5719589c279ef98a7fa37e84e3ac160b472f304a53b7a6216aa7"), looks := false }, kinds := [], alts := [], laidByText := true, laidKinds := [.data, .pinned], laidTests := true, laidLooks := .later }
def UnitCountsUptoCardSaid : Prop := Claim7.holds Tryd.pinned (.plain (OpenSpec.upto unitCountsSpec)) unitCountsUptoCard

/-- THE SECOND FORM's CARD OF 'colanderlaw01.UnitBack'. -/
def unitBackUptoCard : Claim7 := { stood := { row := unitBackUptoRow, standIns := [], harness := (true, "698f9da24a2c5719589c279ef98a7fa37e84e3ac160b472f304a53b7a6216aa7"), looks := false }, kinds := [], alts := [], laidByText := true, laidKinds := [.data, .pinned], laidTests := true, laidLooks := .later }
def UnitBackUptoCardSaid : Prop := Claim7.holds Tryd.pinned (.plain (OpenSpec.upto unitBackSpec)) unitBackUptoCard

/-- THE SECOND FORM's CARD OF 'colanderlaw01.UnitJoins'. -/
def unitJoinsUptoCard : Claim7 := { stood := { row := unitJoinsUptoRow, standIns := [], harness := (true, "698f9da24a2c5719589c279ef98a7fa37e84e3ac160b472f304a53b7a6216aa7"), looks := false }, kinds := [], alts := [], laidByText := true, laidKinds := [.data, .pinned], laidTests := true, laidLooks := .later }
def UnitJoinsUptoCardSaid : Prop := Claim7.holds Tryd.pinned (.plain (OpenSpec.upto unitJoinsSpec)) unitJoinsUptoCard
end Rows
end Go.Proofs.YtbecmoihajlobaaDoor
