/-
  DERIVED. GIVEN WITH THE SEED: THE CARDS: each row of YtocikhhkicahoaaDoorRows.lean that lists a variable, with what it lists TIED to the program's text (the seventh form; the later family's looks); each row that meets fmt, with fmt's text TOLD by the authors' own Lean function (tested against real Go, not proved from fmt's source: count such statements apart). THE CARD IS WHAT COUNTS. Prove the row's statement (the work); the ties are given (YtocikhhkicahoaaDoorTie.lean); close each card by the builder's one call (the guide's Derived/Test/ToyasCard.lean, 'card_holds'). Laid BY PROGRAM, IN A SANDBOX (cutbox-door.mjs). By AI agents, Wed Nov 11 2026. No macro, syntax, notation, axiom, sorry.
-/
import Derived.Test.YtocikhhkicahoaaDoorRows
import GoSem.ClaimSeven
namespace Go.Proofs.YtocikhhkicahoaaDoor
namespace Rows

/-- THE TIED CARD OF 'colanderlaw05.ProgPlaces'. -/
def progPlacesCard : Claim7 := { stood := { row := progPlacesRow, standIns := [], harness := (true, "e07b5c6b66d562b60017c6efe40723018a2d94e29c465ada8e23d3efa3048f54"), looks := false }, kinds := [], alts := [], laidByText := true, laidKinds := [.data, .pinned], laidTests := true, laidLooks := .later }
def ProgPlacesCardSaid : Prop := Claim7.holds Tryd.pinned (.plain (OpenSpec.ofChange progPlacesSpec)) progPlacesCard

/-- THE TIED CARD OF 'colanderlaw05.ProgFolds'. -/
def progFoldsCard : Claim7 := { stood := { row := progFoldsRow, standIns := [], harness := (true, "e07b5c6b66d562b60017c6efe40723018a2d94e29c465ada8e23d3efa3048f54"), looks := false }, kinds := [], alts := [], laidByText := true, laidKinds := [.data, .pinned], laidTests := true, laidLooks := .later }
def ProgFoldsCardSaid : Prop := Claim7.holds Tryd.pinned (.plain (OpenSpec.ofChange progFoldsSpec)) progFoldsCard

/-- THE TIED CARD OF 'colanderlaw05.ProgOnes'. -/
def progOnesCard : Claim7 := { stood := { row := progOnesRow, standIns := [], harness := (true, "e07b5c6b66d562b60017c6efe40723018a2d94e29c465ada8e23d3efa3048f54"), looks := false }, kinds := [], alts := [], laidByText := true, laidKinds := [.data, .pinned], laidTests := true, laidLooks := .later }
def ProgOnesCardSaid : Prop := Claim7.holds Tryd.pinned (.plain (OpenSpec.ofChange progOnesSpec)) progOnesCard

/-- THE TIED CARD OF 'colanderlaw05.ProgRows'. -/
def progRowsCard : Claim7 := { stood := { row := progRowsRow, standIns := [], harness := (true, "e07b5c6b66d562b60017c6efe40723018a2d94e29c465ada8e23d3efa3048f54"), looks := false }, kinds := [], alts := [], laidByText := true, laidKinds := [.data, .pinned], laidTests := true, laidLooks := .later }
def ProgRowsCardSaid : Prop := Claim7.holds Tryd.pinned (.plain (OpenSpec.ofChange progRowsSpec)) progRowsCard

/-- THE TIED CARD OF 'colanderlaw05.ProgOwn'. -/
def progOwnCard : Claim7 := { stood := { row := progOwnRow, standIns := [], harness := (true, "e07b5c6b66d562b60017c6efe40723018a2d94e29c465ada8e23d3efa3048f54"), looks := false }, kinds := [], alts := [], laidByText := true, laidKinds := [.data, .pinned], laidTests := true, laidLooks := .later }
def ProgOwnCardSaid : Prop := Claim7.holds Tryd.pinned (.plain (OpenSpec.ofChange progOwnSpec)) progOwnCard

/-- THE SECOND FORM's CARD OF 'colanderlaw05.ProgPlaces'. -/
def progPlacesUptoCard : Claim7 := { stood := { row := progPlacesUptoRow, standIns := [], harness := (true, "e07b5c6b66d562b60017c6efe40723018a2d94e29c465ada8e23d3efa3048f54"), looks := false }, kinds := [], alts := [], laidByText := true, laidKinds := [.data, .pinned], laidTests := true, laidLooks := .later }
def ProgPlacesUptoCardSaid : Prop := Claim7.holds Tryd.pinned (.plain (OpenSpec.upto progPlacesSpec)) progPlacesUptoCard

/-- THE SECOND FORM's CARD OF 'colanderlaw05.ProgFolds'. -/
def progFoldsUptoCard : Claim7 := { stood := { row := progFoldsUptoRow, standIns := [], harness := (true, "e07b5c6b66d562b60017c6efe40723018a2d94e29c465ada8e23d3efa3048f54"), looks := false }, kinds := [], alts := [], laidByText := true, laidKinds := [.data, .pinned], laidTests := true, laidLooks := .later }
def ProgFoldsUptoCardSaid : Prop := Claim7.holds Tryd.pinned (.plain (OpenSpec.upto progFoldsSpec)) progFoldsUptoCard

/-- THE SECOND FORM's CARD OF 'colanderlaw05.ProgOnes'. -/
def progOnesUptoCard : Claim7 := { stood := { row := progOnesUptoRow, standIns := [], harness := (true, "e07b5c6b66d562b60017c6efe40723018a2d94e29c465ada8e23d3efa3048f54"), looks := false }, kinds := [], alts := [], laidByText := true, laidKinds := [.data, .pinned], laidTests := true, laidLooks := .later }
def ProgOnesUptoCardSaid : Prop := Claim7.holds Tryd.pinned (.plain (OpenSpec.upto progOnesSpec)) progOnesUptoCard

/-- THE SECOND FORM's CARD OF 'colanderlaw05.ProgRows'. -/
def progRowsUptoCard : Claim7 := { stood := { row := progRowsUptoRow, standIns := [], harness := (true, "e07b5c6b66d562b60017c6efe40723018a2d94e29c465ada8e23d3efa3048f54"), looks := false }, kinds := [], alts := [], laidByText := true, laidKinds := [.data, .pinned], laidTests := true, laidLooks := .later }
def ProgRowsUptoCardSaid : Prop := Claim7.holds Tryd.pinned (.plain (OpenSpec.upto progRowsSpec)) progRowsUptoCard

/-- THE SECOND FORM's CARD OF 'colanderlaw05.ProgOwn'. -/
def progOwnUptoCard : Claim7 := { stood := { row := progOwnUptoRow, standIns := [], harness := (true, "e07b5c6b66d562b60017c6efe40723018a2d94e29c465ada8e23d3efa3048f54"), looks := false }, kinds := [], alts := [], laidByText := true, laidKinds := [.data, .pinned], laidTests := true, laidLooks := .later }
def ProgOwnUptoCardSaid : Prop := Claim7.holds Tryd.pinned (.plain (OpenSpec.upto progOwnSpec)) progOwnUptoCard
end Rows
end Go.Proofs.YtocikhhkicahoaaDoor
