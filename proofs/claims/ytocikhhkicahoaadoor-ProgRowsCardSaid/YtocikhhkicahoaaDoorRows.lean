/-
  NARROWER THAN 'FOR EVERY INPUT', by the rows' own cells (each row's printed sentence says how): ProgPlaces: laid · ProgFolds: laid · ProgOnes: laid · ProgRows: laid · ProgOwn: laid.
  DERIVED. THE GIVEN ROWS OF THIS SEAT. 5 by the template 'for every input the law returns true; each argument reads behind the call as it read before'; 0 by the template 'total and deterministic' (their statements: YtocikhhkicahoaaDoorTotals.lean).
  GIVEN WITH THE SEED: the statements are not yours to turn. If you find one false, say at which input.
  Laid BY PROGRAM, IN A SANDBOX (cutbox-rows.mjs): the forced cells as the released guide's own fill.sh prints them over the translation df6d456e088cfc91… (all of the seat's roots in one cut). By AI agents, Wed Nov 11 2026. No macro, syntax, notation, axiom, sorry.
-/
import Derived.Test.YtocikhhkicahoaaDoorChecked
import GoSem.PinnedTables
import GoSem.Claim
import GoSem.ClaimJoined
import GoSem.ClaimMapViews
import Derived.JoinedTies
import Derived.KernelRfl
namespace Go.Proofs.YtocikhhkicahoaaDoor
/- THE CELL 'sum', in the pinned program and in every row, IS THE sha256 OF THE DUMP (.gsa) THAT YtocikhhkicahoaaDoorProg.lean LOADS. Nothing in Lean hashes anything: it is a label: what it is worth is what the hold of that sum in a sandbox is worth. -/
noncomputable def Tryd.pinned : Pinned := { name := "ytocikhhkicahoaadoor", sum := "df6d456e088cfc91a1500a6764e1f7286230ef565956b9c1394960ce0e05a0dc", checked := Tryd.checked }
namespace Rows
def none {H : Type} : Left H := { results := [], args := [] }

/- WHAT THE LISTED PACKAGE-LEVEL VARIABLES READ AS WHEN THE CALL BEGINS. Each datum BY PROGRAM (the guide's laid-datum.mjs) off the statement by which the dump's own 'gosem.cut.vars' lays the variable. In a bare row this is a premise. The card (YtocikhhkicahoaaDoorCards.lean) ties it to the program's text. -/
def laid_unicode_utf8_acceptRanges {H : Type} : DataW H := .agg [.agg [.lit (.int .u8 128), .lit (.int .u8 191)], .agg [.lit (.int .u8 160), .lit (.int .u8 191)], .agg [.lit (.int .u8 128), .lit (.int .u8 159)], .agg [.lit (.int .u8 144), .lit (.int .u8 191)], .agg [.lit (.int .u8 128), .lit (.int .u8 143)], .agg [.lit (.int .u8 0), .lit (.int .u8 0)], .agg [.lit (.int .u8 0), .lit (.int .u8 0)], .agg [.lit (.int .u8 0), .lit (.int .u8 0)], .agg [.lit (.int .u8 0), .lit (.int .u8 0)], .agg [.lit (.int .u8 0), .lit (.int .u8 0)], .agg [.lit (.int .u8 0), .lit (.int .u8 0)], .agg [.lit (.int .u8 0), .lit (.int .u8 0)], .agg [.lit (.int .u8 0), .lit (.int .u8 0)], .agg [.lit (.int .u8 0), .lit (.int .u8 0)], .agg [.lit (.int .u8 0), .lit (.int .u8 0)], .agg [.lit (.int .u8 0), .lit (.int .u8 0)]]
/-- One of Go's own tables, pinned by name: the form's constant. -/
def laid_unicode_utf8_first : DataW Unit := Go.Pinned.utf8First

/-- 'colanderlaw05.ProgPlaces': WHATEVER THE INPUT: true; the input reads as it did. -/
def progPlacesSpec : ChangeSpec := { name := "progPlaces", fn := fun _ => fun
  | [d] => { results := [.lit (.bool true)], args := [d] }
  | _ => none }
def progPlacesRow : OpenClaim := { program := "ytocikhhkicahoaadoor", sum := "df6d456e088cfc91a1500a6764e1f7286230ef565956b9c1394960ce0e05a0dc", func := "colander/colanderlaw05.ProgPlaces", spec := "progPlaces", unfollowed := true, recurses := true, named := ["unicode/utf8.first", "unicode/utf8.acceptRanges"], apart := false, laid := [("unicode/utf8.acceptRanges", laid_unicode_utf8_acceptRanges), ("unicode/utf8.first", laid_unicode_utf8_first)] }
def ProgPlacesSaid : Prop := progPlacesRow.holds Tryd.pinned (OpenSpec.ofChange progPlacesSpec)

/-- ITS FALSE NEIGHBOUR: 'it returns false'. Refute it at one input. -/
def progPlacesWrong : ChangeSpec := { name := "progPlaces", fn := fun _ => fun
  | [d] => { results := [.lit (.bool false)], args := [d] }
  | _ => none }
def ProgPlacesWrongFalsely : Prop := progPlacesRow.holds Tryd.pinned (OpenSpec.ofChange progPlacesWrong)

/-- 'colanderlaw05.ProgFolds': WHATEVER THE INPUT: true; the input reads as it did. -/
def progFoldsSpec : ChangeSpec := { name := "progFolds", fn := fun _ => fun
  | [d] => { results := [.lit (.bool true)], args := [d] }
  | _ => none }
def progFoldsRow : OpenClaim := { program := "ytocikhhkicahoaadoor", sum := "df6d456e088cfc91a1500a6764e1f7286230ef565956b9c1394960ce0e05a0dc", func := "colander/colanderlaw05.ProgFolds", spec := "progFolds", unfollowed := true, recurses := true, named := ["unicode/utf8.first", "unicode/utf8.acceptRanges"], apart := false, laid := [("unicode/utf8.acceptRanges", laid_unicode_utf8_acceptRanges), ("unicode/utf8.first", laid_unicode_utf8_first)] }
def ProgFoldsSaid : Prop := progFoldsRow.holds Tryd.pinned (OpenSpec.ofChange progFoldsSpec)

/-- ITS FALSE NEIGHBOUR: 'it returns false'. Refute it at one input. -/
def progFoldsWrong : ChangeSpec := { name := "progFolds", fn := fun _ => fun
  | [d] => { results := [.lit (.bool false)], args := [d] }
  | _ => none }
def ProgFoldsWrongFalsely : Prop := progFoldsRow.holds Tryd.pinned (OpenSpec.ofChange progFoldsWrong)

/-- 'colanderlaw05.ProgOnes': WHATEVER THE INPUT: true; the input reads as it did. -/
def progOnesSpec : ChangeSpec := { name := "progOnes", fn := fun _ => fun
  | [d] => { results := [.lit (.bool true)], args := [d] }
  | _ => none }
def progOnesRow : OpenClaim := { program := "ytocikhhkicahoaadoor", sum := "df6d456e088cfc91a1500a6764e1f7286230ef565956b9c1394960ce0e05a0dc", func := "colander/colanderlaw05.ProgOnes", spec := "progOnes", unfollowed := true, recurses := true, named := ["unicode/utf8.first", "unicode/utf8.acceptRanges"], apart := false, laid := [("unicode/utf8.acceptRanges", laid_unicode_utf8_acceptRanges), ("unicode/utf8.first", laid_unicode_utf8_first)] }
def ProgOnesSaid : Prop := progOnesRow.holds Tryd.pinned (OpenSpec.ofChange progOnesSpec)

/-- ITS FALSE NEIGHBOUR: 'it returns false'. Refute it at one input. -/
def progOnesWrong : ChangeSpec := { name := "progOnes", fn := fun _ => fun
  | [d] => { results := [.lit (.bool false)], args := [d] }
  | _ => none }
def ProgOnesWrongFalsely : Prop := progOnesRow.holds Tryd.pinned (OpenSpec.ofChange progOnesWrong)

/-- 'colanderlaw05.ProgRows': WHATEVER THE INPUT: true; the input reads as it did. -/
def progRowsSpec : ChangeSpec := { name := "progRows", fn := fun _ => fun
  | [d1, d2] => { results := [.lit (.bool true)], args := [d1, d2] }
  | _ => none }
def progRowsRow : OpenClaim := { program := "ytocikhhkicahoaadoor", sum := "df6d456e088cfc91a1500a6764e1f7286230ef565956b9c1394960ce0e05a0dc", func := "colander/colanderlaw05.ProgRows", spec := "progRows", unfollowed := true, recurses := true, named := ["unicode/utf8.first", "unicode/utf8.acceptRanges"], apart := false, laid := [("unicode/utf8.acceptRanges", laid_unicode_utf8_acceptRanges), ("unicode/utf8.first", laid_unicode_utf8_first)] }
def ProgRowsSaid : Prop := progRowsRow.holds Tryd.pinned (OpenSpec.ofChange progRowsSpec)

/-- ITS FALSE NEIGHBOUR: 'it returns false'. Refute it at one input. -/
def progRowsWrong : ChangeSpec := { name := "progRows", fn := fun _ => fun
  | [d1, d2] => { results := [.lit (.bool false)], args := [d1, d2] }
  | _ => none }
def ProgRowsWrongFalsely : Prop := progRowsRow.holds Tryd.pinned (OpenSpec.ofChange progRowsWrong)

/-- 'colanderlaw05.ProgOwn': WHATEVER THE INPUT: true; the input reads as it did. -/
def progOwnSpec : ChangeSpec := { name := "progOwn", fn := fun _ => fun
  | [d] => { results := [.lit (.bool true)], args := [d] }
  | _ => none }
def progOwnRow : OpenClaim := { program := "ytocikhhkicahoaadoor", sum := "df6d456e088cfc91a1500a6764e1f7286230ef565956b9c1394960ce0e05a0dc", func := "colander/colanderlaw05.ProgOwn", spec := "progOwn", unfollowed := true, recurses := true, named := ["unicode/utf8.first", "unicode/utf8.acceptRanges"], apart := false, laid := [("unicode/utf8.acceptRanges", laid_unicode_utf8_acceptRanges), ("unicode/utf8.first", laid_unicode_utf8_first)] }
def ProgOwnSaid : Prop := progOwnRow.holds Tryd.pinned (OpenSpec.ofChange progOwnSpec)

/-- ITS FALSE NEIGHBOUR: 'it returns false'. Refute it at one input. -/
def progOwnWrong : ChangeSpec := { name := "progOwn", fn := fun _ => fun
  | [d] => { results := [.lit (.bool false)], args := [d] }
  | _ => none }
def ProgOwnWrongFalsely : Prop := progOwnRow.holds Tryd.pinned (OpenSpec.ofChange progOwnWrong)

/- THE SECOND FORM. 'bulk': how many values and letters a reading holds, each counted each time it is reached (what is shared counts as often as it is met; a slice's spare places count too). A statement '..UptoSaid' is the law's where the arguments, and the package variables that the reading takes, are together of bulk at most 1048576: NARROWER than '..Said'. Prove '..Said' where nothing that the law and all that it calls make is longer than what came in: it says more and counts as full. Else prove '..UptoSaid'. A law counts once. -/
mutual
def uptoBulk {H : Type} : DataW H → Nat
  | .lit (.string bytes) => bytes.length + 1
  | .lit _ => 1
  | .nil => 1
  | .ptr d => uptoBulk d + 1
  | .slice elems spare => uptoBulkAll elems + uptoBulkAll spare + 1
  | .agg parts => uptoBulkAll parts + 1
  | .iface _ d => uptoBulk d + 1
  | .map entries => uptoBulkEntries entries + 1
  | .held _ => 1
def uptoBulkAll {H : Type} : List (DataW H) → Nat
  | [] => 0
  | d :: r => uptoBulk d + uptoBulkAll r
def uptoBulkEntries {H : Type} : List (Lit × DataW H) → Nat
  | [] => 0
  | x :: r => uptoBulkEntry x + uptoBulkEntries r
def uptoBulkEntry {H : Type} : Lit × DataW H → Nat
  | (.string bytes, d) => bytes.length + uptoBulk d + 1
  | (_, d) => uptoBulk d + 1
 end
def uptoSmall : (H : Type) → List (DataW H) → Bool := fun _ ds => decide (uptoBulkAll ds ≤ 1048576)
def OpenSpec.upto (s : _root_.Go.ChangeSpec) : _root_.Go.OpenSpec := { _root_.Go.OpenSpec.ofChange s with cond := some uptoSmall }

/-- 'colanderlaw05.ProgPlaces', WHERE WHAT IT READS IS OF BULK AT MOST 1048576: true; the input reads as it did. -/
def progPlacesUptoRow : OpenClaim := { program := "ytocikhhkicahoaadoor", sum := "df6d456e088cfc91a1500a6764e1f7286230ef565956b9c1394960ce0e05a0dc", func := "colander/colanderlaw05.ProgPlaces", spec := "progPlaces", unfollowed := true, recurses := true, named := ["unicode/utf8.first", "unicode/utf8.acceptRanges"], apart := false, laid := [("unicode/utf8.acceptRanges", laid_unicode_utf8_acceptRanges), ("unicode/utf8.first", laid_unicode_utf8_first)], narrowed := true }
def ProgPlacesUptoSaid : Prop := progPlacesUptoRow.holds Tryd.pinned (OpenSpec.upto progPlacesSpec)

/-- 'colanderlaw05.ProgFolds', WHERE WHAT IT READS IS OF BULK AT MOST 1048576: true; the input reads as it did. -/
def progFoldsUptoRow : OpenClaim := { program := "ytocikhhkicahoaadoor", sum := "df6d456e088cfc91a1500a6764e1f7286230ef565956b9c1394960ce0e05a0dc", func := "colander/colanderlaw05.ProgFolds", spec := "progFolds", unfollowed := true, recurses := true, named := ["unicode/utf8.first", "unicode/utf8.acceptRanges"], apart := false, laid := [("unicode/utf8.acceptRanges", laid_unicode_utf8_acceptRanges), ("unicode/utf8.first", laid_unicode_utf8_first)], narrowed := true }
def ProgFoldsUptoSaid : Prop := progFoldsUptoRow.holds Tryd.pinned (OpenSpec.upto progFoldsSpec)

/-- 'colanderlaw05.ProgOnes', WHERE WHAT IT READS IS OF BULK AT MOST 1048576: true; the input reads as it did. -/
def progOnesUptoRow : OpenClaim := { program := "ytocikhhkicahoaadoor", sum := "df6d456e088cfc91a1500a6764e1f7286230ef565956b9c1394960ce0e05a0dc", func := "colander/colanderlaw05.ProgOnes", spec := "progOnes", unfollowed := true, recurses := true, named := ["unicode/utf8.first", "unicode/utf8.acceptRanges"], apart := false, laid := [("unicode/utf8.acceptRanges", laid_unicode_utf8_acceptRanges), ("unicode/utf8.first", laid_unicode_utf8_first)], narrowed := true }
def ProgOnesUptoSaid : Prop := progOnesUptoRow.holds Tryd.pinned (OpenSpec.upto progOnesSpec)

/-- 'colanderlaw05.ProgRows', WHERE WHAT IT READS IS OF BULK AT MOST 1048576: true; the input reads as it did. -/
def progRowsUptoRow : OpenClaim := { program := "ytocikhhkicahoaadoor", sum := "df6d456e088cfc91a1500a6764e1f7286230ef565956b9c1394960ce0e05a0dc", func := "colander/colanderlaw05.ProgRows", spec := "progRows", unfollowed := true, recurses := true, named := ["unicode/utf8.first", "unicode/utf8.acceptRanges"], apart := false, laid := [("unicode/utf8.acceptRanges", laid_unicode_utf8_acceptRanges), ("unicode/utf8.first", laid_unicode_utf8_first)], narrowed := true }
def ProgRowsUptoSaid : Prop := progRowsUptoRow.holds Tryd.pinned (OpenSpec.upto progRowsSpec)

/-- 'colanderlaw05.ProgOwn', WHERE WHAT IT READS IS OF BULK AT MOST 1048576: true; the input reads as it did. -/
def progOwnUptoRow : OpenClaim := { program := "ytocikhhkicahoaadoor", sum := "df6d456e088cfc91a1500a6764e1f7286230ef565956b9c1394960ce0e05a0dc", func := "colander/colanderlaw05.ProgOwn", spec := "progOwn", unfollowed := true, recurses := true, named := ["unicode/utf8.first", "unicode/utf8.acceptRanges"], apart := false, laid := [("unicode/utf8.acceptRanges", laid_unicode_utf8_acceptRanges), ("unicode/utf8.first", laid_unicode_utf8_first)], narrowed := true }
def ProgOwnUptoSaid : Prop := progOwnUptoRow.holds Tryd.pinned (OpenSpec.upto progOwnSpec)

end Rows
end Go.Proofs.YtocikhhkicahoaaDoor
