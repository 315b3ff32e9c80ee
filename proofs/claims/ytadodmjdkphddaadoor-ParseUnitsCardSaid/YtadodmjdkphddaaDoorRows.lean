/-
  NARROWER THAN 'FOR EVERY INPUT', by the rows' own cells (each row's printed sentence says how): ParseWraps: laid · ParseGroups: laid · ParseRepeats: laid · ParseRows: laid · ParseUnits: laid · ParseTwice: laid · ShapeOrders: laid · ShapeRows: laid · ShapeBehind: laid · ShapeDeep: laid · ShapeAlts: laid · ShapeFree: laid.
  DERIVED. THE GIVEN ROWS OF THIS SEAT. 12 by the template 'for every input the law returns true; each argument reads behind the call as it read before'; 0 by the template 'total and deterministic' (their statements: YtadodmjdkphddaaDoorTotals.lean).
  GIVEN WITH THE SEED: the statements are not yours to turn. If you find one false, say at which input.
  Laid BY PROGRAM, IN A SANDBOX (cutbox-rows.mjs): the forced cells as the released guide's own fill.sh prints them over the translation 49fe561fd9bd7743… (all of the seat's roots in one cut). By AI agents, Wed Nov 11 2026. No macro, syntax, notation, axiom, sorry.
-/
import Derived.Test.YtadodmjdkphddaaDoorChecked
import GoSem.PinnedTables
import GoSem.Claim
import GoSem.ClaimJoined
import GoSem.ClaimMapViews
import Derived.JoinedTies
import Derived.KernelRfl
namespace Go.Proofs.YtadodmjdkphddaaDoor
/- THE CELL 'sum', in the pinned program and in every row, IS THE sha256 OF THE DUMP (.gsa) THAT YtadodmjdkphddaaDoorProg.lean LOADS. Nothing in Lean hashes anything: it is a label: what it is worth is what the hold of that sum in a sandbox is worth. -/
noncomputable def Tryd.pinned : Pinned := { name := "ytadodmjdkphddaadoor", sum := "49fe561fd9bd7743a1d8051df41743a7fbb74f97f362bf32e1531df5fca072e0", checked := Tryd.checked }
namespace Rows
def none {H : Type} : Left H := { results := [], args := [] }

/- WHAT THE LISTED PACKAGE-LEVEL VARIABLES READ AS WHEN THE CALL BEGINS. Each datum BY PROGRAM (the guide's laid-datum.mjs) off the statement by which the dump's own 'gosem.cut.vars' lays the variable. In a bare row this is a premise. The card (YtadodmjdkphddaaDoorCards.lean) ties it to the program's text. -/
def laid_unicode_utf8_acceptRanges {H : Type} : DataW H := .agg [.agg [.lit (.int .u8 128), .lit (.int .u8 191)], .agg [.lit (.int .u8 160), .lit (.int .u8 191)], .agg [.lit (.int .u8 128), .lit (.int .u8 159)], .agg [.lit (.int .u8 144), .lit (.int .u8 191)], .agg [.lit (.int .u8 128), .lit (.int .u8 143)], .agg [.lit (.int .u8 0), .lit (.int .u8 0)], .agg [.lit (.int .u8 0), .lit (.int .u8 0)], .agg [.lit (.int .u8 0), .lit (.int .u8 0)], .agg [.lit (.int .u8 0), .lit (.int .u8 0)], .agg [.lit (.int .u8 0), .lit (.int .u8 0)], .agg [.lit (.int .u8 0), .lit (.int .u8 0)], .agg [.lit (.int .u8 0), .lit (.int .u8 0)], .agg [.lit (.int .u8 0), .lit (.int .u8 0)], .agg [.lit (.int .u8 0), .lit (.int .u8 0)], .agg [.lit (.int .u8 0), .lit (.int .u8 0)], .agg [.lit (.int .u8 0), .lit (.int .u8 0)]]
/-- One of Go's own tables, pinned by name: the form's constant. -/
def laid_unicode_utf8_first : DataW Unit := Go.Pinned.utf8First

/-- 'colanderlaw03.ParseWraps': WHATEVER THE INPUT: true; the input reads as it did. -/
def parseWrapsSpec : ChangeSpec := { name := "parseWraps", fn := fun _ => fun
  | [d] => { results := [.lit (.bool true)], args := [d] }
  | _ => none }
def parseWrapsRow : OpenClaim := { program := "ytadodmjdkphddaadoor", sum := "49fe561fd9bd7743a1d8051df41743a7fbb74f97f362bf32e1531df5fca072e0", func := "colander/colanderlaw03.ParseWraps", spec := "parseWraps", unfollowed := true, recurses := true, named := ["unicode/utf8.first", "unicode/utf8.acceptRanges"], apart := false, laid := [("unicode/utf8.acceptRanges", laid_unicode_utf8_acceptRanges), ("unicode/utf8.first", laid_unicode_utf8_first)] }
def ParseWrapsSaid : Prop := parseWrapsRow.holds Tryd.pinned (OpenSpec.ofChange parseWrapsSpec)

/-- ITS FALSE NEIGHBOUR: 'it returns false'. Refute it at one input. -/
def parseWrapsWrong : ChangeSpec := { name := "parseWraps", fn := fun _ => fun
  | [d] => { results := [.lit (.bool false)], args := [d] }
  | _ => none }
def ParseWrapsWrongFalsely : Prop := parseWrapsRow.holds Tryd.pinned (OpenSpec.ofChange parseWrapsWrong)

/-- 'colanderlaw03.ParseGroups': WHATEVER THE INPUT: true; the input reads as it did. -/
def parseGroupsSpec : ChangeSpec := { name := "parseGroups", fn := fun _ => fun
  | [d] => { results := [.lit (.bool true)], args := [d] }
  | _ => none }
def parseGroupsRow : OpenClaim := { program := "ytadodmjdkphddaadoor", sum := "49fe561fd9bd7743a1d8051df41743a7fbb74f97f362bf32e1531df5fca072e0", func := "colander/colanderlaw03.ParseGroups", spec := "parseGroups", unfollowed := true, recurses := true, named := ["unicode/utf8.first", "unicode/utf8.acceptRanges"], apart := false, laid := [("unicode/utf8.acceptRanges", laid_unicode_utf8_acceptRanges), ("unicode/utf8.first", laid_unicode_utf8_first)] }
def ParseGroupsSaid : Prop := parseGroupsRow.holds Tryd.pinned (OpenSpec.ofChange parseGroupsSpec)

/-- ITS FALSE NEIGHBOUR: 'it returns false'. Refute it at one input. -/
def parseGroupsWrong : ChangeSpec := { name := "parseGroups", fn := fun _ => fun
  | [d] => { results := [.lit (.bool false)], args := [d] }
  | _ => none }
def ParseGroupsWrongFalsely : Prop := parseGroupsRow.holds Tryd.pinned (OpenSpec.ofChange parseGroupsWrong)

/-- 'colanderlaw03.ParseRepeats': WHATEVER THE INPUT: true; the input reads as it did. -/
def parseRepeatsSpec : ChangeSpec := { name := "parseRepeats", fn := fun _ => fun
  | [d1, d2, d3, d4] => { results := [.lit (.bool true)], args := [d1, d2, d3, d4] }
  | _ => none }
def parseRepeatsRow : OpenClaim := { program := "ytadodmjdkphddaadoor", sum := "49fe561fd9bd7743a1d8051df41743a7fbb74f97f362bf32e1531df5fca072e0", func := "colander/colanderlaw03.ParseRepeats", spec := "parseRepeats", unfollowed := true, recurses := true, named := ["unicode/utf8.first", "unicode/utf8.acceptRanges"], apart := false, laid := [("unicode/utf8.acceptRanges", laid_unicode_utf8_acceptRanges), ("unicode/utf8.first", laid_unicode_utf8_first)] }
def ParseRepeatsSaid : Prop := parseRepeatsRow.holds Tryd.pinned (OpenSpec.ofChange parseRepeatsSpec)

/-- ITS FALSE NEIGHBOUR: 'it returns false'. Refute it at one input. -/
def parseRepeatsWrong : ChangeSpec := { name := "parseRepeats", fn := fun _ => fun
  | [d1, d2, d3, d4] => { results := [.lit (.bool false)], args := [d1, d2, d3, d4] }
  | _ => none }
def ParseRepeatsWrongFalsely : Prop := parseRepeatsRow.holds Tryd.pinned (OpenSpec.ofChange parseRepeatsWrong)

/-- 'colanderlaw03.ParseRows': WHATEVER THE INPUT: true; the input reads as it did. -/
def parseRowsSpec : ChangeSpec := { name := "parseRows", fn := fun _ => fun
  | [d1, d2] => { results := [.lit (.bool true)], args := [d1, d2] }
  | _ => none }
def parseRowsRow : OpenClaim := { program := "ytadodmjdkphddaadoor", sum := "49fe561fd9bd7743a1d8051df41743a7fbb74f97f362bf32e1531df5fca072e0", func := "colander/colanderlaw03.ParseRows", spec := "parseRows", unfollowed := true, recurses := true, named := ["unicode/utf8.first", "unicode/utf8.acceptRanges"], apart := false, laid := [("unicode/utf8.acceptRanges", laid_unicode_utf8_acceptRanges), ("unicode/utf8.first", laid_unicode_utf8_first)] }
def ParseRowsSaid : Prop := parseRowsRow.holds Tryd.pinned (OpenSpec.ofChange parseRowsSpec)

/-- ITS FALSE NEIGHBOUR: 'it returns false'. Refute it at one input. -/
def parseRowsWrong : ChangeSpec := { name := "parseRows", fn := fun _ => fun
  | [d1, d2] => { results := [.lit (.bool false)], args := [d1, d2] }
  | _ => none }
def ParseRowsWrongFalsely : Prop := parseRowsRow.holds Tryd.pinned (OpenSpec.ofChange parseRowsWrong)

/-- 'colanderlaw03.ParseUnits': WHATEVER THE INPUT: true; the input reads as it did. -/
def parseUnitsSpec : ChangeSpec := { name := "parseUnits", fn := fun _ => fun
  | [d] => { results := [.lit (.bool true)], args := [d] }
  | _ => none }
def parseUnitsRow : OpenClaim := { program := "ytadodmjdkphddaadoor", sum := "49fe561fd9bd7743a1d8051df41743a7fbb74f97f362bf32e1531df5fca072e0", func := "colander/colanderlaw03.ParseUnits", spec := "parseUnits", unfollowed := true, recurses := true, named := ["unicode/utf8.first", "unicode/utf8.acceptRanges"], apart := false, laid := [("unicode/utf8.acceptRanges", laid_unicode_utf8_acceptRanges), ("unicode/utf8.first", laid_unicode_utf8_first)] }
def ParseUnitsSaid : Prop := parseUnitsRow.holds Tryd.pinned (OpenSpec.ofChange parseUnitsSpec)

/-- ITS FALSE NEIGHBOUR: 'it returns false'. Refute it at one input. -/
def parseUnitsWrong : ChangeSpec := { name := "parseUnits", fn := fun _ => fun
  | [d] => { results := [.lit (.bool false)], args := [d] }
  | _ => none }
def ParseUnitsWrongFalsely : Prop := parseUnitsRow.holds Tryd.pinned (OpenSpec.ofChange parseUnitsWrong)

/-- 'colanderlaw03.ParseTwice': WHATEVER THE INPUT: true; the input reads as it did. -/
def parseTwiceSpec : ChangeSpec := { name := "parseTwice", fn := fun _ => fun
  | [d] => { results := [.lit (.bool true)], args := [d] }
  | _ => none }
def parseTwiceRow : OpenClaim := { program := "ytadodmjdkphddaadoor", sum := "49fe561fd9bd7743a1d8051df41743a7fbb74f97f362bf32e1531df5fca072e0", func := "colander/colanderlaw03.ParseTwice", spec := "parseTwice", unfollowed := true, recurses := true, named := ["unicode/utf8.first", "unicode/utf8.acceptRanges"], apart := false, laid := [("unicode/utf8.acceptRanges", laid_unicode_utf8_acceptRanges), ("unicode/utf8.first", laid_unicode_utf8_first)] }
def ParseTwiceSaid : Prop := parseTwiceRow.holds Tryd.pinned (OpenSpec.ofChange parseTwiceSpec)

/-- ITS FALSE NEIGHBOUR: 'it returns false'. Refute it at one input. -/
def parseTwiceWrong : ChangeSpec := { name := "parseTwice", fn := fun _ => fun
  | [d] => { results := [.lit (.bool false)], args := [d] }
  | _ => none }
def ParseTwiceWrongFalsely : Prop := parseTwiceRow.holds Tryd.pinned (OpenSpec.ofChange parseTwiceWrong)

/-- 'colanderlaw04.ShapeOrders': WHATEVER THE INPUT: true; the input reads as it did. -/
def shapeOrdersSpec : ChangeSpec := { name := "shapeOrders", fn := fun _ => fun
  | [d] => { results := [.lit (.bool true)], args := [d] }
  | _ => none }
def shapeOrdersRow : OpenClaim := { program := "ytadodmjdkphddaadoor", sum := "49fe561fd9bd7743a1d8051df41743a7fbb74f97f362bf32e1531df5fca072e0", func := "colander/colanderlaw04.ShapeOrders", spec := "shapeOrders", unfollowed := true, recurses := true, named := ["unicode/utf8.first", "unicode/utf8.acceptRanges"], apart := false, laid := [("unicode/utf8.acceptRanges", laid_unicode_utf8_acceptRanges), ("unicode/utf8.first", laid_unicode_utf8_first)] }
def ShapeOrdersSaid : Prop := shapeOrdersRow.holds Tryd.pinned (OpenSpec.ofChange shapeOrdersSpec)

/-- ITS FALSE NEIGHBOUR: 'it returns false'. Refute it at one input. -/
def shapeOrdersWrong : ChangeSpec := { name := "shapeOrders", fn := fun _ => fun
  | [d] => { results := [.lit (.bool false)], args := [d] }
  | _ => none }
def ShapeOrdersWrongFalsely : Prop := shapeOrdersRow.holds Tryd.pinned (OpenSpec.ofChange shapeOrdersWrong)

/-- 'colanderlaw04.ShapeRows': WHATEVER THE INPUT: true; the input reads as it did. -/
def shapeRowsSpec : ChangeSpec := { name := "shapeRows", fn := fun _ => fun
  | [d1, d2] => { results := [.lit (.bool true)], args := [d1, d2] }
  | _ => none }
def shapeRowsRow : OpenClaim := { program := "ytadodmjdkphddaadoor", sum := "49fe561fd9bd7743a1d8051df41743a7fbb74f97f362bf32e1531df5fca072e0", func := "colander/colanderlaw04.ShapeRows", spec := "shapeRows", unfollowed := true, recurses := true, named := ["unicode/utf8.first", "unicode/utf8.acceptRanges"], apart := false, laid := [("unicode/utf8.acceptRanges", laid_unicode_utf8_acceptRanges), ("unicode/utf8.first", laid_unicode_utf8_first)] }
def ShapeRowsSaid : Prop := shapeRowsRow.holds Tryd.pinned (OpenSpec.ofChange shapeRowsSpec)

/-- ITS FALSE NEIGHBOUR: 'it returns false'. Refute it at one input. -/
def shapeRowsWrong : ChangeSpec := { name := "shapeRows", fn := fun _ => fun
  | [d1, d2] => { results := [.lit (.bool false)], args := [d1, d2] }
  | _ => none }
def ShapeRowsWrongFalsely : Prop := shapeRowsRow.holds Tryd.pinned (OpenSpec.ofChange shapeRowsWrong)

/-- 'colanderlaw04.ShapeBehind': WHATEVER THE INPUT: true; the input reads as it did. -/
def shapeBehindSpec : ChangeSpec := { name := "shapeBehind", fn := fun _ => fun
  | [d1, d2] => { results := [.lit (.bool true)], args := [d1, d2] }
  | _ => none }
def shapeBehindRow : OpenClaim := { program := "ytadodmjdkphddaadoor", sum := "49fe561fd9bd7743a1d8051df41743a7fbb74f97f362bf32e1531df5fca072e0", func := "colander/colanderlaw04.ShapeBehind", spec := "shapeBehind", unfollowed := true, recurses := true, named := ["unicode/utf8.first", "unicode/utf8.acceptRanges"], apart := false, laid := [("unicode/utf8.acceptRanges", laid_unicode_utf8_acceptRanges), ("unicode/utf8.first", laid_unicode_utf8_first)] }
def ShapeBehindSaid : Prop := shapeBehindRow.holds Tryd.pinned (OpenSpec.ofChange shapeBehindSpec)

/-- ITS FALSE NEIGHBOUR: 'it returns false'. Refute it at one input. -/
def shapeBehindWrong : ChangeSpec := { name := "shapeBehind", fn := fun _ => fun
  | [d1, d2] => { results := [.lit (.bool false)], args := [d1, d2] }
  | _ => none }
def ShapeBehindWrongFalsely : Prop := shapeBehindRow.holds Tryd.pinned (OpenSpec.ofChange shapeBehindWrong)

/-- 'colanderlaw04.ShapeDeep': WHATEVER THE INPUT: true; the input reads as it did. -/
def shapeDeepSpec : ChangeSpec := { name := "shapeDeep", fn := fun _ => fun
  | [d] => { results := [.lit (.bool true)], args := [d] }
  | _ => none }
def shapeDeepRow : OpenClaim := { program := "ytadodmjdkphddaadoor", sum := "49fe561fd9bd7743a1d8051df41743a7fbb74f97f362bf32e1531df5fca072e0", func := "colander/colanderlaw04.ShapeDeep", spec := "shapeDeep", unfollowed := true, recurses := true, named := ["unicode/utf8.first", "unicode/utf8.acceptRanges"], apart := false, laid := [("unicode/utf8.acceptRanges", laid_unicode_utf8_acceptRanges), ("unicode/utf8.first", laid_unicode_utf8_first)] }
def ShapeDeepSaid : Prop := shapeDeepRow.holds Tryd.pinned (OpenSpec.ofChange shapeDeepSpec)

/-- ITS FALSE NEIGHBOUR: 'it returns false'. Refute it at one input. -/
def shapeDeepWrong : ChangeSpec := { name := "shapeDeep", fn := fun _ => fun
  | [d] => { results := [.lit (.bool false)], args := [d] }
  | _ => none }
def ShapeDeepWrongFalsely : Prop := shapeDeepRow.holds Tryd.pinned (OpenSpec.ofChange shapeDeepWrong)

/-- 'colanderlaw04.ShapeAlts': WHATEVER THE INPUT: true; the input reads as it did. -/
def shapeAltsSpec : ChangeSpec := { name := "shapeAlts", fn := fun _ => fun
  | [d1, d2] => { results := [.lit (.bool true)], args := [d1, d2] }
  | _ => none }
def shapeAltsRow : OpenClaim := { program := "ytadodmjdkphddaadoor", sum := "49fe561fd9bd7743a1d8051df41743a7fbb74f97f362bf32e1531df5fca072e0", func := "colander/colanderlaw04.ShapeAlts", spec := "shapeAlts", unfollowed := true, recurses := true, named := ["unicode/utf8.first", "unicode/utf8.acceptRanges"], apart := false, laid := [("unicode/utf8.acceptRanges", laid_unicode_utf8_acceptRanges), ("unicode/utf8.first", laid_unicode_utf8_first)] }
def ShapeAltsSaid : Prop := shapeAltsRow.holds Tryd.pinned (OpenSpec.ofChange shapeAltsSpec)

/-- ITS FALSE NEIGHBOUR: 'it returns false'. Refute it at one input. -/
def shapeAltsWrong : ChangeSpec := { name := "shapeAlts", fn := fun _ => fun
  | [d1, d2] => { results := [.lit (.bool false)], args := [d1, d2] }
  | _ => none }
def ShapeAltsWrongFalsely : Prop := shapeAltsRow.holds Tryd.pinned (OpenSpec.ofChange shapeAltsWrong)

/-- 'colanderlaw04.ShapeFree': WHATEVER THE INPUT: true; the input reads as it did. -/
def shapeFreeSpec : ChangeSpec := { name := "shapeFree", fn := fun _ => fun
  | [d1, d2] => { results := [.lit (.bool true)], args := [d1, d2] }
  | _ => none }
def shapeFreeRow : OpenClaim := { program := "ytadodmjdkphddaadoor", sum := "49fe561fd9bd7743a1d8051df41743a7fbb74f97f362bf32e1531df5fca072e0", func := "colander/colanderlaw04.ShapeFree", spec := "shapeFree", unfollowed := true, recurses := true, named := ["unicode/utf8.first", "unicode/utf8.acceptRanges"], apart := false, laid := [("unicode/utf8.acceptRanges", laid_unicode_utf8_acceptRanges), ("unicode/utf8.first", laid_unicode_utf8_first)] }
def ShapeFreeSaid : Prop := shapeFreeRow.holds Tryd.pinned (OpenSpec.ofChange shapeFreeSpec)

/-- ITS FALSE NEIGHBOUR: 'it returns false'. Refute it at one input. -/
def shapeFreeWrong : ChangeSpec := { name := "shapeFree", fn := fun _ => fun
  | [d1, d2] => { results := [.lit (.bool false)], args := [d1, d2] }
  | _ => none }
def ShapeFreeWrongFalsely : Prop := shapeFreeRow.holds Tryd.pinned (OpenSpec.ofChange shapeFreeWrong)

/- THE SECOND FORM. 'bulk': how many values and letters a reading holds, each counted each time it is reached (what is shared counts as often as it is met; a slice's spare places count too). A statement '..UptoSaid' is the law's where the arguments, and the package variables that the reading takes, are together of bulk at most 1048576: NARROWER than '..Said'. Prove '..Said' where nothing that the law and all that it calls make is longer than what came in: it says more and counts as full. Else prove '..UptoSaid'. A law counts once. -/
mutual
def uptoBulk {H : Type} : DataW H → Nat
  | .lit (.string bytes) => bytes.length + 1
  | .lit _ => 1
  | .nil => 1
  | .ptr d => uptoBulk d + 1
  | .slice elems spare => uptoBulkAll elems + uptoBulkAll spare + 1
  | .agg parts => uptoBulkAll parts + 1
  | .iface _ d => uptoBulk d + 1
  | .map entries => uptoBulkEntries entries + 1
  | .held _ => 1
def uptoBulkAll {H : Type} : List (DataW H) → Nat
  | [] => 0
  | d :: r => uptoBulk d + uptoBulkAll r
def uptoBulkEntries {H : Type} : List (Lit × DataW H) → Nat
  | [] => 0
  | x :: r => uptoBulkEntry x + uptoBulkEntries r
def uptoBulkEntry {H : Type} : Lit × DataW H → Nat
  | (.string bytes, d) => bytes.length + uptoBulk d + 1
  | (_, d) => uptoBulk d + 1
 end
def uptoSmall : (H : Type) → List (DataW H) → Bool := fun _ ds => decide (uptoBulkAll ds ≤ 1048576)
def OpenSpec.upto (s : _root_.Go.ChangeSpec) : _root_.Go.OpenSpec := { _root_.Go.OpenSpec.ofChange s with cond := some uptoSmall }

/-- 'colanderlaw03.ParseWraps', WHERE WHAT IT READS IS OF BULK AT MOST 1048576: true; the input reads as it did. -/
def parseWrapsUptoRow : OpenClaim := { program := "ytadodmjdkphddaadoor", sum := "49fe561fd9bd7743a1d8051df41743a7fbb74f97f362bf32e1531df5fca072e0", func := "colander/colanderlaw03.ParseWraps", spec := "parseWraps", unfollowed := true, recurses := true, named := ["unicode/utf8.first", "unicode/utf8.acceptRanges"], apart := false, laid := [("unicode/utf8.acceptRanges", laid_unicode_utf8_acceptRanges), ("unicode/utf8.first", laid_unicode_utf8_first)], narrowed := true }
def ParseWrapsUptoSaid : Prop := parseWrapsUptoRow.holds Tryd.pinned (OpenSpec.upto parseWrapsSpec)

/-- 'colanderlaw03.ParseGroups', WHERE WHAT IT READS IS OF BULK AT MOST 1048576: true; the input reads as it did. -/
def parseGroupsUptoRow : OpenClaim := { program := "ytadodmjdkphddaadoor", sum := "49fe561fd9bd7743a1d8051df41743a7fbb74f97f362bf32e1531df5fca072e0", func := "colander/colanderlaw03.ParseGroups", spec := "parseGroups", unfollowed := true, recurses := true, named := ["unicode/utf8.first", "unicode/utf8.acceptRanges"], apart := false, laid := [("unicode/utf8.acceptRanges", laid_unicode_utf8_acceptRanges), ("unicode/utf8.first", laid_unicode_utf8_first)], narrowed := true }
def ParseGroupsUptoSaid : Prop := parseGroupsUptoRow.holds Tryd.pinned (OpenSpec.upto parseGroupsSpec)

/-- 'colanderlaw03.ParseRepeats', WHERE WHAT IT READS IS OF BULK AT MOST 1048576: true; the input reads as it did. -/
def parseRepeatsUptoRow : OpenClaim := { program := "ytadodmjdkphddaadoor", sum := "49fe561fd9bd7743a1d8051df41743a7fbb74f97f362bf32e1531df5fca072e0", func := "colander/colanderlaw03.ParseRepeats", spec := "parseRepeats", unfollowed := true, recurses := true, named := ["unicode/utf8.first", "unicode/utf8.acceptRanges"], apart := false, laid := [("unicode/utf8.acceptRanges", laid_unicode_utf8_acceptRanges), ("unicode/utf8.first", laid_unicode_utf8_first)], narrowed := true }
def ParseRepeatsUptoSaid : Prop := parseRepeatsUptoRow.holds Tryd.pinned (OpenSpec.upto parseRepeatsSpec)

/-- 'colanderlaw03.ParseRows', WHERE WHAT IT READS IS OF BULK AT MOST 1048576: true; the input reads as it did. -/
def parseRowsUptoRow : OpenClaim := { program := "ytadodmjdkphddaadoor", sum := "49fe561fd9bd7743a1d8051df41743a7fbb74f97f362bf32e1531df5fca072e0", func := "colander/colanderlaw03.ParseRows", spec := "parseRows", unfollowed := true, recurses := true, named := ["unicode/utf8.first", "unicode/utf8.acceptRanges"], apart := false, laid := [("unicode/utf8.acceptRanges", laid_unicode_utf8_acceptRanges), ("unicode/utf8.first", laid_unicode_utf8_first)], narrowed := true }
def ParseRowsUptoSaid : Prop := parseRowsUptoRow.holds Tryd.pinned (OpenSpec.upto parseRowsSpec)

/-- 'colanderlaw03.ParseUnits', WHERE WHAT IT READS IS OF BULK AT MOST 1048576: true; the input reads as it did. -/
def parseUnitsUptoRow : OpenClaim := { program := "ytadodmjdkphddaadoor", sum := "49fe561fd9bd7743a1d8051df41743a7fbb74f97f362bf32e1531df5fca072e0", func := "colander/colanderlaw03.ParseUnits", spec := "parseUnits", unfollowed := true, recurses := true, named := ["unicode/utf8.first", "unicode/utf8.acceptRanges"], apart := false, laid := [("unicode/utf8.acceptRanges", laid_unicode_utf8_acceptRanges), ("unicode/utf8.first", laid_unicode_utf8_first)], narrowed := true }
def ParseUnitsUptoSaid : Prop := parseUnitsUptoRow.holds Tryd.pinned (OpenSpec.upto parseUnitsSpec)

/-- 'colanderlaw03.ParseTwice', WHERE WHAT IT READS IS OF BULK AT MOST 1048576: true; the input reads as it did. -/
def parseTwiceUptoRow : OpenClaim := { program := "ytadodmjdkphddaadoor", sum := "49fe561fd9bd7743a1d8051df41743a7fbb74f97f362bf32e1531df5fca072e0", func := "colander/colanderlaw03.ParseTwice", spec := "parseTwice", unfollowed := true, recurses := true, named := ["unicode/utf8.first", "unicode/utf8.acceptRanges"], apart := false, laid := [("unicode/utf8.acceptRanges", laid_unicode_utf8_acceptRanges), ("unicode/utf8.first", laid_unicode_utf8_first)], narrowed := true }
def ParseTwiceUptoSaid : Prop := parseTwiceUptoRow.holds Tryd.pinned (OpenSpec.upto parseTwiceSpec)

/-- 'colanderlaw04.ShapeOrders', WHERE WHAT IT READS IS OF BULK AT MOST 1048576: true; the input reads as it did. -/
def shapeOrdersUptoRow : OpenClaim := { program := "ytadodmjdkphddaadoor", sum := "49fe561fd9bd7743a1d8051df41743a7fbb74f97f362bf32e1531df5fca072e0", func := "colander/colanderlaw04.ShapeOrders", spec := "shapeOrders", unfollowed := true, recurses := true, named := ["unicode/utf8.first", "unicode/utf8.acceptRanges"], apart := false, laid := [("unicode/utf8.acceptRanges", laid_unicode_utf8_acceptRanges), ("unicode/utf8.first", laid_unicode_utf8_first)], narrowed := true }
def ShapeOrdersUptoSaid : Prop := shapeOrdersUptoRow.holds Tryd.pinned (OpenSpec.upto shapeOrdersSpec)

/-- 'colanderlaw04.ShapeRows', WHERE WHAT IT READS IS OF BULK AT MOST 1048576: true; the input reads as it did. -/
def shapeRowsUptoRow : OpenClaim := { program := "ytadodmjdkphddaadoor", sum := "49fe561fd9bd7743a1d8051df41743a7fbb74f97f362bf32e1531df5fca072e0", func := "colander/colanderlaw04.ShapeRows", spec := "shapeRows", unfollowed := true, recurses := true, named := ["unicode/utf8.first", "unicode/utf8.acceptRanges"], apart := false, laid := [("unicode/utf8.acceptRanges", laid_unicode_utf8_acceptRanges), ("unicode/utf8.first", laid_unicode_utf8_first)], narrowed := true }
def ShapeRowsUptoSaid : Prop := shapeRowsUptoRow.holds Tryd.pinned (OpenSpec.upto shapeRowsSpec)

/-- 'colanderlaw04.ShapeBehind', WHERE WHAT IT READS IS OF BULK AT MOST 1048576: true; the input reads as it did. -/
def shapeBehindUptoRow : OpenClaim := { program := "ytadodmjdkphddaadoor", sum := "49fe561fd9bd7743a1d8051df41743a7fbb74f97f362bf32e1531df5fca072e0", func := "colander/colanderlaw04.ShapeBehind", spec := "shapeBehind", unfollowed := true, recurses := true, named := ["unicode/utf8.first", "unicode/utf8.acceptRanges"], apart := false, laid := [("unicode/utf8.acceptRanges", laid_unicode_utf8_acceptRanges), ("unicode/utf8.first", laid_unicode_utf8_first)], narrowed := true }
def ShapeBehindUptoSaid : Prop := shapeBehindUptoRow.holds Tryd.pinned (OpenSpec.upto shapeBehindSpec)

/-- 'colanderlaw04.ShapeDeep', WHERE WHAT IT READS IS OF BULK AT MOST 1048576: true; the input reads as it did. -/
def shapeDeepUptoRow : OpenClaim := { program := "ytadodmjdkphddaadoor", sum := "49fe561fd9bd7743a1d8051df41743a7fbb74f97f362bf32e1531df5fca072e0", func := "colander/colanderlaw04.ShapeDeep", spec := "shapeDeep", unfollowed := true, recurses := true, named := ["unicode/utf8.first", "unicode/utf8.acceptRanges"], apart := false, laid := [("unicode/utf8.acceptRanges", laid_unicode_utf8_acceptRanges), ("unicode/utf8.first", laid_unicode_utf8_first)], narrowed := true }
def ShapeDeepUptoSaid : Prop := shapeDeepUptoRow.holds Tryd.pinned (OpenSpec.upto shapeDeepSpec)

/-- 'colanderlaw04.ShapeAlts', WHERE WHAT IT READS IS OF BULK AT MOST 1048576: true; the input reads as it did. -/
def shapeAltsUptoRow : OpenClaim := { program := "ytadodmjdkphddaadoor", sum := "49fe561fd9bd7743a1d8051df41743a7fbb74f97f362bf32e1531df5fca072e0", func := "colander/colanderlaw04.ShapeAlts", spec := "shapeAlts", unfollowed := true, recurses := true, named := ["unicode/utf8.first", "unicode/utf8.acceptRanges"], apart := false, laid := [("unicode/utf8.acceptRanges", laid_unicode_utf8_acceptRanges), ("unicode/utf8.first", laid_unicode_utf8_first)], narrowed := true }
def ShapeAltsUptoSaid : Prop := shapeAltsUptoRow.holds Tryd.pinned (OpenSpec.upto shapeAltsSpec)

/-- 'colanderlaw04.ShapeFree', WHERE WHAT IT READS IS OF BULK AT MOST 1048576: true; the input reads as it did. -/
def shapeFreeUptoRow : OpenClaim := { program := "ytadodmjdkphddaadoor", sum := "49fe561fd9bd7743a1d8051df41743a7fbb74f97f362bf32e1531df5fca072e0", func := "colander/colanderlaw04.ShapeFree", spec := "shapeFree", unfollowed := true, recurses := true, named := ["unicode/utf8.first", "unicode/utf8.acceptRanges"], apart := false, laid := [("unicode/utf8.acceptRanges", laid_unicode_utf8_acceptRanges), ("unicode/utf8.first", laid_unicode_utf8_first)], narrowed := true }
def ShapeFreeUptoSaid : Prop := shapeFreeUptoRow.holds Tryd.pinned (OpenSpec.upto shapeFreeSpec)

end Rows
end Go.Proofs.YtadodmjdkphddaaDoor
