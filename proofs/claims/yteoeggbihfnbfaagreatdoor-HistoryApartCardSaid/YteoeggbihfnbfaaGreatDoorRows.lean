/-
  NARROWER THAN 'FOR EVERY INPUT', by the rows' own cells (each row's printed sentence says how): VerdictRules: laid · VerdictFirst: laid · VerdictChanges: laid · VerdictKeeps: laid · VerdictPuts: laid · HistoryApart: laid · HistoryGrows: laid · HistoryTwice: laid · HistoryOwn: laid · HistoryBegins: laid · HistoryRuns: laid.
  DERIVED. THE GIVEN ROWS OF THIS SEAT. 11 by the template 'for every input the law returns true; each argument reads behind the call as it read before'; 0 by the template 'total and deterministic' (their statements: YteoeggbihfnbfaaGreatDoorTotals.lean).
  GIVEN WITH THE SEED: the statements are not yours to turn. If you find one false, say at which input.
  Laid BY PROGRAM, IN A SANDBOX (cutbox-rows.mjs): the forced cells as the released guide's own fill.sh prints them over the translation 5e6b34aad9c58626… (all of the seat's roots in one cut). By AI agents, Wed Nov 11 2026. No macro, syntax, notation, axiom, sorry.
-/
import Derived.Test.YteoeggbihfnbfaaGreatDoorChecked
import GoSem.PinnedTables
import GoSem.Claim
import GoSem.ClaimJoined
import GoSem.ClaimMapViews
import Derived.JoinedTies
import Derived.KernelRfl
namespace Go.Proofs.YteoeggbihfnbfaaGreatDoor
/- THE CELL 'sum', in the pinned program and in every row, IS THE sha256 OF THE DUMP (.gsa) THAT YteoeggbihfnbfaaGreatDoorProg.lean LOADS. Nothing in Lean hashes anything: it is a label: what it is worth is what the hold of that sum in a sandbox is worth. -/
noncomputable def Tryz.pinned : Pinned := { name := "yteoeggbihfnbfaagreatdoor", sum := "5e6b34aad9c58626c87cf5502fa1144f4fbfb020b49f573a0280737fca76780e", checked := Tryz.checked }
namespace Rows
def none {H : Type} : Left H := { results := [], args := [] }

/- WHAT THE LISTED PACKAGE-LEVEL VARIABLES READ AS WHEN THE CALL BEGINS. Each datum BY PROGRAM (the guide's laid-datum.mjs) off the statement by which the dump's own 'gosem.cut.vars' lays the variable. In a bare row this is a premise. The card (YteoeggbihfnbfaaGreatDoorCards.lean) ties it to the program's text. -/
def laid_unicode_utf8_acceptRanges {H : Type} : DataW H := .agg [.agg [.lit (.int .u8 128), .lit (.int .u8 191)], .agg [.lit (.int .u8 160), .lit (.int .u8 191)], .agg [.lit (.int .u8 128), .lit (.int .u8 159)], .agg [.lit (.int .u8 144), .lit (.int .u8 191)], .agg [.lit (.int .u8 128), .lit (.int .u8 143)], .agg [.lit (.int .u8 0), .lit (.int .u8 0)], .agg [.lit (.int .u8 0), .lit (.int .u8 0)], .agg [.lit (.int .u8 0), .lit (.int .u8 0)], .agg [.lit (.int .u8 0), .lit (.int .u8 0)], .agg [.lit (.int .u8 0), .lit (.int .u8 0)], .agg [.lit (.int .u8 0), .lit (.int .u8 0)], .agg [.lit (.int .u8 0), .lit (.int .u8 0)], .agg [.lit (.int .u8 0), .lit (.int .u8 0)], .agg [.lit (.int .u8 0), .lit (.int .u8 0)], .agg [.lit (.int .u8 0), .lit (.int .u8 0)], .agg [.lit (.int .u8 0), .lit (.int .u8 0)]]
/-- One of Go's own tables, pinned by name: the form's constant. -/
def laid_unicode_utf8_first : DataW Unit := Go.Pinned.utf8First

/-- 'colanderlaw08.VerdictRules': WHATEVER THE INPUT: true; the input reads as it did. -/
def verdictRulesSpec : ChangeSpec := { name := "verdictRules", fn := fun _ => fun
  | [d] => { results := [.lit (.bool true)], args := [d] }
  | _ => none }
def verdictRulesRow : OpenClaim := { program := "yteoeggbihfnbfaagreatdoor", sum := "5e6b34aad9c58626c87cf5502fa1144f4fbfb020b49f573a0280737fca76780e", func := "colander/colanderlaw08.VerdictRules", spec := "verdictRules", unfollowed := true, recurses := true, named := ["unicode/utf8.first", "unicode/utf8.acceptRanges"], apart := false, laid := [("unicode/utf8.acceptRanges", laid_unicode_utf8_acceptRanges), ("unicode/utf8.first", laid_unicode_utf8_first)] }
def VerdictRulesSaid : Prop := verdictRulesRow.holds Tryz.pinned (OpenSpec.ofChange verdictRulesSpec)

/-- ITS FALSE NEIGHBOUR: 'it returns false'. Refute it at one input. -/
def verdictRulesWrong : ChangeSpec := { name := "verdictRules", fn := fun _ => fun
  | [d] => { results := [.lit (.bool false)], args := [d] }
  | _ => none }
def VerdictRulesWrongFalsely : Prop := verdictRulesRow.holds Tryz.pinned (OpenSpec.ofChange verdictRulesWrong)

/-- 'colanderlaw08.VerdictFirst': WHATEVER THE INPUT: true; the input reads as it did. -/
def verdictFirstSpec : ChangeSpec := { name := "verdictFirst", fn := fun _ => fun
  | [d] => { results := [.lit (.bool true)], args := [d] }
  | _ => none }
def verdictFirstRow : OpenClaim := { program := "yteoeggbihfnbfaagreatdoor", sum := "5e6b34aad9c58626c87cf5502fa1144f4fbfb020b49f573a0280737fca76780e", func := "colander/colanderlaw08.VerdictFirst", spec := "verdictFirst", unfollowed := true, recurses := true, named := ["unicode/utf8.first", "unicode/utf8.acceptRanges"], apart := false, laid := [("unicode/utf8.acceptRanges", laid_unicode_utf8_acceptRanges), ("unicode/utf8.first", laid_unicode_utf8_first)] }
def VerdictFirstSaid : Prop := verdictFirstRow.holds Tryz.pinned (OpenSpec.ofChange verdictFirstSpec)

/-- ITS FALSE NEIGHBOUR: 'it returns false'. Refute it at one input. -/
def verdictFirstWrong : ChangeSpec := { name := "verdictFirst", fn := fun _ => fun
  | [d] => { results := [.lit (.bool false)], args := [d] }
  | _ => none }
def VerdictFirstWrongFalsely : Prop := verdictFirstRow.holds Tryz.pinned (OpenSpec.ofChange verdictFirstWrong)

/-- 'colanderlaw08.VerdictChanges': WHATEVER THE INPUT: true; the input reads as it did. -/
def verdictChangesSpec : ChangeSpec := { name := "verdictChanges", fn := fun _ => fun
  | [d1, d2] => { results := [.lit (.bool true)], args := [d1, d2] }
  | _ => none }
def verdictChangesRow : OpenClaim := { program := "yteoeggbihfnbfaagreatdoor", sum := "5e6b34aad9c58626c87cf5502fa1144f4fbfb020b49f573a0280737fca76780e", func := "colander/colanderlaw08.VerdictChanges", spec := "verdictChanges", unfollowed := true, recurses := true, named := ["unicode/utf8.first", "unicode/utf8.acceptRanges"], apart := false, laid := [("unicode/utf8.acceptRanges", laid_unicode_utf8_acceptRanges), ("unicode/utf8.first", laid_unicode_utf8_first)] }
def VerdictChangesSaid : Prop := verdictChangesRow.holds Tryz.pinned (OpenSpec.ofChange verdictChangesSpec)

/-- ITS FALSE NEIGHBOUR: 'it returns false'. Refute it at one input. -/
def verdictChangesWrong : ChangeSpec := { name := "verdictChanges", fn := fun _ => fun
  | [d1, d2] => { results := [.lit (.bool false)], args := [d1, d2] }
  | _ => none }
def VerdictChangesWrongFalsely : Prop := verdictChangesRow.holds Tryz.pinned (OpenSpec.ofChange verdictChangesWrong)

/-- 'colanderlaw08.VerdictKeeps': WHATEVER THE INPUT: true; the input reads as it did. -/
def verdictKeepsSpec : ChangeSpec := { name := "verdictKeeps", fn := fun _ => fun
  | [d1, d2] => { results := [.lit (.bool true)], args := [d1, d2] }
  | _ => none }
def verdictKeepsRow : OpenClaim := { program := "yteoeggbihfnbfaagreatdoor", sum := "5e6b34aad9c58626c87cf5502fa1144f4fbfb020b49f573a0280737fca76780e", func := "colander/colanderlaw08.VerdictKeeps", spec := "verdictKeeps", unfollowed := true, recurses := true, named := ["unicode/utf8.first", "unicode/utf8.acceptRanges"], apart := false, laid := [("unicode/utf8.acceptRanges", laid_unicode_utf8_acceptRanges), ("unicode/utf8.first", laid_unicode_utf8_first)] }
def VerdictKeepsSaid : Prop := verdictKeepsRow.holds Tryz.pinned (OpenSpec.ofChange verdictKeepsSpec)

/-- ITS FALSE NEIGHBOUR: 'it returns false'. Refute it at one input. -/
def verdictKeepsWrong : ChangeSpec := { name := "verdictKeeps", fn := fun _ => fun
  | [d1, d2] => { results := [.lit (.bool false)], args := [d1, d2] }
  | _ => none }
def VerdictKeepsWrongFalsely : Prop := verdictKeepsRow.holds Tryz.pinned (OpenSpec.ofChange verdictKeepsWrong)

/-- 'colanderlaw08.VerdictPuts': WHATEVER THE INPUT: true; the input reads as it did. -/
def verdictPutsSpec : ChangeSpec := { name := "verdictPuts", fn := fun _ => fun
  | [d1, d2] => { results := [.lit (.bool true)], args := [d1, d2] }
  | _ => none }
def verdictPutsRow : OpenClaim := { program := "yteoeggbihfnbfaagreatdoor", sum := "5e6b34aad9c58626c87cf5502fa1144f4fbfb020b49f573a0280737fca76780e", func := "colander/colanderlaw08.VerdictPuts", spec := "verdictPuts", unfollowed := true, recurses := true, named := ["unicode/utf8.first", "unicode/utf8.acceptRanges"], apart := false, laid := [("unicode/utf8.acceptRanges", laid_unicode_utf8_acceptRanges), ("unicode/utf8.first", laid_unicode_utf8_first)] }
def VerdictPutsSaid : Prop := verdictPutsRow.holds Tryz.pinned (OpenSpec.ofChange verdictPutsSpec)

/-- ITS FALSE NEIGHBOUR: 'it returns false'. Refute it at one input. -/
def verdictPutsWrong : ChangeSpec := { name := "verdictPuts", fn := fun _ => fun
  | [d1, d2] => { results := [.lit (.bool false)], args := [d1, d2] }
  | _ => none }
def VerdictPutsWrongFalsely : Prop := verdictPutsRow.holds Tryz.pinned (OpenSpec.ofChange verdictPutsWrong)

/-- 'colanderlaw14.HistoryApart': WHATEVER THE INPUT: true; the input reads as it did. -/
def historyApartSpec : ChangeSpec := { name := "historyApart", fn := fun _ => fun
  | [d1, d2] => { results := [.lit (.bool true)], args := [d1, d2] }
  | _ => none }
def historyApartRow : OpenClaim := { program := "yteoeggbihfnbfaagreatdoor", sum := "5e6b34aad9c58626c87cf5502fa1144f4fbfb020b49f573a0280737fca76780e", func := "colander/colanderlaw14.HistoryApart", spec := "historyApart", unfollowed := true, recurses := true, named := ["unicode/utf8.first", "unicode/utf8.acceptRanges"], apart := false, laid := [("unicode/utf8.acceptRanges", laid_unicode_utf8_acceptRanges), ("unicode/utf8.first", laid_unicode_utf8_first)] }
def HistoryApartSaid : Prop := historyApartRow.holds Tryz.pinned (OpenSpec.ofChange historyApartSpec)

/-- ITS FALSE NEIGHBOUR: 'it returns false'. Refute it at one input. -/
def historyApartWrong : ChangeSpec := { name := "historyApart", fn := fun _ => fun
  | [d1, d2] => { results := [.lit (.bool false)], args := [d1, d2] }
  | _ => none }
def HistoryApartWrongFalsely : Prop := historyApartRow.holds Tryz.pinned (OpenSpec.ofChange historyApartWrong)

/-- 'colanderlaw14.HistoryGrows': WHATEVER THE INPUT: true; the input reads as it did. -/
def historyGrowsSpec : ChangeSpec := { name := "historyGrows", fn := fun _ => fun
  | [d] => { results := [.lit (.bool true)], args := [d] }
  | _ => none }
def historyGrowsRow : OpenClaim := { program := "yteoeggbihfnbfaagreatdoor", sum := "5e6b34aad9c58626c87cf5502fa1144f4fbfb020b49f573a0280737fca76780e", func := "colander/colanderlaw14.HistoryGrows", spec := "historyGrows", unfollowed := true, recurses := true, named := ["unicode/utf8.first", "unicode/utf8.acceptRanges"], apart := false, laid := [("unicode/utf8.acceptRanges", laid_unicode_utf8_acceptRanges), ("unicode/utf8.first", laid_unicode_utf8_first)] }
def HistoryGrowsSaid : Prop := historyGrowsRow.holds Tryz.pinned (OpenSpec.ofChange historyGrowsSpec)

/-- ITS FALSE NEIGHBOUR: 'it returns false'. Refute it at one input. -/
def historyGrowsWrong : ChangeSpec := { name := "historyGrows", fn := fun _ => fun
  | [d] => { results := [.lit (.bool false)], args := [d] }
  | _ => none }
def HistoryGrowsWrongFalsely : Prop := historyGrowsRow.holds Tryz.pinned (OpenSpec.ofChange historyGrowsWrong)

/-- 'colanderlaw14.HistoryTwice': WHATEVER THE INPUT: true; the input reads as it did. -/
def historyTwiceSpec : ChangeSpec := { name := "historyTwice", fn := fun _ => fun
  | [d1, d2] => { results := [.lit (.bool true)], args := [d1, d2] }
  | _ => none }
def historyTwiceRow : OpenClaim := { program := "yteoeggbihfnbfaagreatdoor", sum := "5e6b34aad9c58626c87cf5502fa1144f4fbfb020b49f573a0280737fca76780e", func := "colander/colanderlaw14.HistoryTwice", spec := "historyTwice", unfollowed := true, recurses := true, named := ["unicode/utf8.first", "unicode/utf8.acceptRanges"], apart := false, laid := [("unicode/utf8.acceptRanges", laid_unicode_utf8_acceptRanges), ("unicode/utf8.first", laid_unicode_utf8_first)] }
def HistoryTwiceSaid : Prop := historyTwiceRow.holds Tryz.pinned (OpenSpec.ofChange historyTwiceSpec)

/-- ITS FALSE NEIGHBOUR: 'it returns false'. Refute it at one input. -/
def historyTwiceWrong : ChangeSpec := { name := "historyTwice", fn := fun _ => fun
  | [d1, d2] => { results := [.lit (.bool false)], args := [d1, d2] }
  | _ => none }
def HistoryTwiceWrongFalsely : Prop := historyTwiceRow.holds Tryz.pinned (OpenSpec.ofChange historyTwiceWrong)

/-- 'colanderlaw14.HistoryOwn': WHATEVER THE INPUT: true; the input reads as it did. -/
def historyOwnSpec : ChangeSpec := { name := "historyOwn", fn := fun _ => fun
  | [d] => { results := [.lit (.bool true)], args := [d] }
  | _ => none }
def historyOwnRow : OpenClaim := { program := "yteoeggbihfnbfaagreatdoor", sum := "5e6b34aad9c58626c87cf5502fa1144f4fbfb020b49f573a0280737fca76780e", func := "colander/colanderlaw14.HistoryOwn", spec := "historyOwn", unfollowed := true, recurses := true, named := ["unicode/utf8.first", "unicode/utf8.acceptRanges"], apart := false, laid := [("unicode/utf8.acceptRanges", laid_unicode_utf8_acceptRanges), ("unicode/utf8.first", laid_unicode_utf8_first)] }
def HistoryOwnSaid : Prop := historyOwnRow.holds Tryz.pinned (OpenSpec.ofChange historyOwnSpec)

/-- ITS FALSE NEIGHBOUR: 'it returns false'. Refute it at one input. -/
def historyOwnWrong : ChangeSpec := { name := "historyOwn", fn := fun _ => fun
  | [d] => { results := [.lit (.bool false)], args := [d] }
  | _ => none }
def HistoryOwnWrongFalsely : Prop := historyOwnRow.holds Tryz.pinned (OpenSpec.ofChange historyOwnWrong)

/-- 'colanderlaw14.HistoryBegins': WHATEVER THE INPUT: true; the input reads as it did. -/
def historyBeginsSpec : ChangeSpec := { name := "historyBegins", fn := fun _ => fun
  | [d1, d2] => { results := [.lit (.bool true)], args := [d1, d2] }
  | _ => none }
def historyBeginsRow : OpenClaim := { program := "yteoeggbihfnbfaagreatdoor", sum := "5e6b34aad9c58626c87cf5502fa1144f4fbfb020b49f573a0280737fca76780e", func := "colander/colanderlaw14.HistoryBegins", spec := "historyBegins", unfollowed := true, recurses := true, named := ["unicode/utf8.first", "unicode/utf8.acceptRanges"], apart := false, laid := [("unicode/utf8.acceptRanges", laid_unicode_utf8_acceptRanges), ("unicode/utf8.first", laid_unicode_utf8_first)] }
def HistoryBeginsSaid : Prop := historyBeginsRow.holds Tryz.pinned (OpenSpec.ofChange historyBeginsSpec)

/-- ITS FALSE NEIGHBOUR: 'it returns false'. Refute it at one input. -/
def historyBeginsWrong : ChangeSpec := { name := "historyBegins", fn := fun _ => fun
  | [d1, d2] => { results := [.lit (.bool false)], args := [d1, d2] }
  | _ => none }
def HistoryBeginsWrongFalsely : Prop := historyBeginsRow.holds Tryz.pinned (OpenSpec.ofChange historyBeginsWrong)

/-- 'colanderlaw14.HistoryRuns': WHATEVER THE INPUT: true; the input reads as it did. -/
def historyRunsSpec : ChangeSpec := { name := "historyRuns", fn := fun _ => fun
  | [d1, d2, d3] => { results := [.lit (.bool true)], args := [d1, d2, d3] }
  | _ => none }
def historyRunsRow : OpenClaim := { program := "yteoeggbihfnbfaagreatdoor", sum := "5e6b34aad9c58626c87cf5502fa1144f4fbfb020b49f573a0280737fca76780e", func := "colander/colanderlaw14.HistoryRuns", spec := "historyRuns", unfollowed := true, recurses := true, named := ["unicode/utf8.first", "unicode/utf8.acceptRanges"], apart := false, laid := [("unicode/utf8.acceptRanges", laid_unicode_utf8_acceptRanges), ("unicode/utf8.first", laid_unicode_utf8_first)] }
def HistoryRunsSaid : Prop := historyRunsRow.holds Tryz.pinned (OpenSpec.ofChange historyRunsSpec)

/-- ITS FALSE NEIGHBOUR: 'it returns false'. Refute it at one input. -/
def historyRunsWrong : ChangeSpec := { name := "historyRuns", fn := fun _ => fun
  | [d1, d2, d3] => { results := [.lit (.bool false)], args := [d1, d2, d3] }
  | _ => none }
def HistoryRunsWrongFalsely : Prop := historyRunsRow.holds Tryz.pinned (OpenSpec.ofChange historyRunsWrong)

/- THE SECOND FORM. 'bulk': how many values and letters a reading holds, each counted each time it is reached (what is shared counts as often as it is met; a slice's spare places count too). A statement '..UptoSaid' is the law's where the arguments, and the package variables that the reading takes, are together of bulk at most 1048576: NARROWER than '..Said'. Prove '..Said' where nothing that the law and all that it calls make is longer than what came in: it says more and counts as full. Else prove '..UptoSaid'. A law counts once. -/
mutual
def uptoBulk {H : Type} : DataW H → Nat
  | .lit (.string bytes) => bytes.length + 1
  | .lit _ => 1
  | .nil => 1
  | .ptr d => uptoBulk d + 1
  | .slice elems spare => uptoBulkAll elems + uptoBulkAll spare + 1
  | .agg parts => uptoBulkAll parts + 1
  | .iface _ d => uptoBulk d + 1
  | .map entries => uptoBulkEntries entries + 1
  | .held _ => 1
def uptoBulkAll {H : Type} : List (DataW H) → Nat
  | [] => 0
  | d :: r => uptoBulk d + uptoBulkAll r
def uptoBulkEntries {H : Type} : List (Lit × DataW H) → Nat
  | [] => 0
  | x :: r => uptoBulkEntry x + uptoBulkEntries r
def uptoBulkEntry {H : Type} : Lit × DataW H → Nat
  | (.string bytes, d) => bytes.length + uptoBulk d + 1
  | (_, d) => uptoBulk d + 1
 end
def uptoSmall : (H : Type) → List (DataW H) → Bool := fun _ ds => decide (uptoBulkAll ds ≤ 1048576)
def OpenSpec.upto (s : _root_.Go.ChangeSpec) : _root_.Go.OpenSpec := { _root_.Go.OpenSpec.ofChange s with cond := some uptoSmall }

/-- 'colanderlaw08.VerdictRules', WHERE WHAT IT READS IS OF BULK AT MOST 1048576: true; the input reads as it did. -/
def verdictRulesUptoRow : OpenClaim := { program := "yteoeggbihfnbfaagreatdoor", sum := "5e6b34aad9c58626c87cf5502fa1144f4fbfb020b49f573a0280737fca76780e", func := "colander/colanderlaw08.VerdictRules", spec := "verdictRules", unfollowed := true, recurses := true, named := ["unicode/utf8.first", "unicode/utf8.acceptRanges"], apart := false, laid := [("unicode/utf8.acceptRanges", laid_unicode_utf8_acceptRanges), ("unicode/utf8.first", laid_unicode_utf8_first)], narrowed := true }
def VerdictRulesUptoSaid : Prop := verdictRulesUptoRow.holds Tryz.pinned (OpenSpec.upto verdictRulesSpec)

/-- 'colanderlaw08.VerdictFirst', WHERE WHAT IT READS IS OF BULK AT MOST 1048576: true; the input reads as it did. -/
def verdictFirstUptoRow : OpenClaim := { program := "yteoeggbihfnbfaagreatdoor", sum := "5e6b34aad9c58626c87cf5502fa1144f4fbfb020b49f573a0280737fca76780e", func := "colander/colanderlaw08.VerdictFirst", spec := "verdictFirst", unfollowed := true, recurses := true, named := ["unicode/utf8.first", "unicode/utf8.acceptRanges"], apart := false, laid := [("unicode/utf8.acceptRanges", laid_unicode_utf8_acceptRanges), ("unicode/utf8.first", laid_unicode_utf8_first)], narrowed := true }
def VerdictFirstUptoSaid : Prop := verdictFirstUptoRow.holds Tryz.pinned (OpenSpec.upto verdictFirstSpec)

/-- 'colanderlaw08.VerdictChanges', WHERE WHAT IT READS IS OF BULK AT MOST 1048576: true; the input reads as it did. -/
def verdictChangesUptoRow : OpenClaim := { program := "yteoeggbihfnbfaagreatdoor", sum := "5e6b34aad9c58626c87cf5502fa1144f4fbfb020b49f573a0280737fca76780e", func := "colander/colanderlaw08.VerdictChanges", spec := "verdictChanges", unfollowed := true, recurses := true, named := ["unicode/utf8.first", "unicode/utf8.acceptRanges"], apart := false, laid := [("unicode/utf8.acceptRanges", laid_unicode_utf8_acceptRanges), ("unicode/utf8.first", laid_unicode_utf8_first)], narrowed := true }
def VerdictChangesUptoSaid : Prop := verdictChangesUptoRow.holds Tryz.pinned (OpenSpec.upto verdictChangesSpec)

/-- 'colanderlaw08.VerdictKeeps', WHERE WHAT IT READS IS OF BULK AT MOST 1048576: true; the input reads as it did. -/
def verdictKeepsUptoRow : OpenClaim := { program := "yteoeggbihfnbfaagreatdoor", sum := "5e6b34aad9c58626c87cf5502fa1144f4fbfb020b49f573a0280737fca76780e", func := "colander/colanderlaw08.VerdictKeeps", spec := "verdictKeeps", unfollowed := true, recurses := true, named := ["unicode/utf8.first", "unicode/utf8.acceptRanges"], apart := false, laid := [("unicode/utf8.acceptRanges", laid_unicode_utf8_acceptRanges), ("unicode/utf8.first", laid_unicode_utf8_first)], narrowed := true }
def VerdictKeepsUptoSaid : Prop := verdictKeepsUptoRow.holds Tryz.pinned (OpenSpec.upto verdictKeepsSpec)

/-- 'colanderlaw08.VerdictPuts', WHERE WHAT IT READS IS OF BULK AT MOST 1048576: true; the input reads as it did. -/
def verdictPutsUptoRow : OpenClaim := { program := "yteoeggbihfnbfaagreatdoor", sum := "5e6b34aad9c58626c87cf5502fa1144f4fbfb020b49f573a0280737fca76780e", func := "colander/colanderlaw08.VerdictPuts", spec := "verdictPuts", unfollowed := true, recurses := true, named := ["unicode/utf8.first", "unicode/utf8.acceptRanges"], apart := false, laid := [("unicode/utf8.acceptRanges", laid_unicode_utf8_acceptRanges), ("unicode/utf8.first", laid_unicode_utf8_first)], narrowed := true }
def VerdictPutsUptoSaid : Prop := verdictPutsUptoRow.holds Tryz.pinned (OpenSpec.upto verdictPutsSpec)

/-- 'colanderlaw14.HistoryApart', WHERE WHAT IT READS IS OF BULK AT MOST 1048576: true; the input reads as it did. -/
def historyApartUptoRow : OpenClaim := { program := "yteoeggbihfnbfaagreatdoor", sum := "5e6b34aad9c58626c87cf5502fa1144f4fbfb020b49f573a0280737fca76780e", func := "colander/colanderlaw14.HistoryApart", spec := "historyApart", unfollowed := true, recurses := true, named := ["unicode/utf8.first", "unicode/utf8.acceptRanges"], apart := false, laid := [("unicode/utf8.acceptRanges", laid_unicode_utf8_acceptRanges), ("unicode/utf8.first", laid_unicode_utf8_first)], narrowed := true }
def HistoryApartUptoSaid : Prop := historyApartUptoRow.holds Tryz.pinned (OpenSpec.upto historyApartSpec)

/-- 'colanderlaw14.HistoryGrows', WHERE WHAT IT READS IS OF BULK AT MOST 1048576: true; the input reads as it did. -/
def historyGrowsUptoRow : OpenClaim := { program := "yteoeggbihfnbfaagreatdoor", sum := "5e6b34aad9c58626c87cf5502fa1144f4fbfb020b49f573a0280737fca76780e", func := "colander/colanderlaw14.HistoryGrows", spec := "historyGrows", unfollowed := true, recurses := true, named := ["unicode/utf8.first", "unicode/utf8.acceptRanges"], apart := false, laid := [("unicode/utf8.acceptRanges", laid_unicode_utf8_acceptRanges), ("unicode/utf8.first", laid_unicode_utf8_first)], narrowed := true }
def HistoryGrowsUptoSaid : Prop := historyGrowsUptoRow.holds Tryz.pinned (OpenSpec.upto historyGrowsSpec)

/-- 'colanderlaw14.HistoryTwice', WHERE WHAT IT READS IS OF BULK AT MOST 1048576: true; the input reads as it did. -/
def historyTwiceUptoRow : OpenClaim := { program := "yteoeggbihfnbfaagreatdoor", sum := "5e6b34aad9c58626c87cf5502fa1144f4fbfb020b49f573a0280737fca76780e", func := "colander/colanderlaw14.HistoryTwice", spec := "historyTwice", unfollowed := true, recurses := true, named := ["unicode/utf8.first", "unicode/utf8.acceptRanges"], apart := false, laid := [("unicode/utf8.acceptRanges", laid_unicode_utf8_acceptRanges), ("unicode/utf8.first", laid_unicode_utf8_first)], narrowed := true }
def HistoryTwiceUptoSaid : Prop := historyTwiceUptoRow.holds Tryz.pinned (OpenSpec.upto historyTwiceSpec)

/-- 'colanderlaw14.HistoryOwn', WHERE WHAT IT READS IS OF BULK AT MOST 1048576: true; the input reads as it did. -/
def historyOwnUptoRow : OpenClaim := { program := "yteoeggbihfnbfaagreatdoor", sum := "5e6b34aad9c58626c87cf5502fa1144f4fbfb020b49f573a0280737fca76780e", func := "colander/colanderlaw14.HistoryOwn", spec := "historyOwn", unfollowed := true, recurses := true, named := ["unicode/utf8.first", "unicode/utf8.acceptRanges"], apart := false, laid := [("unicode/utf8.acceptRanges", laid_unicode_utf8_acceptRanges), ("unicode/utf8.first", laid_unicode_utf8_first)], narrowed := true }
def HistoryOwnUptoSaid : Prop := historyOwnUptoRow.holds Tryz.pinned (OpenSpec.upto historyOwnSpec)

/-- 'colanderlaw14.HistoryBegins', WHERE WHAT IT READS IS OF BULK AT MOST 1048576: true; the input reads as it did. -/
def historyBeginsUptoRow : OpenClaim := { program := "yteoeggbihfnbfaagreatdoor", sum := "5e6b34aad9c58626c87cf5502fa1144f4fbfb020b49f573a0280737fca76780e", func := "colander/colanderlaw14.HistoryBegins", spec := "historyBegins", unfollowed := true, recurses := true, named := ["unicode/utf8.first", "unicode/utf8.acceptRanges"], apart := false, laid := [("unicode/utf8.acceptRanges", laid_unicode_utf8_acceptRanges), ("unicode/utf8.first", laid_unicode_utf8_first)], narrowed := true }
def HistoryBeginsUptoSaid : Prop := historyBeginsUptoRow.holds Tryz.pinned (OpenSpec.upto historyBeginsSpec)

/-- 'colanderlaw14.HistoryRuns', WHERE WHAT IT READS IS OF BULK AT MOST 1048576: true; the input reads as it did. -/
def historyRunsUptoRow : OpenClaim := { program := "yteoeggbihfnbfaagreatdoor", sum := "5e6b34aad9c58626c87cf5502fa1144f4fbfb020b49f573a0280737fca76780e", func := "colander/colanderlaw14.HistoryRuns", spec := "historyRuns", unfollowed := true, recurses := true, named := ["unicode/utf8.first", "unicode/utf8.acceptRanges"], apart := false, laid := [("unicode/utf8.acceptRanges", laid_unicode_utf8_acceptRanges), ("unicode/utf8.first", laid_unicode_utf8_first)], narrowed := true }
def HistoryRunsUptoSaid : Prop := historyRunsUptoRow.holds Tryz.pinned (OpenSpec.upto historyRunsSpec)

end Rows
end Go.Proofs.YteoeggbihfnbfaaGreatDoor
