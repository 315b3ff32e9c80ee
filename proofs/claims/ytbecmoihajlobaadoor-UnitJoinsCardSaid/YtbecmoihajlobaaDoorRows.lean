/-
  NARROWER THAN 'FOR EVERY INPUT', by the rows' own cells (each row's printed sentence says how): UnitSplits: laid · UnitParts: laid · UnitTurned: laid · UnitCounts: laid · UnitBack: laid · UnitJoins: laid.
  DERIVED. THE GIVEN ROWS OF THIS SEAT. 6 by the template 'for every input the law returns true; each argument reads behind the call as it read before'; 0 by the template 'total and deterministic' (their statements: YtbecmoihajlobaaDoorTotals.lean).
  GIVEN WITH THE SEED: the statements are not yours to turn. If you find one false, say at which input.
  Laid BY PROGRAM, IN A SANDBOX (cutbox-rows.mjs): the forced cells as the released guide's own fill.sh prints them over the translation f50c68a6852961de… (all of the seat's roots in one cut). By AI agents, Wed Nov 11 2026. No macro, syntax, notation, axiom, sorry.
-/
import Derived.Test.YtbecmoihajlobaaDoorChecked
import GoSem.PinnedTables
import GoSem.Claim
import GoSem.ClaimJoined
import GoSem.ClaimMapViews
import Derived.JoinedTies
import Derived.KernelRfl
namespace Go.Proofs.YtbecmoihajlobaaDoor
/- THE CELL 'sum', in the pinned program and in every row, IS THE sha256 OF THE DUMP (.gsa) THAT YtbecmoihajlobaaDoorProg.lean LOADS. Nothing in Lean hashes anything: it is a label: what it is worth is what the hold of that sum in a sandbox is worth. -/
noncomputable def Tryd.pinned : Pinned := { name := "ytbecmoihajlobaadoor", sum := "f50c68a6852961def43119797353760ad7f05710cbd0709658b35aaf5b8870be", checked := Tryd.checked }
namespace Rows
def none {H : Type} : Left H := { results := [], args := [] }

/- WHAT THE LISTED PACKAGE-LEVEL VARIABLES READ AS WHEN THE CALL BEGINS. Each datum BY PROGRAM (the guide's laid-datum.mjs) off the statement by which the dump's own 'gosem.cut.vars' lays the variable. In a bare row this is a premise. The card (YtbecmoihajlobaaDoorCards.lean) ties it to the program's text. -/
def laid_unicode_utf8_acceptRanges {H : Type} : DataW H := .agg [.agg [.lit (.int .u8 128), .lit (.int .u8 191)], .agg [.lit (.int .u8 160), .lit (.int .u8 191)], .agg [.lit (.int .u8 128), .lit (.int .u8 159)], .agg [.lit (.int .u8 144), .lit (.int .u8 191)], .agg [.lit (.int .u8 128), .lit (.int .u8 143)], .agg [.lit (.int .u8 0), .lit (.int .u8 0)], .agg [.lit (.int .u8 0), .lit (.int .u8 0)], .agg [.lit (.int .u8 0), .lit (.int .u8 0)], .agg [.lit (.int .u8 0), .lit (.int .u8 0)], .agg [.lit (.int .u8 0), .lit (.int .u8 0)], .agg [.lit (.int .u8 0), .lit (.int .u8 0)], .agg [.lit (.int .u8 0), .lit (.int .u8 0)], .agg [.lit (.int .u8 0), .lit (.int .u8 0)], .agg [.lit (.int .u8 0), .lit (.int .u8 0)], .agg [.lit (.int .u8 0), .lit (.int .u8 0)], .agg [.lit (.int .u8 0), .lit (.int .u8 0)]]
/-- One of Go's own tables, pinned by name: the form's constant. -/
def laid_unicode_utf8_first : DataW Unit := Go.Pinned.utf8First

/-- 'colanderlaw01.UnitSplits': WHATEVER THE INPUT: true; the input reads as it did. -/
def unitSplitsSpec : ChangeSpec := { name := "unitSplits", fn := fun _ => fun
  | [d1, d2] => { results := [.lit (.bool true)], args := [d1, d2] }
  | _ => none }
def unitSplitsRow : OpenClaim := { program := "ytbecmoihajlobaadoor", sum := "f50c68a6852961def43119797353760ad7f05710cbd0709658b35aaf5b8870be", func := "colander/colanderlaw01.UnitSplits", spec := "unitSplits", unfollowed := true, recurses := true, named := ["unicode/utf8.first", "unicode/utf8.acceptRanges"], apart := false, laid := [("unicode/utf8.acceptRanges", laid_unicode_utf8_acceptRanges), ("unicode/utf8.first", laid_unicode_utf8_first)] }
def UnitSplitsSaid : Prop := unitSplitsRow.holds Tryd.pinned (OpenSpec.ofChange unitSplitsSpec)

/-- ITS FALSE NEIGHBOUR: 'it returns false'. Refute it at one input. -/
def unitSplitsWrong : ChangeSpec := { name := "unitSplits", fn := fun _ => fun
  | [d1, d2] => { results := [.lit (.bool false)], args := [d1, d2] }
  | _ => none }
def UnitSplitsWrongFalsely : Prop := unitSplitsRow.holds Tryd.pinned (OpenSpec.ofChange unitSplitsWrong)

/-- 'colanderlaw01.UnitParts': WHATEVER THE INPUT: true; the input reads as it did. -/
def unitPartsSpec : ChangeSpec := { name := "unitParts", fn := fun _ => fun
  | [d1, d2, d3] => { results := [.lit (.bool true)], args := [d1, d2, d3] }
  | _ => none }
def unitPartsRow : OpenClaim := { program := "ytbecmoihajlobaadoor", sum := "f50c68a6852961def43119797353760ad7f05710cbd0709658b35aaf5b8870be", func := "colander/colanderlaw01.UnitParts", spec := "unitParts", unfollowed := true, recurses := true, named := ["unicode/utf8.first", "unicode/utf8.acceptRanges"], apart := false, laid := [("unicode/utf8.acceptRanges", laid_unicode_utf8_acceptRanges), ("unicode/utf8.first", laid_unicode_utf8_first)] }
def UnitPartsSaid : Prop := unitPartsRow.holds Tryd.pinned (OpenSpec.ofChange unitPartsSpec)

/-- ITS FALSE NEIGHBOUR: 'it returns false'. Refute it at one input. -/
def unitPartsWrong : ChangeSpec := { name := "unitParts", fn := fun _ => fun
  | [d1, d2, d3] => { results := [.lit (.bool false)], args := [d1, d2, d3] }
  | _ => none }
def UnitPartsWrongFalsely : Prop := unitPartsRow.holds Tryd.pinned (OpenSpec.ofChange unitPartsWrong)

/-- 'colanderlaw01.UnitTurned': WHATEVER THE INPUT: true; the input reads as it did. -/
def unitTurnedSpec : ChangeSpec := { name := "unitTurned", fn := fun _ => fun
  | [d1, d2, d3] => { results := [.lit (.bool true)], args := [d1, d2, d3] }
  | _ => none }
def unitTurnedRow : OpenClaim := { program := "ytbecmoihajlobaadoor", sum := "f50c68a6852961def43119797353760ad7f05710cbd0709658b35aaf5b8870be", func := "colander/colanderlaw01.UnitTurned", spec := "unitTurned", unfollowed := true, recurses := true, named := ["unicode/utf8.first", "unicode/utf8.acceptRanges"], apart := false, laid := [("unicode/utf8.acceptRanges", laid_unicode_utf8_acceptRanges), ("unicode/utf8.first", laid_unicode_utf8_first)] }
def UnitTurnedSaid : Prop := unitTurnedRow.holds Tryd.pinned (OpenSpec.ofChange unitTurnedSpec)

/-- ITS FALSE NEIGHBOUR: 'it returns false'. Refute it at one input. -/
def unitTurnedWrong : ChangeSpec := { name := "unitTurned", fn := fun _ => fun
  | [d1, d2, d3] => { results := [.lit (.bool false)], args := [d1, d2, d3] }
  | _ => none }
def UnitTurnedWrongFalsely : Prop := unitTurnedRow.holds Tryd.pinned (OpenSpec.ofChange unitTurnedWrong)

/-- 'colanderlaw01.UnitCounts': WHATEVER THE INPUT: true; the input reads as it did. -/
def unitCountsSpec : ChangeSpec := { name := "unitCounts", fn := fun _ => fun
  | [d] => { results := [.lit (.bool true)], args := [d] }
  | _ => none }
def unitCountsRow : OpenClaim := { program := "ytbecmoihajlobaadoor", sum := "f50c68a6852961def43119797353760ad7f05710cbd0709658b35aaf5b8870be", func := "colander/colanderlaw01.UnitCounts", spec := "unitCounts", unfollowed := true, recurses := true, named := ["unicode/utf8.first", "unicode/utf8.acceptRanges"], apart := false, laid := [("unicode/utf8.acceptRanges", laid_unicode_utf8_acceptRanges), ("unicode/utf8.first", laid_unicode_utf8_first)] }
def UnitCountsSaid : Prop := unitCountsRow.holds Tryd.pinned (OpenSpec.ofChange unitCountsSpec)

/-- ITS FALSE NEIGHBOUR: 'it returns false'. Refute it at one input. -/
def unitCountsWrong : ChangeSpec := { name := "unitCounts", fn := fun _ => fun
  | [d] => { results := [.lit (.bool false)], args := [d] }
  | _ => none }
def UnitCountsWrongFalsely : Prop := unitCountsRow.holds Tryd.pinned (OpenSpec.ofChange unitCountsWrong)

/-- 'colanderlaw01.UnitBack': WHATEVER THE INPUT: true; the input reads as it did. -/
def unitBackSpec : ChangeSpec := { name := "unitBack", fn := fun _ => fun
  | [d] => { results := [.lit (.bool true)], args := [d] }
  | _ => none }
def unitBackRow : OpenClaim := { program := "ytbecmoihajlobaadoor", sum := "f50c68a6852961def43119797353760ad7f05710cbd0709658b35aaf5b8870be", func := "colander/colanderlaw01.UnitBack", spec := "unitBack", unfollowed := true, recurses := true, named := ["unicode/utf8.first", "unicode/utf8.acceptRanges"], apart := false, laid := [("unicode/utf8.acceptRanges", laid_unicode_utf8_acceptRanges), ("unicode/utf8.first", laid_unicode_utf8_first)] }
def UnitBackSaid : Prop := unitBackRow.holds Tryd.pinned (OpenSpec.ofChange unitBackSpec)

/-- ITS FALSE NEIGHBOUR: 'it returns false'. Refute it at one input. -/
def unitBackWrong : ChangeSpec := { name := "unitBack", fn := fun _ => fun
  | [d] => { results := [.lit (.bool false)], args := [d] }
  | _ => none }
def UnitBackWrongFalsely : Prop := unitBackRow.holds Tryd.pinned (OpenSpec.ofChange unitBackWrong)

/-- 'colanderlaw01.UnitJoins': WHATEVER THE INPUT: true; the input reads as it did. -/
def unitJoinsSpec : ChangeSpec := { name := "unitJoins", fn := fun _ => fun
  | [d] => { results := [.lit (.bool true)], args := [d] }
  | _ => none }
def unitJoinsRow : OpenClaim := { program := "ytbecmoihajlobaadoor", sum := "f50c68a6852961def43119797353760ad7f05710cbd0709658b35aaf5b8870be", func := "colander/colanderlaw01.UnitJoins", spec := "unitJoins", unfollowed := true, recurses := true, named := ["unicode/utf8.first", "unicode/utf8.acceptRanges"], apart := false, laid := [("unicode/utf8.acceptRanges", laid_unicode_utf8_acceptRanges), ("unicode/utf8.first", laid_unicode_utf8_first)] }
def UnitJoinsSaid : Prop := unitJoinsRow.holds Tryd.pinned (OpenSpec.ofChange unitJoinsSpec)

/-- ITS FALSE NEIGHBOUR: 'it returns false'. Refute it at one input. -/
def unitJoinsWrong : ChangeSpec := { name := "unitJoins", fn := fun _ => fun
  | [d] => { results := [.lit (.bool false)], args := [d] }
  | _ => none }
def UnitJoinsWrongFalsely : Prop := unitJoinsRow.holds Tryd.pinned (OpenSpec.ofChange unitJoinsWrong)

/- THE SECOND FORM. 'bulk': how many values and letters a reading holds, each counted each time it is reached (what is shared counts as often as it is met; a slice's spare places count too). A statement '..UptoSaid' is the law's where the arguments, and the package variables that the reading takes, are together of bulk at most 1048576: NARROWER than '..Said'. Prove '..Said' where nothing that the law and all that it calls make is longer than what came in: it says more and counts as full. Else prove '..UptoSaid'. A law counts once. -/
mutual
def uptoBulk {H : Type} : DataW H → Nat
  | .lit (.string bytes) => bytes.length + 1
  | .lit _ => 1
  | .nil => 1
  | .ptr d => uptoBulk d + 1
  | .slice elems spare => uptoBulkAll elems + uptoBulkAll spare + 1
  | .agg parts => uptoBulkAll parts + 1
  | .iface _ d => uptoBulk d + 1
  | .map entries => uptoBulkEntries entries + 1
  | .held _ => 1
def uptoBulkAll {H : Type} : List (DataW H) → Nat
  | [] => 0
  | d :: r => uptoBulk d + uptoBulkAll r
def uptoBulkEntries {H : Type} : List (Lit × DataW H) → Nat
  | [] => 0
  | x :: r => uptoBulkEntry x + uptoBulkEntries r
def uptoBulkEntry {H : Type} : Lit × DataW H → Nat
  | (.string bytes, d) => bytes.length + uptoBulk d + 1
  | (_, d) => uptoBulk d + 1
 end
def uptoSmall : (H : Type) → List (DataW H) → Bool := fun _ ds => decide (uptoBulkAll ds ≤ 1048576)
def OpenSpec.upto (s : _root_.Go.ChangeSpec) : _root_.Go.OpenSpec := { _root_.Go.OpenSpec.ofChange s with cond := some uptoSmall }

/-- 'colanderlaw01.UnitSplits', WHERE WHAT IT READS IS OF BULK AT MOST 1048576: true; the input reads as it did. -/
def unitSplitsUptoRow : OpenClaim := { program := "ytbecmoihajlobaadoor", sum := "f50c68a6852961def43119797353760ad7f05710cbd0709658b35aaf5b8870be", func := "colander/colanderlaw01.UnitSplits", spec := "unitSplits", unfollowed := true, recurses := true, named := ["unicode/utf8.first", "unicode/utf8.acceptRanges"], apart := false, laid := [("unicode/utf8.acceptRanges", laid_unicode_utf8_acceptRanges), ("unicode/utf8.first", laid_unicode_utf8_first)], narrowed := true }
def UnitSplitsUptoSaid : Prop := unitSplitsUptoRow.holds Tryd.pinned (OpenSpec.upto unitSplitsSpec)

/-- 'colanderlaw01.UnitParts', WHERE WHAT IT READS IS OF BULK AT MOST 1048576: true; the input reads as it did. -/
def unitPartsUptoRow : OpenClaim := { program := "ytbecmoihajlobaadoor", sum := "f50c68a6852961def43119797353760ad7f05710cbd0709658b35aaf5b8870be", func := "colander/colanderlaw01.UnitParts", spec := "unitParts", unfollowed := true, recurses := true, named := ["unicode/utf8.first", "unicode/utf8.acceptRanges"], apart := false, laid := [("unicode/utf8.acceptRanges", laid_unicode_utf8_acceptRanges), ("unicode/utf8.first", laid_unicode_utf8_first)], narrowed := true }
def UnitPartsUptoSaid : Prop := unitPartsUptoRow.holds Tryd.pinned (OpenSpec.upto unitPartsSpec)

/-- 'colanderlaw01.UnitTurned', WHERE WHAT IT READS IS OF BULK AT MOST 1048576: true; the input reads as it did. -/
def unitTurnedUptoRow : OpenClaim := { program := "ytbecmoihajlobaadoor", sum := "f50c68a6852961def43119797353760ad7f05710cbd0709658b35aaf5b8870be", func := "colander/colanderlaw01.UnitTurned", spec := "unitTurned", unfollowed := true, recurses := true, named := ["unicode/utf8.first", "unicode/utf8.acceptRanges"], apart := false, laid := [("unicode/utf8.acceptRanges", laid_unicode_utf8_acceptRanges), ("unicode/utf8.first", laid_unicode_utf8_first)], narrowed := true }
def UnitTurnedUptoSaid : Prop := unitTurnedUptoRow.holds Tryd.pinned (OpenSpec.upto unitTurnedSpec)

/-- 'colanderlaw01.UnitCounts', WHERE WHAT IT READS IS OF BULK AT MOST 1048576: true; the input reads as it did. -/
def unitCountsUptoRow : OpenClaim := { program := "ytbecmoihajlobaadoor", sum := "f50c68a6852961def43119797353760ad7f05710cbd0709658b35aaf5b8870be", func := "colander/colanderlaw01.UnitCounts", spec := "unitCounts", unfollowed := true, recurses := true, named := ["unicode/utf8.first", "unicode/utf8.acceptRanges"], apart := false, laid := [("unicode/utf8.acceptRanges", laid_unicode_utf8_acceptRanges), ("unicode/utf8.first", laid_unicode_utf8_first)], narrowed := true }
def UnitCountsUptoSaid : Prop := unitCountsUptoRow.holds Tryd.pinned (OpenSpec.upto unitCountsSpec)

/-- 'colanderlaw01.UnitBack', WHERE WHAT IT READS IS OF BULK AT MOST 1048576: true; the input reads as it did. -/
def unitBackUptoRow : OpenClaim := { program := "ytbecmoihajlobaadoor", sum := "f50c68a6852961def43119797353760ad7f05710cbd0709658b35aaf5b8870be", func := "colander/colanderlaw01.UnitBack", spec := "unitBack", unfollowed := true, recurses := true, named := ["unicode/utf8.first", "unicode/utf8.acceptRanges"], apart := false, laid := [("unicode/utf8.acceptRanges", laid_unicode_utf8_acceptRanges), ("unicode/utf8.first", laid_unicode_utf8_first)], narrowed := true }
def UnitBackUptoSaid : Prop := unitBackUptoRow.holds Tryd.pinned (OpenSpec.upto unitBackSpec)

/-- 'colanderlaw01.UnitJoins', WHERE WHAT IT READS IS OF BULK AT MOST 1048576: true; the input reads as it did. -/
def unitJoinsUptoRow : OpenClaim := { program := "ytbecmoihajlobaadoor", sum := "f50c68a6852961def43119797353760ad7f05710cbd0709658b35aaf5b8870be", func := "colander/colanderlaw01.UnitJoins", spec := "unitJoins", unfollowed := true, recurses := true, named := ["unicode/utf8.first", "unicode/utf8.acceptRanges"], apart := false, laid := [("unicode/utf8.acceptRanges", laid_unicode_utf8_acceptRanges), ("unicode/utf8.first", laid_unicode_utf8_first)], narrowed := true }
def UnitJoinsUptoSaid : Prop := unitJoinsUptoRow.holds Tryd.pinned (OpenSpec.upto unitJoinsSpec)

end Rows
end Go.Proofs.YtbecmoihajlobaaDoor
