/-
  NARROWER THAN 'FOR EVERY INPUT', by the rows' own cells (each row's printed sentence says how): JudgeAgrees: laid · JudgeStable: laid · JudgeCommon: laid · JudgeSets: laid · JudgeSelf: laid · JudgeChain: laid · JudgeKept: laid.
  DERIVED. THE GIVEN ROWS OF THIS SEAT. 7 by the template 'for every input the law returns true; each argument reads behind the call as it read before'; 0 by the template 'total and deterministic' (their statements: YtiigbcahdaoedaaGreatDoorTotals.lean).
  GIVEN WITH THE SEED: the statements are not yours to turn. If you find one false, say at which input.
  Laid BY PROGRAM, IN A SANDBOX (cutbox-rows.mjs): the forced cells as the released guide's own fill.sh prints them over the translation 92cb63543f483fdb… (all of the seat's roots in one cut). By AI agents, Wed Nov 11 2026. No macro, syntax, notation, axiom, sorry.
-/
import Derived.Test.YtiigbcahdaoedaaGreatDoorChecked
import GoSem.PinnedTables
import GoSem.Claim
import GoSem.ClaimJoined
import GoSem.ClaimMapViews
import Derived.JoinedTies
import Derived.KernelRfl
namespace Go.Proofs.YtiigbcahdaoedaaGreatDoor
/- THE CELL 'sum', in the pinned program and in every row, IS THE sha256 OF THE DUMP (.gsa) THAT YtiigbcahdaoedaaGreatDoorProg.lean LOADS. Nothing in Lean hashes anything: it is a label: what it is worth is what the hold of that sum in a sandbox is worth. -/
noncomputable def Tryz.pinned : Pinned := { name := "ytiigbcahdaoedaagreatdoor", sum := "92cb63543f483fdba59c00d9e6537742085b07dac989bd4ea504f0c92d4255ff", checked := Tryz.checked }
namespace Rows
def none {H : Type} : Left H := { results := [], args := [] }

/- WHAT THE LISTED PACKAGE-LEVEL VARIABLES READ AS WHEN THE CALL BEGINS. Each datum BY PROGRAM (the guide's laid-datum.mjs) off the statement by which the dump's own 'gosem.cut.vars' lays the variable. In a bare row this is a premise. The card (YtiigbcahdaoedaaGreatDoorCards.lean) ties it to the program's text. -/
def laid_unicode_utf8_acceptRanges {H : Type} : DataW H := .agg [.agg [.lit (.int .u8 128), .lit (.int .u8 191)], .agg [.lit (.int .u8 160), .lit (.int .u8 191)], .agg [.lit (.int .u8 128), .lit (.int .u8 159)], .agg [.lit (.int .u8 144), .lit (.int .u8 191)], .agg [.lit (.int .u8 128), .lit (.int .u8 143)], .agg [.lit (.int .u8 0), .lit (.int .u8 0)], .agg [.lit (.int .u8 0), .lit (.int .u8 0)], .agg [.lit (.int .u8 0), .lit (.int .u8 0)], .agg [.lit (.int .u8 0), .lit (.int .u8 0)], .agg [.lit (.int .u8 0), .lit (.int .u8 0)], .agg [.lit (.int .u8 0), .lit (.int .u8 0)], .agg [.lit (.int .u8 0), .lit (.int .u8 0)], .agg [.lit (.int .u8 0), .lit (.int .u8 0)], .agg [.lit (.int .u8 0), .lit (.int .u8 0)], .agg [.lit (.int .u8 0), .lit (.int .u8 0)], .agg [.lit (.int .u8 0), .lit (.int .u8 0)]]
/-- One of Go's own tables, pinned by name: the form's constant. -/
def laid_unicode_utf8_first : DataW Unit := Go.Pinned.utf8First

/-- 'colanderlaw19.JudgeAgrees': WHATEVER THE INPUT: true; the input reads as it did. -/
def judgeAgreesSpec : ChangeSpec := { name := "judgeAgrees", fn := fun _ => fun
  | [d] => { results := [.lit (.bool true)], args := [d] }
  | _ => none }
def judgeAgreesRow : OpenClaim := { program := "ytiigbcahdaoedaagreatdoor", sum := "92cb63543f483fdba59c00d9e6537742085b07dac989bd4ea504f0c92d4255ff", func := "colander/colanderlaw19.JudgeAgrees", spec := "judgeAgrees", unfollowed := true, recurses := true, named := ["unicode/utf8.first", "unicode/utf8.acceptRanges"], apart := false, laid := [("unicode/utf8.acceptRanges", laid_unicode_utf8_acceptRanges), ("unicode/utf8.first", laid_unicode_utf8_first)] }
def JudgeAgreesSaid : Prop := judgeAgreesRow.holds Tryz.pinned (OpenSpec.ofChange judgeAgreesSpec)

/-- ITS FALSE NEIGHBOUR: 'it returns false'. Refute it at one input. -/
def judgeAgreesWrong : ChangeSpec := { name := "judgeAgrees", fn := fun _ => fun
  | [d] => { results := [.lit (.bool false)], args := [d] }
  | _ => none }
def JudgeAgreesWrongFalsely : Prop := judgeAgreesRow.holds Tryz.pinned (OpenSpec.ofChange judgeAgreesWrong)

/-- 'colanderlaw19.JudgeStable': WHATEVER THE INPUT: true; the input reads as it did. -/
def judgeStableSpec : ChangeSpec := { name := "judgeStable", fn := fun _ => fun
  | [d1, d2] => { results := [.lit (.bool true)], args := [d1, d2] }
  | _ => none }
def judgeStableRow : OpenClaim := { program := "ytiigbcahdaoedaagreatdoor", sum := "92cb63543f483fdba59c00d9e6537742085b07dac989bd4ea504f0c92d4255ff", func := "colander/colanderlaw19.JudgeStable", spec := "judgeStable", unfollowed := true, recurses := true, named := ["unicode/utf8.first", "unicode/utf8.acceptRanges"], apart := false, laid := [("unicode/utf8.acceptRanges", laid_unicode_utf8_acceptRanges), ("unicode/utf8.first", laid_unicode_utf8_first)] }
def JudgeStableSaid : Prop := judgeStableRow.holds Tryz.pinned (OpenSpec.ofChange judgeStableSpec)

/-- ITS FALSE NEIGHBOUR: 'it returns false'. Refute it at one input. -/
def judgeStableWrong : ChangeSpec := { name := "judgeStable", fn := fun _ => fun
  | [d1, d2] => { results := [.lit (.bool false)], args := [d1, d2] }
  | _ => none }
def JudgeStableWrongFalsely : Prop := judgeStableRow.holds Tryz.pinned (OpenSpec.ofChange judgeStableWrong)

/-- 'colanderlaw19.JudgeCommon': WHATEVER THE INPUT: true; the input reads as it did. -/
def judgeCommonSpec : ChangeSpec := { name := "judgeCommon", fn := fun _ => fun
  | [d] => { results := [.lit (.bool true)], args := [d] }
  | _ => none }
def judgeCommonRow : OpenClaim := { program := "ytiigbcahdaoedaagreatdoor", sum := "92cb63543f483fdba59c00d9e6537742085b07dac989bd4ea504f0c92d4255ff", func := "colander/colanderlaw19.JudgeCommon", spec := "judgeCommon", unfollowed := true, recurses := true, named := ["unicode/utf8.first", "unicode/utf8.acceptRanges"], apart := false, laid := [("unicode/utf8.acceptRanges", laid_unicode_utf8_acceptRanges), ("unicode/utf8.first", laid_unicode_utf8_first)] }
def JudgeCommonSaid : Prop := judgeCommonRow.holds Tryz.pinned (OpenSpec.ofChange judgeCommonSpec)

/-- ITS FALSE NEIGHBOUR: 'it returns false'. Refute it at one input. -/
def judgeCommonWrong : ChangeSpec := { name := "judgeCommon", fn := fun _ => fun
  | [d] => { results := [.lit (.bool false)], args := [d] }
  | _ => none }
def JudgeCommonWrongFalsely : Prop := judgeCommonRow.holds Tryz.pinned (OpenSpec.ofChange judgeCommonWrong)

/-- 'colanderlaw19.JudgeSets': WHATEVER THE INPUT: true; the input reads as it did. -/
def judgeSetsSpec : ChangeSpec := { name := "judgeSets", fn := fun _ => fun
  | [d] => { results := [.lit (.bool true)], args := [d] }
  | _ => none }
def judgeSetsRow : OpenClaim := { program := "ytiigbcahdaoedaagreatdoor", sum := "92cb63543f483fdba59c00d9e6537742085b07dac989bd4ea504f0c92d4255ff", func := "colander/colanderlaw19.JudgeSets", spec := "judgeSets", unfollowed := true, recurses := true, named := ["unicode/utf8.first", "unicode/utf8.acceptRanges"], apart := false, laid := [("unicode/utf8.acceptRanges", laid_unicode_utf8_acceptRanges), ("unicode/utf8.first", laid_unicode_utf8_first)] }
def JudgeSetsSaid : Prop := judgeSetsRow.holds Tryz.pinned (OpenSpec.ofChange judgeSetsSpec)

/-- ITS FALSE NEIGHBOUR: 'it returns false'. Refute it at one input. -/
def judgeSetsWrong : ChangeSpec := { name := "judgeSets", fn := fun _ => fun
  | [d] => { results := [.lit (.bool false)], args := [d] }
  | _ => none }
def JudgeSetsWrongFalsely : Prop := judgeSetsRow.holds Tryz.pinned (OpenSpec.ofChange judgeSetsWrong)

/-- 'colanderlaw19.JudgeSelf': WHATEVER THE INPUT: true; the input reads as it did. -/
def judgeSelfSpec : ChangeSpec := { name := "judgeSelf", fn := fun _ => fun
  | [d1, d2] => { results := [.lit (.bool true)], args := [d1, d2] }
  | _ => none }
def judgeSelfRow : OpenClaim := { program := "ytiigbcahdaoedaagreatdoor", sum := "92cb63543f483fdba59c00d9e6537742085b07dac989bd4ea504f0c92d4255ff", func := "colander/colanderlaw19.JudgeSelf", spec := "judgeSelf", unfollowed := true, recurses := true, named := ["unicode/utf8.first", "unicode/utf8.acceptRanges"], apart := false, laid := [("unicode/utf8.acceptRanges", laid_unicode_utf8_acceptRanges), ("unicode/utf8.first", laid_unicode_utf8_first)] }
def JudgeSelfSaid : Prop := judgeSelfRow.holds Tryz.pinned (OpenSpec.ofChange judgeSelfSpec)

/-- ITS FALSE NEIGHBOUR: 'it returns false'. Refute it at one input. -/
def judgeSelfWrong : ChangeSpec := { name := "judgeSelf", fn := fun _ => fun
  | [d1, d2] => { results := [.lit (.bool false)], args := [d1, d2] }
  | _ => none }
def JudgeSelfWrongFalsely : Prop := judgeSelfRow.holds Tryz.pinned (OpenSpec.ofChange judgeSelfWrong)

/-- 'colanderlaw19.JudgeChain': WHATEVER THE INPUT: true; the input reads as it did. -/
def judgeChainSpec : ChangeSpec := { name := "judgeChain", fn := fun _ => fun
  | [d1, d2, d3] => { results := [.lit (.bool true)], args := [d1, d2, d3] }
  | _ => none }
def judgeChainRow : OpenClaim := { program := "ytiigbcahdaoedaagreatdoor", sum := "92cb63543f483fdba59c00d9e6537742085b07dac989bd4ea504f0c92d4255ff", func := "colander/colanderlaw19.JudgeChain", spec := "judgeChain", unfollowed := true, recurses := true, named := ["unicode/utf8.first", "unicode/utf8.acceptRanges"], apart := false, laid := [("unicode/utf8.acceptRanges", laid_unicode_utf8_acceptRanges), ("unicode/utf8.first", laid_unicode_utf8_first)] }
def JudgeChainSaid : Prop := judgeChainRow.holds Tryz.pinned (OpenSpec.ofChange judgeChainSpec)

/-- ITS FALSE NEIGHBOUR: 'it returns false'. Refute it at one input. -/
def judgeChainWrong : ChangeSpec := { name := "judgeChain", fn := fun _ => fun
  | [d1, d2, d3] => { results := [.lit (.bool false)], args := [d1, d2, d3] }
  | _ => none }
def JudgeChainWrongFalsely : Prop := judgeChainRow.holds Tryz.pinned (OpenSpec.ofChange judgeChainWrong)

/-- 'colanderlaw19.JudgeKept': WHATEVER THE INPUT: true; the input reads as it did. -/
def judgeKeptSpec : ChangeSpec := { name := "judgeKept", fn := fun _ => fun
  | [d1, d2] => { results := [.lit (.bool true)], args := [d1, d2] }
  | _ => none }
def judgeKeptRow : OpenClaim := { program := "ytiigbcahdaoedaagreatdoor", sum := "92cb63543f483fdba59c00d9e6537742085b07dac989bd4ea504f0c92d4255ff", func := "colander/colanderlaw19.JudgeKept", spec := "judgeKept", unfollowed := true, recurses := true, named := ["unicode/utf8.first", "unicode/utf8.acceptRanges"], apart := false, laid := [("unicode/utf8.acceptRanges", laid_unicode_utf8_acceptRanges), ("unicode/utf8.first", laid_unicode_utf8_first)] }
def JudgeKeptSaid : Prop := judgeKeptRow.holds Tryz.pinned (OpenSpec.ofChange judgeKeptSpec)

/-- ITS FALSE NEIGHBOUR: 'it returns false'. Refute it at one input. -/
def judgeKeptWrong : ChangeSpec := { name := "judgeKept", fn := fun _ => fun
  | [d1, d2] => { results := [.lit (.bool false)], args := [d1, d2] }
  | _ => none }
def JudgeKeptWrongFalsely : Prop := judgeKeptRow.holds Tryz.pinned (OpenSpec.ofChange judgeKeptWrong)

/- THE SECOND FORM. 'bulk': how many values and letters a reading holds, each counted each time it is reached (what is shared counts as often as it is met; a slice's spare places count too). A statement '..UptoSaid' is the law's where the arguments, and the package variables that the reading takes, are together of bulk at most 1048576: NARROWER than '..Said'. Prove '..Said' where nothing that the law and all that it calls make is longer than what came in: it says more and counts as full. Else prove '..UptoSaid'. A law counts once. -/
mutual
def uptoBulk {H : Type} : DataW H → Nat
  | .lit (.string bytes) => bytes.length + 1
  | .lit _ => 1
  | .nil => 1
  | .ptr d => uptoBulk d + 1
  | .slice elems spare => uptoBulkAll elems + uptoBulkAll spare + 1
  | .agg parts => uptoBulkAll parts + 1
  | .iface _ d => uptoBulk d + 1
  | .map entries => uptoBulkEntries entries + 1
  | .held _ => 1
def uptoBulkAll {H : Type} : List (DataW H) → Nat
  | [] => 0
  | d :: r => uptoBulk d + uptoBulkAll r
def uptoBulkEntries {H : Type} : List (Lit × DataW H) → Nat
  | [] => 0
  | x :: r => uptoBulkEntry x + uptoBulkEntries r
def uptoBulkEntry {H : Type} : Lit × DataW H → Nat
  | (.string bytes, d) => bytes.length + uptoBulk d + 1
  | (_, d) => uptoBulk d + 1
 end
def uptoSmall : (H : Type) → List (DataW H) → Bool := fun _ ds => decide (uptoBulkAll ds ≤ 1048576)
def OpenSpec.upto (s : _root_.Go.ChangeSpec) : _root_.Go.OpenSpec := { _root_.Go.OpenSpec.ofChange s with cond := some uptoSmall }

/-- 'colanderlaw19.JudgeAgrees', WHERE WHAT IT READS IS OF BULK AT MOST 1048576: true; the input reads as it did. -/
def judgeAgreesUptoRow : OpenClaim := { program := "ytiigbcahdaoedaagreatdoor", sum := "92cb63543f483fdba59c00d9e6537742085b07dac989bd4ea504f0c92d4255ff", func := "colander/colanderlaw19.JudgeAgrees", spec := "judgeAgrees", unfollowed := true, recurses := true, named := ["unicode/utf8.first", "unicode/utf8.acceptRanges"], apart := false, laid := [("unicode/utf8.acceptRanges", laid_unicode_utf8_acceptRanges), ("unicode/utf8.first", laid_unicode_utf8_first)], narrowed := true }
def JudgeAgreesUptoSaid : Prop := judgeAgreesUptoRow.holds Tryz.pinned (OpenSpec.upto judgeAgreesSpec)

/-- 'colanderlaw19.JudgeStable', WHERE WHAT IT READS IS OF BULK AT MOST 1048576: true; the input reads as it did. -/
def judgeStableUptoRow : OpenClaim := { program := "ytiigbcahdaoedaagreatdoor", sum := "92cb63543f483fdba59c00d9e6537742085b07dac989bd4ea504f0c92d4255ff", func := "colander/colanderlaw19.JudgeStable", spec := "judgeStable", unfollowed := true, recurses := true, named := ["unicode/utf8.first", "unicode/utf8.acceptRanges"], apart := false, laid := [("unicode/utf8.acceptRanges", laid_unicode_utf8_acceptRanges), ("unicode/utf8.first", laid_unicode_utf8_first)], narrowed := true }
def JudgeStableUptoSaid : Prop := judgeStableUptoRow.holds Tryz.pinned (OpenSpec.upto judgeStableSpec)

/-- 'colanderlaw19.JudgeCommon', WHERE WHAT IT READS IS OF BULK AT MOST 1048576: true; the input reads as it did. -/
def judgeCommonUptoRow : OpenClaim := { program := "ytiigbcahdaoedaagreatdoor", sum := "92cb63543f483fdba59c00d9e6537742085b07dac989bd4ea504f0c92d4255ff", func := "colander/colanderlaw19.JudgeCommon", spec := "judgeCommon", unfollowed := true, recurses := true, named := ["unicode/utf8.first", "unicode/utf8.acceptRanges"], apart := false, laid := [("unicode/utf8.acceptRanges", laid_unicode_utf8_acceptRanges), ("unicode/utf8.first", laid_unicode_utf8_first)], narrowed := true }
def JudgeCommonUptoSaid : Prop := judgeCommonUptoRow.holds Tryz.pinned (OpenSpec.upto judgeCommonSpec)

/-- 'colanderlaw19.JudgeSets', WHERE WHAT IT READS IS OF BULK AT MOST 1048576: true; the input reads as it did. -/
def judgeSetsUptoRow : OpenClaim := { program := "ytiigbcahdaoedaagreatdoor", sum := "92cb63543f483fdba59c00d9e6537742085b07dac989bd4ea504f0c92d4255ff", func := "colander/colanderlaw19.JudgeSets", spec := "judgeSets", unfollowed := true, recurses := true, named := ["unicode/utf8.first", "unicode/utf8.acceptRanges"], apart := false, laid := [("unicode/utf8.acceptRanges", laid_unicode_utf8_acceptRanges), ("unicode/utf8.first", laid_unicode_utf8_first)], narrowed := true }
def JudgeSetsUptoSaid : Prop := judgeSetsUptoRow.holds Tryz.pinned (OpenSpec.upto judgeSetsSpec)

/-- 'colanderlaw19.JudgeSelf', WHERE WHAT IT READS IS OF BULK AT MOST 1048576: true; the input reads as it did. -/
def judgeSelfUptoRow : OpenClaim := { program := "ytiigbcahdaoedaagreatdoor", sum := "92cb63543f483fdba59c00d9e6537742085b07dac989bd4ea504f0c92d4255ff", func := "colander/colanderlaw19.JudgeSelf", spec := "judgeSelf", unfollowed := true, recurses := true, named := ["unicode/utf8.first", "unicode/utf8.acceptRanges"], apart := false, laid := [("unicode/utf8.acceptRanges", laid_unicode_utf8_acceptRanges), ("unicode/utf8.first", laid_unicode_utf8_first)], narrowed := true }
def JudgeSelfUptoSaid : Prop := judgeSelfUptoRow.holds Tryz.pinned (OpenSpec.upto judgeSelfSpec)

/-- 'colanderlaw19.JudgeChain', WHERE WHAT IT READS IS OF BULK AT MOST 1048576: true; the input reads as it did. -/
def judgeChainUptoRow : OpenClaim := { program := "ytiigbcahdaoedaagreatdoor", sum := "92cb63543f483fdba59c00d9e6537742085b07dac989bd4ea504f0c92d4255ff", func := "colander/colanderlaw19.JudgeChain", spec := "judgeChain", unfollowed := true, recurses := true, named := ["unicode/utf8.first", "unicode/utf8.acceptRanges"], apart := false, laid := [("unicode/utf8.acceptRanges", laid_unicode_utf8_acceptRanges), ("unicode/utf8.first", laid_unicode_utf8_first)], narrowed := true }
def JudgeChainUptoSaid : Prop := judgeChainUptoRow.holds Tryz.pinned (OpenSpec.upto judgeChainSpec)

/-- 'colanderlaw19.JudgeKept', WHERE WHAT IT READS IS OF BULK AT MOST 1048576: true; the input reads as it did. -/
def judgeKeptUptoRow : OpenClaim := { program := "ytiigbcahdaoedaagreatdoor", sum := "92cb63543f483fdba59c00d9e6537742085b07dac989bd4ea504f0c92d4255ff", func := "colander/colanderlaw19.JudgeKept", spec := "judgeKept", unfollowed := true, recurses := true, named := ["unicode/utf8.first", "unicode/utf8.acceptRanges"], apart := false, laid := [("unicode/utf8.acceptRanges", laid_unicode_utf8_acceptRanges), ("unicode/utf8.first", laid_unicode_utf8_first)], narrowed := true }
def JudgeKeptUptoSaid : Prop := judgeKeptUptoRow.holds Tryz.pinned (OpenSpec.upto judgeKeptSpec)

end Rows
end Go.Proofs.YtiigbcahdaoedaaGreatDoor
