/-
  No cell of these rows narrows 'for every input' (looked for: loops, veiled, ifaces, maps, wideKeys, modest, calm, conditions, laid).
  DERIVED. THE GIVEN ROWS OF THIS SEAT. 7 by the template 'for every input the law returns true; each argument reads behind the call as it read before'; 0 by the template 'total and deterministic' (their statements: YtbmmhbpalkepeaaTotals.lean).
  GIVEN WITH THE SEED: the statements are not yours to turn. If you find one false, say at which input.
  Laid BY PROGRAM, IN A SANDBOX (cutbox-rows.mjs): the forced cells as the released guide's own fill.sh prints them over the translation 1f8e97b463cfc556… (all of the seat's roots in one cut). By AI agents, Wed Nov 11 2026. No macro, syntax, notation, axiom, sorry.
-/
import Derived.Test.YtbmmhbpalkepeaaChecked
import GoSem.Claim
import GoSem.ClaimJoined
import GoSem.ClaimMapViews
import Derived.JoinedTies
import Derived.KernelRfl
namespace Go.Proofs.Ytbmmhbpalkepeaa
/- THE CELL 'sum', in the pinned program and in every row, IS THE sha256 OF THE DUMP (.gsa) THAT YtbmmhbpalkepeaaProg.lean LOADS. Nothing in Lean hashes anything: it is a label: what it is worth is what the hold of that sum in a sandbox is worth. -/
noncomputable def Try.pinned : Pinned := { name := "ytbmmhbpalkepeaa", sum := "1f8e97b463cfc556553211c24f8f67b848c9467857a1350f622cb6e1cb42490e", checked := Try.checked }
namespace Rows
def none {H : Type} : Left H := { results := [], args := [] }

/-- 'colanderlaw07.RuleTwice': WHATEVER THE INPUT: true; the input reads as it did. -/
def ruleTwiceSpec : ChangeSpec := { name := "ruleTwice", fn := fun _ => fun
  | [d1, d2, d3] => { results := [.lit (.bool true)], args := [d1, d2, d3] }
  | _ => none }
def ruleTwiceRow : OpenClaim := { program := "ytbmmhbpalkepeaa", sum := "1f8e97b463cfc556553211c24f8f67b848c9467857a1350f622cb6e1cb42490e", func := "colander/colanderlaw07.RuleTwice", spec := "ruleTwice", unfollowed := true, recurses := true, apart := false }
def RuleTwiceSaid : Prop := ruleTwiceRow.holds Try.pinned (OpenSpec.ofChange ruleTwiceSpec)

/-- ITS FALSE NEIGHBOUR: 'it returns false'. Refute it at one input. -/
def ruleTwiceWrong : ChangeSpec := { name := "ruleTwice", fn := fun _ => fun
  | [d1, d2, d3] => { results := [.lit (.bool false)], args := [d1, d2, d3] }
  | _ => none }
def RuleTwiceWrongFalsely : Prop := ruleTwiceRow.holds Try.pinned (OpenSpec.ofChange ruleTwiceWrong)

/-- 'colanderlaw07.RuleOwn': WHATEVER THE INPUT: true; the input reads as it did. -/
def ruleOwnSpec : ChangeSpec := { name := "ruleOwn", fn := fun _ => fun
  | [d1, d2] => { results := [.lit (.bool true)], args := [d1, d2] }
  | _ => none }
def ruleOwnRow : OpenClaim := { program := "ytbmmhbpalkepeaa", sum := "1f8e97b463cfc556553211c24f8f67b848c9467857a1350f622cb6e1cb42490e", func := "colander/colanderlaw07.RuleOwn", spec := "ruleOwn", unfollowed := true, recurses := true, apart := false }
def RuleOwnSaid : Prop := ruleOwnRow.holds Try.pinned (OpenSpec.ofChange ruleOwnSpec)

/-- ITS FALSE NEIGHBOUR: 'it returns false'. Refute it at one input. -/
def ruleOwnWrong : ChangeSpec := { name := "ruleOwn", fn := fun _ => fun
  | [d1, d2] => { results := [.lit (.bool false)], args := [d1, d2] }
  | _ => none }
def RuleOwnWrongFalsely : Prop := ruleOwnRow.holds Try.pinned (OpenSpec.ofChange ruleOwnWrong)

/-- 'colanderlaw07.RuleKeeps': WHATEVER THE INPUT: true; the input reads as it did. -/
def ruleKeepsSpec : ChangeSpec := { name := "ruleKeeps", fn := fun _ => fun
  | [d] => { results := [.lit (.bool true)], args := [d] }
  | _ => none }
def ruleKeepsRow : OpenClaim := { program := "ytbmmhbpalkepeaa", sum := "1f8e97b463cfc556553211c24f8f67b848c9467857a1350f622cb6e1cb42490e", func := "colander/colanderlaw07.RuleKeeps", spec := "ruleKeeps", unfollowed := true, recurses := true, apart := false }
def RuleKeepsSaid : Prop := ruleKeepsRow.holds Try.pinned (OpenSpec.ofChange ruleKeepsSpec)

/-- ITS FALSE NEIGHBOUR: 'it returns false'. Refute it at one input. -/
def ruleKeepsWrong : ChangeSpec := { name := "ruleKeeps", fn := fun _ => fun
  | [d] => { results := [.lit (.bool false)], args := [d] }
  | _ => none }
def RuleKeepsWrongFalsely : Prop := ruleKeepsRow.holds Try.pinned (OpenSpec.ofChange ruleKeepsWrong)

/-- 'colanderlaw07.RuleApplies': WHATEVER THE INPUT: true; the input reads as it did. -/
def ruleAppliesSpec : ChangeSpec := { name := "ruleApplies", fn := fun _ => fun
  | [d1, d2, d3] => { results := [.lit (.bool true)], args := [d1, d2, d3] }
  | _ => none }
def ruleAppliesRow : OpenClaim := { program := "ytbmmhbpalkepeaa", sum := "1f8e97b463cfc556553211c24f8f67b848c9467857a1350f622cb6e1cb42490e", func := "colander/colanderlaw07.RuleApplies", spec := "ruleApplies", unfollowed := true, recurses := true, apart := false }
def RuleAppliesSaid : Prop := ruleAppliesRow.holds Try.pinned (OpenSpec.ofChange ruleAppliesSpec)

/-- ITS FALSE NEIGHBOUR: 'it returns false'. Refute it at one input. -/
def ruleAppliesWrong : ChangeSpec := { name := "ruleApplies", fn := fun _ => fun
  | [d1, d2, d3] => { results := [.lit (.bool false)], args := [d1, d2, d3] }
  | _ => none }
def RuleAppliesWrongFalsely : Prop := ruleAppliesRow.holds Try.pinned (OpenSpec.ofChange ruleAppliesWrong)

/-- 'colanderlaw07.RuleDrops': WHATEVER THE INPUT: true; the input reads as it did. -/
def ruleDropsSpec : ChangeSpec := { name := "ruleDrops", fn := fun _ => fun
  | [d1, d2] => { results := [.lit (.bool true)], args := [d1, d2] }
  | _ => none }
def ruleDropsRow : OpenClaim := { program := "ytbmmhbpalkepeaa", sum := "1f8e97b463cfc556553211c24f8f67b848c9467857a1350f622cb6e1cb42490e", func := "colander/colanderlaw07.RuleDrops", spec := "ruleDrops", unfollowed := true, recurses := true, apart := false }
def RuleDropsSaid : Prop := ruleDropsRow.holds Try.pinned (OpenSpec.ofChange ruleDropsSpec)

/-- ITS FALSE NEIGHBOUR: 'it returns false'. Refute it at one input. -/
def ruleDropsWrong : ChangeSpec := { name := "ruleDrops", fn := fun _ => fun
  | [d1, d2] => { results := [.lit (.bool false)], args := [d1, d2] }
  | _ => none }
def RuleDropsWrongFalsely : Prop := ruleDropsRow.holds Try.pinned (OpenSpec.ofChange ruleDropsWrong)

/-- 'colanderlaw07.RuleDiffs': WHATEVER THE INPUT: true; the input reads as it did. -/
def ruleDiffsSpec : ChangeSpec := { name := "ruleDiffs", fn := fun _ => fun
  | [d1, d2] => { results := [.lit (.bool true)], args := [d1, d2] }
  | _ => none }
def ruleDiffsRow : OpenClaim := { program := "ytbmmhbpalkepeaa", sum := "1f8e97b463cfc556553211c24f8f67b848c9467857a1350f622cb6e1cb42490e", func := "colander/colanderlaw07.RuleDiffs", spec := "ruleDiffs", unfollowed := true, recurses := true, apart := false }
def RuleDiffsSaid : Prop := ruleDiffsRow.holds Try.pinned (OpenSpec.ofChange ruleDiffsSpec)

/-- ITS FALSE NEIGHBOUR: 'it returns false'. Refute it at one input. -/
def ruleDiffsWrong : ChangeSpec := { name := "ruleDiffs", fn := fun _ => fun
  | [d1, d2] => { results := [.lit (.bool false)], args := [d1, d2] }
  | _ => none }
def RuleDiffsWrongFalsely : Prop := ruleDiffsRow.holds Try.pinned (OpenSpec.ofChange ruleDiffsWrong)

/-- 'colanderlaw07.RuleOrders': WHATEVER THE INPUT: true; the input reads as it did. -/
def ruleOrdersSpec : ChangeSpec := { name := "ruleOrders", fn := fun _ => fun
  | [d1, d2] => { results := [.lit (.bool true)], args := [d1, d2] }
  | _ => none }
def ruleOrdersRow : OpenClaim := { program := "ytbmmhbpalkepeaa", sum := "1f8e97b463cfc556553211c24f8f67b848c9467857a1350f622cb6e1cb42490e", func := "colander/colanderlaw07.RuleOrders", spec := "ruleOrders", unfollowed := true, recurses := true, apart := false }
def RuleOrdersSaid : Prop := ruleOrdersRow.holds Try.pinned (OpenSpec.ofChange ruleOrdersSpec)

/-- ITS FALSE NEIGHBOUR: 'it returns false'. Refute it at one input. -/
def ruleOrdersWrong : ChangeSpec := { name := "ruleOrders", fn := fun _ => fun
  | [d1, d2] => { results := [.lit (.bool false)], args := [d1, d2] }
  | _ => none }
def RuleOrdersWrongFalsely : Prop := ruleOrdersRow.holds Try.pinned (OpenSpec.ofChange ruleOrdersWrong)

/- THE SECOND FORM. 'bulk': how many values and letters a reading holds, each counted each time it is reached (what is shared counts as often as it is met; a slice's spare places count too). A statement '..UptoSaid' is the law's where the arguments, and the package variables that the reading takes, are together of bulk at most 1048576: NARROWER than '..Said'. Prove '..Said' where nothing that the law and all that it calls make is longer than what came in: it says more and counts as full. Else prove '..UptoSaid'. A law counts once. -/
mutual
def uptoBulk {H : Type} : DataW H → Nat
  | .lit (.string bytes) => bytes.length + 1
  | .lit _ => 1
  | .nil => 1
  | .ptr d => uptoBulk d + 1
  | .slice elems spare => uptoBulkAll elems + uptoBulkAll spare + 1
  | .agg parts => uptoBulkAll parts + 1
  | .iface _ d => uptoBulk d + 1
  | .map entries => uptoBulkEntries entries + 1
  | .held _ => 1
def uptoBulkAll {H : Type} : List (DataW H) → Nat
  | [] => 0
  | d :: r => uptoBulk d + uptoBulkAll r
def uptoBulkEntries {H : Type} : List (Lit × DataW H) → Nat
  | [] => 0
  | x :: r => uptoBulkEntry x + uptoBulkEntries r
def uptoBulkEntry {H : Type} : Lit × DataW H → Nat
  | (.string bytes, d) => bytes.length + uptoBulk d + 1
  | (_, d) => uptoBulk d + 1
 end
def uptoSmall : (H : Type) → List (DataW H) → Bool := fun _ ds => decide (uptoBulkAll ds ≤ 1048576)
def OpenSpec.upto (s : _root_.Go.ChangeSpec) : _root_.Go.OpenSpec := { _root_.Go.OpenSpec.ofChange s with cond := some uptoSmall }

/-- 'colanderlaw07.RuleTwice', WHERE WHAT IT READS IS OF BULK AT MOST 1048576: true; the input reads as it did. -/
def ruleTwiceUptoRow : OpenClaim := { program := "ytbmmhbpalkepeaa", sum := "1f8e97b463cfc556553211c24f8f67b848c9467857a1350f622cb6e1cb42490e", func := "colander/colanderlaw07.RuleTwice", spec := "ruleTwice", unfollowed := true, recurses := true, apart := false, narrowed := true }
def RuleTwiceUptoSaid : Prop := ruleTwiceUptoRow.holds Try.pinned (OpenSpec.upto ruleTwiceSpec)

/-- 'colanderlaw07.RuleOwn', WHERE WHAT IT READS IS OF BULK AT MOST 1048576: true; the input reads as it did. -/
def ruleOwnUptoRow : OpenClaim := { program := "ytbmmhbpalkepeaa", sum := "1f8e97b463cfc556553211c24f8f67b848c9467857a1350f622cb6e1cb42490e", func := "colander/colanderlaw07.RuleOwn", spec := "ruleOwn", unfollowed := true, recurses := true, apart := false, narrowed := true }
def RuleOwnUptoSaid : Prop := ruleOwnUptoRow.holds Try.pinned (OpenSpec.upto ruleOwnSpec)

/-- 'colanderlaw07.RuleKeeps', WHERE WHAT IT READS IS OF BULK AT MOST 1048576: true; the input reads as it did. -/
def ruleKeepsUptoRow : OpenClaim := { program := "ytbmmhbpalkepeaa", sum := "1f8e97b463cfc556553211c24f8f67b848c9467857a1350f622cb6e1cb42490e", func := "colander/colanderlaw07.RuleKeeps", spec := "ruleKeeps", unfollowed := true, recurses := true, apart := false, narrowed := true }
def RuleKeepsUptoSaid : Prop := ruleKeepsUptoRow.holds Try.pinned (OpenSpec.upto ruleKeepsSpec)

/-- 'colanderlaw07.RuleApplies', WHERE WHAT IT READS IS OF BULK AT MOST 1048576: true; the input reads as it did. -/
def ruleAppliesUptoRow : OpenClaim := { program := "ytbmmhbpalkepeaa", sum := "1f8e97b463cfc556553211c24f8f67b848c9467857a1350f622cb6e1cb42490e", func := "colander/colanderlaw07.RuleApplies", spec := "ruleApplies", unfollowed := true, recurses := true, apart := false, narrowed := true }
def RuleAppliesUptoSaid : Prop := ruleAppliesUptoRow.holds Try.pinned (OpenSpec.upto ruleAppliesSpec)

/-- 'colanderlaw07.RuleDrops', WHERE WHAT IT READS IS OF BULK AT MOST 1048576: true; the input reads as it did. -/
def ruleDropsUptoRow : OpenClaim := { program := "ytbmmhbpalkepeaa", sum := "1f8e97b463cfc556553211c24f8f67b848c9467857a1350f622cb6e1cb42490e", func := "colander/colanderlaw07.RuleDrops", spec := "ruleDrops", unfollowed := true, recurses := true, apart := false, narrowed := true }
def RuleDropsUptoSaid : Prop := ruleDropsUptoRow.holds Try.pinned (OpenSpec.upto ruleDropsSpec)

/-- 'colanderlaw07.RuleDiffs', WHERE WHAT IT READS IS OF BULK AT MOST 1048576: true; the input reads as it did. -/
def ruleDiffsUptoRow : OpenClaim := { program := "ytbmmhbpalkepeaa", sum := "1f8e97b463cfc556553211c24f8f67b848c9467857a1350f622cb6e1cb42490e", func := "colander/colanderlaw07.RuleDiffs", spec := "ruleDiffs", unfollowed := true, recurses := true, apart := false, narrowed := true }
def RuleDiffsUptoSaid : Prop := ruleDiffsUptoRow.holds Try.pinned (OpenSpec.upto ruleDiffsSpec)

/-- 'colanderlaw07.RuleOrders', WHERE WHAT IT READS IS OF BULK AT MOST 1048576: true; the input reads as it did. -/
def ruleOrdersUptoRow : OpenClaim := { program := "ytbmmhbpalkepeaa", sum := "1f8e97b463cfc556553211c24f8f67b848c9467857a1350f622cb6e1cb42490e", func := "colander/colanderlaw07.RuleOrders", spec := "ruleOrders", unfollowed := true, recurses := true, apart := false, narrowed := true }
def RuleOrdersUptoSaid : Prop := ruleOrdersUptoRow.holds Try.pinned (OpenSpec.upto ruleOrdersSpec)

end Rows
end Go.Proofs.Ytbmmhbpalkepeaa
