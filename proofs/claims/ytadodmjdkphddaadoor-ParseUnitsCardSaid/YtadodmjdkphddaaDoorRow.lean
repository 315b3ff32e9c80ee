/- From the rows' data to the evaluator's; the witness. Condition: the tables lie as they are laid. -/
import Derived.Test.YtadodmjdkphddaaDoorExt
import Derived.Test.YtadodmjdkphddaaDoorEqs
import Derived.Test.YtadodmjdkphddaaDoorRows
import Derived.WalkKit
import Derived.ProofKit
import Derived.OpenShut
import Derived.ChangeOld
import Derived.ChangeMaps5
import Derived.Below
import Derived.LaidMore
import Derived.Lib.LaidU8T
import Derived.Lib.LaidIn
import Derived.Stop.Joined

section
set_option linter.unusedSimpArgs false
set_option linter.unusedVariables false
namespace Go.Proofs.YtadodmjdkphddaaDoor
open Go Go.Abs Go.RowKit Go.ChangeShapes Go.WideShapes Go.ChangeAt
namespace N2
theorem Zt8 : Zj7 Tryd.prog (Tabs 0 1) XX := by
 intro f m hm args B r h w S β vals hI he
 unfold XX at hm
 split at hm
 ·rename_i hf
  subst hf
  simp only [Option.some.injEq] at hm
  subst hm
  exact Zld h w S β vals hI he
 split at hm
 ·rename_i hf
  subst hf
  simp only [Option.some.injEq] at hm
  subst hm
  exact Zlk h w S β vals he
 split at hm
 ·rename_i hf
  subst hf
  simp only [Option.some.injEq] at hm
  subst hm
  exact Zlc h w S β vals he
 ·simp at hm
theorem progOk : Go.Abs.progOk PP XX HH = true := by kernel_rfl
theorem fspec : Z6y PP (Tabs 0 1) EE := Zqo (Tabs.pers 0 1) mixed Zt8 progOk
end N2
theorem own : ownKnob Tryd.prog.godebug = none := by kernel_rfl
def ren8 : Go.Shelf.Ren := ⟨fun n => n, fun | 119 => 98 | 138 => 101 | 139 => 102 | n => n, fun | 3 => 0 | 4 => 1 | n => n⟩
theorem Zrb : U8Types Tryd.prog ren8 := ⟨Tryd.underlying5, Tryd.underlying98, Tryd.underlying101, Tryd.underlying102⟩
def ZbZ : List (String × DataW Unit) := [("unicode/utf8.acceptRanges", Rows.laid_unicode_utf8_acceptRanges), ("unicode/utf8.first", Rows.laid_unicode_utf8_first)]
theorem Zjg : (Rows.laid_unicode_utf8_acceptRanges : DataW Unit) = Lib.acceptData := by kernel_rfl
theorem ZhF : Rows.laid_unicode_utf8_first = Lib.firstData := by kernel_rfl
theorem Zra {W : World} (h : laidMetH Tryd.prog ZbZ W) : Lib.Utf8Tabs 0 1 W := by
 rw [MakeChecks.laidMetH_plain _ _ _ (by kernel_rfl)] at h
 have e : ZbZ = [("unicode/utf8.acceptRanges", Lib.acceptData), ("unicode/utf8.first", Lib.firstData)] := by unfold ZbZ; rw [Zjg, ZhF]
 rw [e] at h
 exact utf8Tabs_of_readsT Zrb ⟨by kernel_rfl, by kernel_rfl, by kernel_rfl, by kernel_rfl, by kernel_rfl, by kernel_rfl, by kernel_rfl⟩ (Lib.laidMet.reads h (.tail _ (.head _))) (Lib.laidMet.reads h (.head _))
noncomputable def ZiQ (os : Os) : World :=
 let w0 := World.holding Tryd.prog os ⟨#[], #[], []⟩
 let put (h : Array Obj) (g : Nat) (cs : Array Value) : Array Obj := h.modify g fun
  | .cells _ t frozen => .cells cs t frozen
  | o => o
 let h1 := put w0.heap 0 (Lib.firstTab.map fun z => Value.int .u8 z).toArray
 let h2 := put h1 1 ((List.range 16).flatMap fun i => [Value.int .u8 (Lib.accLo i), Value.int .u8 (Lib.accHi i)]).toArray
 { w0 with heap := h2 }
theorem ZpK (os : Os) (args : Array Value) : laidMetH Tryd.prog ZbZ ((ZiQ os).forCall (fun _ _ => 0) ⟨#[], args, []⟩).memory := by
 rw [MakeChecks.laidMetH_plain _ _ _ (by kernel_rfl)]
 have e : ZbZ = [("unicode/utf8.acceptRanges", Lib.acceptData), ("unicode/utf8.first", Lib.firstData)] := by unfold ZbZ; rw [Zjg, ZhF]
 rw [e]
 exact (LaidIn.of_run (l := [("unicode/utf8.acceptRanges", Lib.acceptData), ("unicode/utf8.first", Lib.firstData)]) [0, 1] 8 (by kernel_rfl) (by kernel_rfl) (by kernel_rfl) (by kernel_rfl)).met
end Go.Proofs.YtadodmjdkphddaaDoor
end
