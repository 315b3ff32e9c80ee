/- From the rows' data to the evaluator's; the witness. Condition: the tables lie as they are laid. -/
import Derived.Test.YtocikhhkicahoaaDoorSim
import Derived.Test.YtocikhhkicahoaaDoorTypA
import Derived.Test.YtocikhhkicahoaaDoorExt
import Derived.Test.YtocikhhkicahoaaDoorEqs
import Derived.Test.YtocikhhkicahoaaDoorRows
import Derived.WalkKit
import Derived.ProofKit
import Derived.OpenShut
import Derived.ChangeOld
import Derived.ChangeMaps5
import Derived.Below
import Derived.LaidMore
import Derived.Lib.LaidU8T
import Derived.Lib.LaidIn
import Derived.Stop.Joined

set_option linter.unusedSimpArgs false
set_option linter.unusedVariables false
set_option linter.defProp false
noncomputable section
namespace Go.Proofs.YtocikhhkicahoaaDoor.N2
open Go Go.Abs Go.RowKit
set_option maxRecDepth 100000
section
variable {H:Type} {enc:TypeId × Value → H} {w:World}
end
end Go.Proofs.YtocikhhkicahoaaDoor.N2
end
section
namespace Go.Proofs.YtocikhhkicahoaaDoor
open Go Go.Abs Go.RowKit Go.ChangeShapes Go.WideShapes Go.ChangeAt
namespace N2
theorem ZIM:ZsV Tryd.prog (Tabs 0 1) XX:=by
 intro f m hm args B r h w S β vals hI he
 unfold XX at hm
 split at hm
 ·rename_i hf
  subst hf
  simp only [q1_] at hm
  subst hm
  exact ZxL h w S β vals he
 split at hm
 ·rename_i hf
  subst hf
  simp only [q1_] at hm
  subst hm
  exact ZwR h w S β vals he
 split at hm
 ·rename_i hf
  subst hf
  simp only [q1_] at hm
  subst hm
  exact ZwH h w S β vals he
 split at hm
 ·rename_i hf
  subst hf
  simp only [q1_] at hm
  subst hm
  exact ZwK h w S β vals hI he
 ·simp at hm
theorem progOk:Go.Abs.progOk PP XX HH = true:=by kernel_rfl
theorem fspec:Z90 PP (Tabs 0 1) EE:=ZEA (Tabs.pers 0 1) mixed ZIM progOk
end N2
theorem own:ownKnob Tryd.prog.godebug = none:=by kernel_rfl
def ren8:Go.Shelf.Ren:=⟨fun n => n,fun | 119 => 142 | 138 => 144 | 139 => 145 | n => n,fun | 3 => 0 | 4 => 1 | n => n⟩
theorem ZFp:U8Types Tryd.prog ren8:=⟨Tryd.underlying5,Tryd.underlying142,Tryd.underlying144,Tryd.underlying145⟩
def Zie : List (String × DataW Unit) := [("unicode/utf8.acceptRanges", Rows.laid_unicode_utf8_acceptRanges), ("unicode/utf8.first", Rows.laid_unicode_utf8_first)]
theorem Zte:(Rows.laid_unicode_utf8_acceptRanges:DataW Unit) = Lib.acceptData:=by kernel_rfl
theorem ZqE:Rows.laid_unicode_utf8_first = Lib.firstData:=by kernel_rfl
theorem ZFo {W:World} (h:laidMetH Tryd.prog Zie W):Lib.Utf8Tabs 0 1 W:=by
 rw [MakeChecks.laidMetH_plain _ _ _ (by kernel_rfl)] at h
 have e : Zie = [("unicode/utf8.acceptRanges", Lib.acceptData), ("unicode/utf8.first", Lib.firstData)] := by unfold Zie; rw [Zte, ZqE]
 rw [e] at h
 exact utf8Tabs_of_readsT ZFp ⟨by kernel_rfl,by kernel_rfl,by kernel_rfl,by kernel_rfl,by kernel_rfl,by kernel_rfl,by kernel_rfl⟩ (Lib.laidMet.reads h (.tail _ (.head _))) (Lib.laidMet.reads h (.head _))
noncomputable def Zst (os:Os):World :=
 let w0:=World.holding Tryd.prog os ⟨#[],#[],[]⟩
 let put (h:Array Obj) (g:Nat) (cs:Array Value):Array Obj:=h.modify g fun
  | .cells _ t frozen => .cells cs t frozen
  | o => o
 let h1:=put w0.heap 0 (Lib.firstTab.map fun z => Value.int .u8 z).toArray
 let h2:=put h1 1 ((List.range 16).flatMap fun i => [Value.int .u8 (Lib.accLo i),Value.int .u8 (Lib.accHi i)]).toArray
 { w0 with heap:=h2 }
theorem ZDo (os:Os) (args:Array Value):laidMetH Tryd.prog Zie ((Zst os).forCall (fun _ _ => 0) ⟨#[],args,[]⟩).memory:=by
 rw [MakeChecks.laidMetH_plain _ _ _ (by kernel_rfl)]
 have e : Zie = [("unicode/utf8.acceptRanges", Lib.acceptData), ("unicode/utf8.first", Lib.firstData)] := by unfold Zie; rw [Zte, ZqE]
 rw [e]
 exact (LaidIn.of_run (l := [("unicode/utf8.acceptRanges", Lib.acceptData), ("unicode/utf8.first", Lib.firstData)]) [0, 1] 8 (by kernel_rfl) (by kernel_rfl) (by kernel_rfl) (by kernel_rfl)).met
end Go.Proofs.YtocikhhkicahoaaDoor
end
