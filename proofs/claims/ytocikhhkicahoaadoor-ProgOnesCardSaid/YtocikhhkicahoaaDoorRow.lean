/- From the rows' data to the evaluator's; the witness. Condition: the tables lie as they are laid. -/
import Derived.Test.YtocikhhkicahoaaDoorSim
import Derived.Test.YtocikhhkicahoaaDoorTypA
import Derived.Test.YtocikhhkicahoaaDoorExt
import Derived.Test.YtocikhhkicahoaaDoorEqs
import Derived.Test.YtocikhhkicahoaaDoorRows
import Derived.WalkKit
import Derived.ProofKit
import Derived.OpenShut
import Derived.ChangeOld
import Derived.ChangeMaps5
import Derived.Below
import Derived.LaidMore
import Derived.Lib.LaidU8T
import Derived.Lib.LaidIn
import Derived.Stop.Joined

set_option linter.unusedSimpArgs false
set_option linter.unusedVariables false
set_option linter.defProp false
noncomputable section
namespace Go.Proofs.YtocikhhkicahoaaDoor.N2
open Go Go.Abs Go.RowKit
set_option maxRecDepth 100000
section
variable {H : Type} {enc : TypeId × Value → H} {w : World}
theorem ZGZ : Zjc enc Tryd.prog w 3 (fun n : Int => [eI .i64 n]) (fun _ => True) := ZyA (ZBH Tryd.underlying3) fun _ _ => trivial
theorem cl_ {l : List PV} {c : List Value} {n k : Nat} (r : Z4J w l (c.take n)) (h : n = k) : Z4J w l (c.take k) := h ▸ r
theorem ZqM (t : TypeId) (ht : Tryd.prog.underlying t = Tryd.prog.underlying 46) (hn : Tryd.prog.cellsOf t = 2) : Zjc enc Tryd.prog w t Z4y (fun _ => True) := by
 intro fuel cs x h
 obtain ⟨hl, hf⟩ := Zvj (ht.trans Tryd.underlying46) h
 obtain ⟨_, _, g0⟩ := hf 0 _ rfl
 obtain ⟨a0, _, r0⟩ := ZGZ _ _ _ g0
 replace r0 := cl_ r0 (show Tryd.prog.cellsOf 3 = 1 by kernel_rfl)
 obtain ⟨_, _, g1⟩ := hf 1 _ rfl
 obtain ⟨a1, _, r1⟩ := ZGZ _ _ _ g1
 replace r1 := cl_ r1 (show Tryd.prog.cellsOf 3 = 1 by kernel_rfl)
 have cl : Tryd.prog.cellsOf t = 2 := hn
 exact ⟨⟨a0, a1⟩, trivial, (Z4J.next (o := 0) (n := 1) r0 (Z4J.next (o := 1) (n := 1) r1 (show Z4J w [] (cs.drop 2) by rw [Zeb (by rw [hl, cl]; exact Z2H _)]; exact Z4J.nil)))⟩
end
end Go.Proofs.YtocikhhkicahoaaDoor.N2
end
section
namespace Go.Proofs.YtocikhhkicahoaaDoor
open Go Go.Abs Go.RowKit Go.ChangeShapes Go.WideShapes Go.ChangeAt
namespace N2
theorem ZHW : Zsq Tryd.prog (Tabs 0 1) XX := by
 intro f m hm args B r h w S β vals hI he
 unfold XX at hm
 split at hm
 ·rename_i hf
  subst hf
  simp only [q1_] at hm
  subst hm
  exact Zx6 h w S β vals he
 split at hm
 ·rename_i hf
  subst hf
  simp only [q1_] at hm
  subst hm
  exact Zwf h w S β vals he
 split at hm
 ·rename_i hf
  subst hf
  simp only [q1_] at hm
  subst hm
  exact Zw7 h w S β vals he
 split at hm
 ·rename_i hf
  subst hf
  simp only [q1_] at hm
  subst hm
  exact Zw8 h w S β vals hI he
 ·simp at hm
theorem progOk : Go.Abs.progOk PP XX HH = true := by kernel_rfl
theorem fspec : Z8X PP (Tabs 0 1) EE := ZDP (Tabs.pers 0 1) mixed ZHW progOk
end N2
theorem own : ownKnob Tryd.prog.godebug = none := by kernel_rfl
theorem laidOut : laidOutB Tryd.prog = true := by kernel_rfl
def ren8 : Go.Shelf.Ren := ⟨fun n => n, fun | 119 => 142 | 138 => 144 | 139 => 145 | n => n, fun | 3 => 0 | 4 => 1 | n => n⟩
theorem ZEE : U8Types Tryd.prog ren8 := ⟨Tryd.underlying5, Tryd.underlying142, Tryd.underlying144, Tryd.underlying145⟩
def ZhY : List (String × DataW Unit) := [("unicode/utf8.acceptRanges", Rows.laid_unicode_utf8_acceptRanges), ("unicode/utf8.first", Rows.laid_unicode_utf8_first)]
theorem ZsG : (Rows.laid_unicode_utf8_acceptRanges : DataW Unit) = Lib.acceptData := by kernel_rfl
theorem Zqg : Rows.laid_unicode_utf8_first = Lib.firstData := by kernel_rfl
theorem ZED {W : World} (h : laidMetH Tryd.prog ZhY W) : Lib.Utf8Tabs 0 1 W := by
 rw [MakeChecks.laidMetH_plain _ _ _ (by kernel_rfl)] at h
 have e : ZhY = [("unicode/utf8.acceptRanges", Lib.acceptData), ("unicode/utf8.first", Lib.firstData)] := by unfold ZhY; rw [ZsG, Zqg]
 rw [e] at h
 exact utf8Tabs_of_readsT ZEE ⟨by kernel_rfl, by kernel_rfl, by kernel_rfl, by kernel_rfl, by kernel_rfl, by kernel_rfl, by kernel_rfl⟩ (Lib.laidMet.reads h (.tail _ (.head _))) (Lib.laidMet.reads h (.head _))
noncomputable def Zs4 (os : Os) : World :=
 let w0 := World.holding Tryd.prog os ⟨#[], #[], []⟩
 let put (h : Array Obj) (g : Nat) (cs : Array Value) : Array Obj := h.modify g fun
  | .cells _ t frozen => .cells cs t frozen
  | o => o
 let h1 := put w0.heap 0 (Lib.firstTab.map fun z => Value.int .u8 z).toArray
 let h2 := put h1 1 ((List.range 16).flatMap fun i => [Value.int .u8 (Lib.accLo i), Value.int .u8 (Lib.accHi i)]).toArray
 { w0 with heap := h2 }
theorem ZCD (os : Os) (args : Array Value) : laidMetH Tryd.prog ZhY ((Zs4 os).forCall (fun _ _ => 0) ⟨#[], args, []⟩).memory := by
 rw [MakeChecks.laidMetH_plain _ _ _ (by kernel_rfl)]
 have e : ZhY = [("unicode/utf8.acceptRanges", Lib.acceptData), ("unicode/utf8.first", Lib.firstData)] := by unfold ZhY; rw [ZsG, Zqg]
 rw [e]
 exact (LaidIn.of_run (l := [("unicode/utf8.acceptRanges", Lib.acceptData), ("unicode/utf8.first", Lib.firstData)]) [0, 1] 8 (by kernel_rfl) (by kernel_rfl) (by kernel_rfl) (by kernel_rfl)).met
end Go.Proofs.YtocikhhkicahoaaDoor
end
