/- From the rows' data to the evaluator's; the witness. Condition: the tables lie as they are laid. -/
import Derived.Test.YteoeggbihfnbfaaGreatDoorSim
import Derived.Test.YteoeggbihfnbfaaGreatDoorTypA
import Derived.Test.YteoeggbihfnbfaaGreatDoorExt
import Derived.Test.YteoeggbihfnbfaaGreatDoorEqs
import Derived.Test.YteoeggbihfnbfaaGreatDoorRows
import Derived.WalkKit
import Derived.ProofKit
import Derived.OpenShut
import Derived.ChangeOld
import Derived.ChangeMaps5
import Derived.Below
import Derived.LaidMore
import Derived.Lib.LaidU8T
import Derived.Lib.LaidIn
import Derived.Stop.Joined

set_option linter.unusedSimpArgs false
set_option linter.unusedVariables false
set_option linter.defProp false
noncomputable section
namespace Go.Proofs.YteoeggbihfnbfaaGreatDoor.N2
open Go Go.Abs Go.RowKit
set_option maxRecDepth 100000
section
variable {H : Type} {enc : TypeId × Value → H} {w : World}
theorem ZkA : ZcW enc Tryz.prog w 3 (fun n : Int => [eI .i64 n]) (fun _ => True) := Zlc (ZHx Tryz.underlying3) fun _ _ => trivial
theorem cl_ {l : List PV} {c : List Value} {n k : Nat} (r : Z3j w l (c.take n)) (h : n = k) : Z3j w l (c.take k) := h ▸ r
theorem ZyK (t : TypeId) (ht : Tryz.prog.underlying t = Tryz.prog.underlying 42) (hn : Tryz.prog.cellsOf t = 5) : ZcW enc Tryz.prog w t Z5S (fun _ => True) := by
 intro fuel cs x h
 obtain ⟨hl, hf⟩ := Zm2 (ht.trans Tryz.underlying42) h
 obtain ⟨_, _, g0⟩ := hf 0 _ rfl
 obtain ⟨a0, _, r0⟩ := ZkA _ _ _ g0
 replace r0 := cl_ r0 (show Tryz.prog.cellsOf 3 = 1 by kernel_rfl)
 obtain ⟨_, _, g1⟩ := hf 1 _ rfl
 obtain ⟨a1, _, r1⟩ := ZkA _ _ _ g1
 replace r1 := cl_ r1 (show Tryz.prog.cellsOf 3 = 1 by kernel_rfl)
 obtain ⟨_, _, g2⟩ := hf 2 _ rfl
 obtain ⟨a2, _, r2⟩ := ZkA _ _ _ g2
 replace r2 := cl_ r2 (show Tryz.prog.cellsOf 3 = 1 by kernel_rfl)
 obtain ⟨_, _, g3⟩ := hf 3 _ rfl
 obtain ⟨a3, _, r3⟩ := ZkA _ _ _ g3
 replace r3 := cl_ r3 (show Tryz.prog.cellsOf 3 = 1 by kernel_rfl)
 obtain ⟨_, _, g4⟩ := hf 4 _ rfl
 obtain ⟨a4, _, r4⟩ := (Zlc (ZHy Tryz.underlying9) fun _ _ => trivial : ZcW enc Tryz.prog w 9 (fun n : ByteArray => [eS n]) (fun _ => True)) _ _ _ g4
 replace r4 := cl_ r4 (show Tryz.prog.cellsOf 9 = 1 by kernel_rfl)
 have cl : Tryz.prog.cellsOf t = 5 := hn
 exact ⟨⟨a0, a1, a2, a3, a4⟩, trivial, (Z3j.next (o := 0) (n := 1) r0 (Z3j.next (o := 1) (n := 1) r1 (Z3j.next (o := 2) (n := 1) r2 (Z3j.next (o := 3) (n := 1) r3 (Z3j.next (o := 4) (n := 1) r4 (show Z3j w [] (cs.drop 5) by rw [q9_ (by rw [hl, cl]; exact q7_ _)]; exact Z3j.nil))))))⟩
theorem Zya (t : TypeId) (ht : Tryz.prog.underlying t = Tryz.prog.underlying 28) (hn : Tryz.prog.cellsOf t = 6) : ZcW enc Tryz.prog w t Zkr (fun _ => True) := by
 intro fuel cs x h
 obtain ⟨hl, hf⟩ := Zm2 (ht.trans Tryz.underlying28) h
 obtain ⟨_, _, g0⟩ := hf 0 _ rfl
 obtain ⟨a0, _, r0⟩ := ZkA _ _ _ g0
 replace r0 := cl_ r0 (show Tryz.prog.cellsOf 3 = 1 by kernel_rfl)
 obtain ⟨_, _, g1⟩ := hf 1 _ rfl
 obtain ⟨a1, _, r1⟩ := ZkA _ _ _ g1
 replace r1 := cl_ r1 (show Tryz.prog.cellsOf 3 = 1 by kernel_rfl)
 obtain ⟨_, _, g2⟩ := hf 2 _ rfl
 obtain ⟨a2, _, r2⟩ := ZkA _ _ _ g2
 replace r2 := cl_ r2 (show Tryz.prog.cellsOf 3 = 1 by kernel_rfl)
 obtain ⟨_, _, g3⟩ := hf 3 _ rfl
 obtain ⟨a3, _, r3⟩ := ZkA _ _ _ g3
 replace r3 := cl_ r3 (show Tryz.prog.cellsOf 3 = 1 by kernel_rfl)
 obtain ⟨_, _, g4⟩ := hf 4 _ rfl
 obtain ⟨a4, _, r4⟩ := (Zlc (Zns Tryz.underlying22 (of_decide_eq_true (by kernel_rfl)) (fun _ => rfl) (ZyK 43 (by rfl) (by kernel_rfl))) fun _ _ => trivial : ZcW enc Tryz.prog w 22 (fun l : List ZA => [eL ZG l]) (fun _ => True)) _ _ _ g4
 replace r4 := cl_ r4 (show Tryz.prog.cellsOf 22 = 1 by kernel_rfl)
 obtain ⟨_, _, g5⟩ := hf 5 _ rfl
 obtain ⟨a5, _, r5⟩ := (Zlc (Zns Tryz.underlying27 (of_decide_eq_true (by kernel_rfl)) (fun _ => rfl) ZkA) fun _ _ => trivial : ZcW enc Tryz.prog w 27 (fun l : List Int => [eL (eI .i64) l]) (fun _ => True)) _ _ _ g5
 replace r5 := cl_ r5 (show Tryz.prog.cellsOf 27 = 1 by kernel_rfl)
 have cl : Tryz.prog.cellsOf t = 6 := hn
 exact ⟨⟨a0, a1, a2, a3, a4, a5⟩, trivial, (Z3j.next (o := 0) (n := 1) r0 (Z3j.next (o := 1) (n := 1) r1 (Z3j.next (o := 2) (n := 1) r2 (Z3j.next (o := 3) (n := 1) r3 (Z3j.next (o := 4) (n := 1) r4 (Z3j.next (o := 5) (n := 1) r5 (show Z3j w [] (cs.drop 6) by rw [q9_ (by rw [hl, cl]; exact q7_ _)]; exact Z3j.nil)))))))⟩
theorem ZoG (t : TypeId) (ht : Tryz.prog.underlying t = Tryz.prog.underlying 60) (hn : Tryz.prog.cellsOf t = 9) : ZcW enc Tryz.prog w t ZbA (fun _ => True) := by
 intro fuel cs x h
 obtain ⟨hl, hf⟩ := Zm2 (ht.trans Tryz.underlying60) h
 obtain ⟨_, _, g0⟩ := hf 0 _ rfl
 obtain ⟨a0, _, r0⟩ := ZkA _ _ _ g0
 replace r0 := cl_ r0 (show Tryz.prog.cellsOf 3 = 1 by kernel_rfl)
 obtain ⟨_, _, g1⟩ := hf 1 _ rfl
 obtain ⟨a1, _, r1⟩ := ZkA _ _ _ g1
 replace r1 := cl_ r1 (show Tryz.prog.cellsOf 3 = 1 by kernel_rfl)
 obtain ⟨_, _, g2⟩ := hf 2 _ rfl
 obtain ⟨a2, _, r2⟩ := ZkA _ _ _ g2
 replace r2 := cl_ r2 (show Tryz.prog.cellsOf 3 = 1 by kernel_rfl)
 obtain ⟨_, _, g3⟩ := hf 3 _ rfl
 obtain ⟨a3, _, r3⟩ := (Zya 29 (by rfl) (by kernel_rfl)) _ _ _ g3
 replace r3 := cl_ r3 (show Tryz.prog.cellsOf 29 = 6 by kernel_rfl)
 have cl : Tryz.prog.cellsOf t = 9 := hn
 exact ⟨⟨a0, a1, a2, a3⟩, trivial, (Z3j.next (o := 0) (n := 1) r0 (Z3j.next (o := 1) (n := 1) r1 (Z3j.next (o := 2) (n := 1) r2 (Z3j.next (o := 3) (n := 6) r3 (show Z3j w [] (cs.drop 9) by rw [q9_ (by rw [hl, cl]; exact q7_ _)]; exact Z3j.nil)))))⟩
end
end Go.Proofs.YteoeggbihfnbfaaGreatDoor.N2
end
section
namespace Go.Proofs.YteoeggbihfnbfaaGreatDoor
open Go Go.Abs Go.RowKit Go.ChangeShapes Go.WideShapes Go.ChangeAt
namespace N2
theorem ZNu : ZyM Tryz.prog (Tabs 0 1) XX := by
 intro f m hm args B r h w S β vals hI he
 unfold XX at hm
 split at hm
 ·rename_i hf
  subst hf
  simp only [q1_] at hm
  subst hm
  exact ZCd h w S β vals he
 split at hm
 ·rename_i hf
  subst hf
  simp only [q1_] at hm
  subst hm
  exact ZD5 h w S β vals he
 split at hm
 ·rename_i hf
  subst hf
  simp only [q1_] at hm
  subst hm
  exact ZBu h w S β vals hI he
 split at hm
 ·rename_i hf
  subst hf
  simp only [q1_] at hm
  subst hm
  exact ZC2 h w S β vals he
 split at hm
 ·rename_i hf
  subst hf
  simp only [q1_] at hm
  subst hm
  exact ZBs h w S β vals he
 ·simp at hm
theorem progOk : Go.Abs.progOk PP XX HH = true := by kernel_rfl
theorem fspec : ZbE PP (Tabs 0 1) EE := ZJm (Tabs.pers 0 1) mixed ZNu progOk
end N2
theorem own : ownKnob Tryz.prog.godebug = none := by kernel_rfl
theorem laidOut : laidOutB Tryz.prog = true := by kernel_rfl
def ren8 : Go.Shelf.Ren := ⟨fun n => n, fun | 119 => 239 | 138 => 241 | 139 => 242 | n => n, fun | 3 => 0 | 4 => 1 | n => n⟩
theorem ZLp : U8Types Tryz.prog ren8 := ⟨Tryz.underlying5, Tryz.underlying239, Tryz.underlying241, Tryz.underlying242⟩
def Zl9 : List (String × DataW Unit) := [("unicode/utf8.acceptRanges", Rows.laid_unicode_utf8_acceptRanges), ("unicode/utf8.first", Rows.laid_unicode_utf8_first)]
theorem ZyU : (Rows.laid_unicode_utf8_acceptRanges : DataW Unit) = Lib.acceptData := by kernel_rfl
theorem Zvr : Rows.laid_unicode_utf8_first = Lib.firstData := by kernel_rfl
theorem ZLo {W : World} (h : laidMetH Tryz.prog Zl9 W) : Lib.Utf8Tabs 0 1 W := by
 rw [MakeChecks.laidMetH_plain _ _ _ (by kernel_rfl)] at h
 have e : Zl9 = [("unicode/utf8.acceptRanges", Lib.acceptData), ("unicode/utf8.first", Lib.firstData)] := by unfold Zl9; rw [ZyU, Zvr]
 rw [e] at h
 exact utf8Tabs_of_readsT ZLp ⟨by kernel_rfl, by kernel_rfl, by kernel_rfl, by kernel_rfl, by kernel_rfl, by kernel_rfl, by kernel_rfl⟩ (Lib.laidMet.reads h (.tail _ (.head _))) (Lib.laidMet.reads h (.head _))
noncomputable def Zyu (os : Os) : World :=
 let w0 := World.holding Tryz.prog os ⟨#[], #[], []⟩
 let put (h : Array Obj) (g : Nat) (cs : Array Value) : Array Obj := h.modify g fun
  | .cells _ t frozen => .cells cs t frozen
  | o => o
 let h1 := put w0.heap 0 (Lib.firstTab.map fun z => Value.int .u8 z).toArray
 let h2 := put h1 1 ((List.range 16).flatMap fun i => [Value.int .u8 (Lib.accLo i), Value.int .u8 (Lib.accHi i)]).toArray
 { w0 with heap := h2 }
theorem ZIq (os : Os) (args : Array Value) : laidMetH Tryz.prog Zl9 ((Zyu os).forCall (fun _ _ => 0) ⟨#[], args, []⟩).memory := by
 rw [MakeChecks.laidMetH_plain _ _ _ (by kernel_rfl)]
 have e : Zl9 = [("unicode/utf8.acceptRanges", Lib.acceptData), ("unicode/utf8.first", Lib.firstData)] := by unfold Zl9; rw [ZyU, Zvr]
 rw [e]
 exact (LaidIn.of_run (l := [("unicode/utf8.acceptRanges", Lib.acceptData), ("unicode/utf8.first", Lib.firstData)]) [0, 1] 8 (by kernel_rfl) (by kernel_rfl) (by kernel_rfl) (by kernel_rfl)).met
end Go.Proofs.YteoeggbihfnbfaaGreatDoor
end
