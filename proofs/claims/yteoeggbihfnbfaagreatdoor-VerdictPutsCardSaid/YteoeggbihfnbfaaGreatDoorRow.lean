/- From the rows' data to the evaluator's; the witness. Condition: the tables lie as they are laid. -/
import Derived.Test.YteoeggbihfnbfaaGreatDoorSim
import Derived.Test.YteoeggbihfnbfaaGreatDoorTypA
import Derived.Test.YteoeggbihfnbfaaGreatDoorExt
import Derived.Test.YteoeggbihfnbfaaGreatDoorEqs
import Derived.Test.YteoeggbihfnbfaaGreatDoorRows
import Derived.WalkKit
import Derived.ProofKit
import Derived.OpenShut
import Derived.ChangeOld
import Derived.ChangeMaps5
import Derived.Below
import Derived.LaidMore
import Derived.Lib.LaidU8T
import Derived.Lib.LaidIn
import Derived.Stop.Joined

noncomputable section
set_option linter.unusedSimpArgs false
set_option linter.unusedVariables false
namespace Go.Proofs.YteoeggbihfnbfaaGreatDoor.N2
open Go Go.Abs Go.RowKit
set_option linter.unusedVariables false
set_option maxRecDepth 100000
section
variable {H : Type} {enc : TypeId × Value → H} {w : World}
theorem Zo6 (t : TypeId) (ht : Tryz.prog.underlying t = Tryz.prog.underlying 42) (hn : Tryz.prog.cellsOf t = 5) : Z97 enc Tryz.prog w t Z53 (fun _ => True) := by
 intro fuel cs x h
 obtain ⟨hl, hf⟩ := Zp7 (ht.trans Tryz.underlying42) h
 obtain ⟨_, _, g0⟩ := hf 0 _ rfl
 obtain ⟨a0, _, r0⟩ := (Z8j (Zbt Tryz.underlying3) fun _ _ => trivial : Z97 enc Tryz.prog w 3 (fun n : Int => [eI .i64 n]) (fun _ => True)) _ _ _ g0
 change Z2O w _ ((cs.drop 0).take (Tryz.prog.cellsOf 3)) at r0
 rw [show Tryz.prog.cellsOf 3 = 1 by kernel_rfl] at r0
 obtain ⟨_, _, g1⟩ := hf 1 _ rfl
 obtain ⟨a1, _, r1⟩ := (Z8j (Zbt Tryz.underlying3) fun _ _ => trivial : Z97 enc Tryz.prog w 3 (fun n : Int => [eI .i64 n]) (fun _ => True)) _ _ _ g1
 change Z2O w _ ((cs.drop 1).take (Tryz.prog.cellsOf 3)) at r1
 rw [show Tryz.prog.cellsOf 3 = 1 by kernel_rfl] at r1
 obtain ⟨_, _, g2⟩ := hf 2 _ rfl
 obtain ⟨a2, _, r2⟩ := (Z8j (Zbt Tryz.underlying3) fun _ _ => trivial : Z97 enc Tryz.prog w 3 (fun n : Int => [eI .i64 n]) (fun _ => True)) _ _ _ g2
 change Z2O w _ ((cs.drop 2).take (Tryz.prog.cellsOf 3)) at r2
 rw [show Tryz.prog.cellsOf 3 = 1 by kernel_rfl] at r2
 obtain ⟨_, _, g3⟩ := hf 3 _ rfl
 obtain ⟨a3, _, r3⟩ := (Z8j (Zbt Tryz.underlying3) fun _ _ => trivial : Z97 enc Tryz.prog w 3 (fun n : Int => [eI .i64 n]) (fun _ => True)) _ _ _ g3
 change Z2O w _ ((cs.drop 3).take (Tryz.prog.cellsOf 3)) at r3
 rw [show Tryz.prog.cellsOf 3 = 1 by kernel_rfl] at r3
 obtain ⟨_, _, g4⟩ := hf 4 _ rfl
 obtain ⟨a4, _, r4⟩ := (Z8j (ZCP Tryz.underlying9) fun _ _ => trivial : Z97 enc Tryz.prog w 9 (fun n : ByteArray => [eS n]) (fun _ => True)) _ _ _ g4
 change Z2O w _ ((cs.drop 4).take (Tryz.prog.cellsOf 9)) at r4
 rw [show Tryz.prog.cellsOf 9 = 1 by kernel_rfl] at r4
 have cl : Tryz.prog.cellsOf t = 5 := hn
 exact ⟨⟨a0, a1, a2, a3, a4⟩, trivial, (Z2O.next (o := 0) (n := 1) r0 (Z2O.next (o := 1) (n := 1) r1 (Z2O.next (o := 2) (n := 1) r2 (Z2O.next (o := 3) (n := 1) r3 (Z2O.next (o := 4) (n := 1) r4 (show Z2O w [] (cs.drop 5) by rw [List.drop_of_length_le (by rw [hl, cl]; exact Nat.le_refl _)]; exact Z2O.nil))))))⟩
theorem ZwI (t : TypeId) (ht : Tryz.prog.underlying t = Tryz.prog.underlying 23) (hn : Tryz.prog.cellsOf t = 5) : Z97 enc Tryz.prog w t ZkS (fun _ => True) := by
 intro fuel cs x h
 obtain ⟨hl, hf⟩ := Zp7 (ht.trans Tryz.underlying23) h
 obtain ⟨_, _, g0⟩ := hf 0 _ rfl
 obtain ⟨a0, _, r0⟩ := (Z8j (Zbt Tryz.underlying3) fun _ _ => trivial : Z97 enc Tryz.prog w 3 (fun n : Int => [eI .i64 n]) (fun _ => True)) _ _ _ g0
 change Z2O w _ ((cs.drop 0).take (Tryz.prog.cellsOf 3)) at r0
 rw [show Tryz.prog.cellsOf 3 = 1 by kernel_rfl] at r0
 obtain ⟨_, _, g1⟩ := hf 1 _ rfl
 obtain ⟨a1, _, r1⟩ := (Z8j (Zbt Tryz.underlying3) fun _ _ => trivial : Z97 enc Tryz.prog w 3 (fun n : Int => [eI .i64 n]) (fun _ => True)) _ _ _ g1
 change Z2O w _ ((cs.drop 1).take (Tryz.prog.cellsOf 3)) at r1
 rw [show Tryz.prog.cellsOf 3 = 1 by kernel_rfl] at r1
 obtain ⟨_, _, g2⟩ := hf 2 _ rfl
 obtain ⟨a2, _, r2⟩ := (Z8j (Zbt Tryz.underlying3) fun _ _ => trivial : Z97 enc Tryz.prog w 3 (fun n : Int => [eI .i64 n]) (fun _ => True)) _ _ _ g2
 change Z2O w _ ((cs.drop 2).take (Tryz.prog.cellsOf 3)) at r2
 rw [show Tryz.prog.cellsOf 3 = 1 by kernel_rfl] at r2
 obtain ⟨_, _, g3⟩ := hf 3 _ rfl
 obtain ⟨a3, _, r3⟩ := (Z8j (Zbt Tryz.underlying3) fun _ _ => trivial : Z97 enc Tryz.prog w 3 (fun n : Int => [eI .i64 n]) (fun _ => True)) _ _ _ g3
 change Z2O w _ ((cs.drop 3).take (Tryz.prog.cellsOf 3)) at r3
 rw [show Tryz.prog.cellsOf 3 = 1 by kernel_rfl] at r3
 obtain ⟨_, _, g4⟩ := hf 4 _ rfl
 obtain ⟨a4, _, r4⟩ := (Z8j (ZxT Tryz.underlying22 (of_decide_eq_true (by kernel_rfl)) (fun _ => rfl) (Zo6 43 (by rfl) (by kernel_rfl))) fun _ _ => trivial : Z97 enc Tryz.prog w 22 (fun l : List Zp => [eL ZF l]) (fun _ => True)) _ _ _ g4
 change Z2O w _ ((cs.drop 4).take (Tryz.prog.cellsOf 22)) at r4
 rw [show Tryz.prog.cellsOf 22 = 1 by kernel_rfl] at r4
 have cl : Tryz.prog.cellsOf t = 5 := hn
 exact ⟨⟨a0, a1, a2, a3, a4⟩, trivial, (Z2O.next (o := 0) (n := 1) r0 (Z2O.next (o := 1) (n := 1) r1 (Z2O.next (o := 2) (n := 1) r2 (Z2O.next (o := 3) (n := 1) r3 (Z2O.next (o := 4) (n := 1) r4 (show Z2O w [] (cs.drop 5) by rw [List.drop_of_length_le (by rw [hl, cl]; exact Nat.le_refl _)]; exact Z2O.nil))))))⟩
end
end Go.Proofs.YteoeggbihfnbfaaGreatDoor.N2
end
section
set_option linter.unusedSimpArgs false
set_option linter.unusedVariables false
namespace Go.Proofs.YteoeggbihfnbfaaGreatDoor
open Go Go.Abs Go.RowKit Go.ChangeShapes Go.WideShapes Go.ChangeAt
namespace N2
theorem ZIg : Zv1 Tryz.prog (Tabs 0 1) XX := by
 intro f m hm args B r h w S β vals hI he
 unfold XX at hm
 split at hm
 ·rename_i hf
  subst hf
  simp only [Option.some.injEq] at hm
  subst hm
  exact Zy1 h w S β vals he
 split at hm
 ·rename_i hf
  subst hf
  simp only [Option.some.injEq] at hm
  subst hm
  exact Zxj h w S β vals hI he
 split at hm
 ·rename_i hf
  subst hf
  simp only [Option.some.injEq] at hm
  subst hm
  exact ZxR h w S β vals he
 split at hm
 ·rename_i hf
  subst hf
  simp only [Option.some.injEq] at hm
  subst hm
  exact Zxh h w S β vals he
 ·simp at hm
theorem progOk : Go.Abs.progOk PP XX HH = true := by kernel_rfl
theorem fspec : Zaa PP (Tabs 0 1) EE := ZEr (Tabs.pers 0 1) mixed ZIg progOk
end N2
theorem own : ownKnob Tryz.prog.godebug = none := by kernel_rfl
theorem laidOut : laidOutB Tryz.prog = true := by kernel_rfl
def ren8 : Go.Shelf.Ren := ⟨fun n => n, fun | 119 => 239 | 138 => 241 | 139 => 242 | n => n, fun | 3 => 0 | 4 => 1 | n => n⟩
theorem ZGx : U8Types Tryz.prog ren8 := ⟨Tryz.underlying5, Tryz.underlying239, Tryz.underlying241, Tryz.underlying242⟩
def ZiQ : List (String × DataW Unit) := [("unicode/utf8.acceptRanges", Rows.laid_unicode_utf8_acceptRanges), ("unicode/utf8.first", Rows.laid_unicode_utf8_first)]
theorem Zv6 : (Rows.laid_unicode_utf8_acceptRanges : DataW Unit) = Lib.acceptData := by kernel_rfl
theorem ZrZ : Rows.laid_unicode_utf8_first = Lib.firstData := by kernel_rfl
theorem ZGw {W : World} (h : laidMetH Tryz.prog ZiQ W) : Lib.Utf8Tabs 0 1 W := by
 rw [MakeChecks.laidMetH_plain _ _ _ (by kernel_rfl)] at h
 have e : ZiQ = [("unicode/utf8.acceptRanges", Lib.acceptData), ("unicode/utf8.first", Lib.firstData)] := by unfold ZiQ; rw [Zv6, ZrZ]
 rw [e] at h
 exact utf8Tabs_of_readsT ZGx ⟨by kernel_rfl, by kernel_rfl, by kernel_rfl, by kernel_rfl, by kernel_rfl, by kernel_rfl, by kernel_rfl⟩ (Lib.laidMet.reads h (.tail _ (.head _))) (Lib.laidMet.reads h (.head _))
noncomputable def ZuH (os : Os) : World :=
 let w0 := World.holding Tryz.prog os ⟨#[], #[], []⟩
 let put (h : Array Obj) (g : Nat) (cs : Array Value) : Array Obj := h.modify g fun
  | .cells _ t frozen => .cells cs t frozen
  | o => o
 let h1 := put w0.heap 0 (Lib.firstTab.map fun z => Value.int .u8 z).toArray
 let h2 := put h1 1 ((List.range 16).flatMap fun i => [Value.int .u8 (Lib.accLo i), Value.int .u8 (Lib.accHi i)]).toArray
 { w0 with heap := h2 }
theorem ZDJ (os : Os) (args : Array Value) : laidMetH Tryz.prog ZiQ ((ZuH os).forCall (fun _ _ => 0) ⟨#[], args, []⟩).memory := by
 rw [MakeChecks.laidMetH_plain _ _ _ (by kernel_rfl)]
 have e : ZiQ = [("unicode/utf8.acceptRanges", Lib.acceptData), ("unicode/utf8.first", Lib.firstData)] := by unfold ZiQ; rw [Zv6, ZrZ]
 rw [e]
 exact (LaidIn.of_run (l := [("unicode/utf8.acceptRanges", Lib.acceptData), ("unicode/utf8.first", Lib.firstData)]) [0, 1] 8 (by kernel_rfl) (by kernel_rfl) (by kernel_rfl) (by kernel_rfl)).met
end Go.Proofs.YteoeggbihfnbfaaGreatDoor
end
