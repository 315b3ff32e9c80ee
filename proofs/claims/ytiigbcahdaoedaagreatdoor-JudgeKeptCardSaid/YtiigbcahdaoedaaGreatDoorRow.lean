/- From the rows' data to the evaluator's; the witness. Condition: the tables lie as they are laid. -/
import Derived.Test.YtiigbcahdaoedaaGreatDoorSim
import Derived.Test.YtiigbcahdaoedaaGreatDoorTypA
import Derived.Test.YtiigbcahdaoedaaGreatDoorTop
import Derived.Test.YtiigbcahdaoedaaGreatDoorRows
import Derived.WalkKit
import Derived.ProofKit
import Derived.OpenShut
import Derived.ChangeOld
import Derived.ChangeMaps5
import Derived.Below
import Derived.LaidMore
import Derived.Lib.LaidU8
import Derived.Lib.LaidIn
import Derived.Stop.Joined

set_option linter.unusedSimpArgs false
set_option linter.unusedVariables false
set_option linter.defProp false
noncomputable section
namespace Go.Proofs.YtiigbcahdaoedaaGreatDoor.N2
open Go Go.Abs Go.RowKit
set_option maxRecDepth 100000
section
variable {H : Type} {enc : TypeId × Value → H} {w : World}
theorem Zgp : Z66 enc Tryz.prog w 3 (fun n : Int => [eI .i64 n]) (fun _ => True) := Z84 (ZfT Tryz.underlying3) fun _ _ => trivial
theorem cl_ {l : List PV} {c : List Value} {n k : Nat} (r : Z1r w l (c.take n)) (h : n = k) : Z1r w l (c.take k) := h ▸ r
theorem ZiK (t : TypeId) (ht : Tryz.prog.underlying t = Tryz.prog.underlying 102) (hn : Tryz.prog.cellsOf t = 5) : Z66 enc Tryz.prog w t Z1L (fun _ => True) := by
 intro fuel cs x h
 obtain ⟨hl, hf⟩ := Ze8 (ht.trans Tryz.underlying102) h
 obtain ⟨_, _, g0⟩ := hf 0 _ rfl
 obtain ⟨a0, _, r0⟩ := Zgp _ _ _ g0
 replace r0 := cl_ r0 (show Tryz.prog.cellsOf 3 = 1 by kernel_rfl)
 obtain ⟨_, _, g1⟩ := hf 1 _ rfl
 obtain ⟨a1, _, r1⟩ := Zgp _ _ _ g1
 replace r1 := cl_ r1 (show Tryz.prog.cellsOf 3 = 1 by kernel_rfl)
 obtain ⟨_, _, g2⟩ := hf 2 _ rfl
 obtain ⟨a2, _, r2⟩ := Zgp _ _ _ g2
 replace r2 := cl_ r2 (show Tryz.prog.cellsOf 3 = 1 by kernel_rfl)
 obtain ⟨_, _, g3⟩ := hf 3 _ rfl
 obtain ⟨a3, _, r3⟩ := Zgp _ _ _ g3
 replace r3 := cl_ r3 (show Tryz.prog.cellsOf 3 = 1 by kernel_rfl)
 obtain ⟨_, _, g4⟩ := hf 4 _ rfl
 obtain ⟨a4, _, r4⟩ := (Z84 (ZAB Tryz.underlying9) fun _ _ => trivial : Z66 enc Tryz.prog w 9 (fun n : ByteArray => [eS n]) (fun _ => True)) _ _ _ g4
 replace r4 := cl_ r4 (show Tryz.prog.cellsOf 9 = 1 by kernel_rfl)
 have cl : Tryz.prog.cellsOf t = 5 := hn
 exact ⟨⟨a0, a1, a2, a3, a4⟩, trivial, (Z1r.next (o := 0) (n := 1) r0 (Z1r.next (o := 1) (n := 1) r1 (Z1r.next (o := 2) (n := 1) r2 (Z1r.next (o := 3) (n := 1) r3 (Z1r.next (o := 4) (n := 1) r4 (show Z1r w [] (cs.drop 5) by rw [q5_ (by rw [hl, cl]; exact Z2w _)]; exact Z1r.nil))))))⟩
theorem ZqC (t : TypeId) (ht : Tryz.prog.underlying t = Tryz.prog.underlying 78) (hn : Tryz.prog.cellsOf t = 6) : Z66 enc Tryz.prog w t Zg0 (fun _ => True) := by
 intro fuel cs x h
 obtain ⟨hl, hf⟩ := Ze8 (ht.trans Tryz.underlying78) h
 obtain ⟨_, _, g0⟩ := hf 0 _ rfl
 obtain ⟨a0, _, r0⟩ := Zgp _ _ _ g0
 replace r0 := cl_ r0 (show Tryz.prog.cellsOf 3 = 1 by kernel_rfl)
 obtain ⟨_, _, g1⟩ := hf 1 _ rfl
 obtain ⟨a1, _, r1⟩ := Zgp _ _ _ g1
 replace r1 := cl_ r1 (show Tryz.prog.cellsOf 3 = 1 by kernel_rfl)
 obtain ⟨_, _, g2⟩ := hf 2 _ rfl
 obtain ⟨a2, _, r2⟩ := Zgp _ _ _ g2
 replace r2 := cl_ r2 (show Tryz.prog.cellsOf 3 = 1 by kernel_rfl)
 obtain ⟨_, _, g3⟩ := hf 3 _ rfl
 obtain ⟨a3, _, r3⟩ := Zgp _ _ _ g3
 replace r3 := cl_ r3 (show Tryz.prog.cellsOf 3 = 1 by kernel_rfl)
 obtain ⟨_, _, g4⟩ := hf 4 _ rfl
 obtain ⟨a4, _, r4⟩ := (Z84 (Zax Tryz.underlying49 (of_decide_eq_true (by kernel_rfl)) (fun _ => rfl) (ZiK 104 (by rfl) (by kernel_rfl))) fun _ _ => trivial : Z66 enc Tryz.prog w 49 (fun l : List Z9 => [eL Z8 l]) (fun _ => True)) _ _ _ g4
 replace r4 := cl_ r4 (show Tryz.prog.cellsOf 49 = 1 by kernel_rfl)
 obtain ⟨_, _, g5⟩ := hf 5 _ rfl
 obtain ⟨a5, _, r5⟩ := (Z84 (Zax Tryz.underlying77 (of_decide_eq_true (by kernel_rfl)) (fun _ => rfl) Zgp) fun _ _ => trivial : Z66 enc Tryz.prog w 77 (fun l : List Int => [eL (eI .i64) l]) (fun _ => True)) _ _ _ g5
 replace r5 := cl_ r5 (show Tryz.prog.cellsOf 77 = 1 by kernel_rfl)
 have cl : Tryz.prog.cellsOf t = 6 := hn
 exact ⟨⟨a0, a1, a2, a3, a4, a5⟩, trivial, (Z1r.next (o := 0) (n := 1) r0 (Z1r.next (o := 1) (n := 1) r1 (Z1r.next (o := 2) (n := 1) r2 (Z1r.next (o := 3) (n := 1) r3 (Z1r.next (o := 4) (n := 1) r4 (Z1r.next (o := 5) (n := 1) r5 (show Z1r w [] (cs.drop 6) by rw [q5_ (by rw [hl, cl]; exact Z2w _)]; exact Z1r.nil)))))))⟩
theorem ZqB (t : TypeId) (ht : Tryz.prog.underlying t = Tryz.prog.underlying 80) (hn : Tryz.prog.cellsOf t = 9) : Z66 enc Tryz.prog w t Z36 (fun _ => True) := by
 intro fuel cs x h
 obtain ⟨hl, hf⟩ := Ze8 (ht.trans Tryz.underlying80) h
 obtain ⟨_, _, g0⟩ := hf 0 _ rfl
 obtain ⟨a0, _, r0⟩ := Zgp _ _ _ g0
 replace r0 := cl_ r0 (show Tryz.prog.cellsOf 3 = 1 by kernel_rfl)
 obtain ⟨_, _, g1⟩ := hf 1 _ rfl
 obtain ⟨a1, _, r1⟩ := Zgp _ _ _ g1
 replace r1 := cl_ r1 (show Tryz.prog.cellsOf 3 = 1 by kernel_rfl)
 obtain ⟨_, _, g2⟩ := hf 2 _ rfl
 obtain ⟨a2, _, r2⟩ := Zgp _ _ _ g2
 replace r2 := cl_ r2 (show Tryz.prog.cellsOf 3 = 1 by kernel_rfl)
 obtain ⟨_, _, g3⟩ := hf 3 _ rfl
 obtain ⟨a3, _, r3⟩ := (ZqC 79 (by rfl) (by kernel_rfl)) _ _ _ g3
 replace r3 := cl_ r3 (show Tryz.prog.cellsOf 79 = 6 by kernel_rfl)
 have cl : Tryz.prog.cellsOf t = 9 := hn
 exact ⟨⟨a0, a1, a2, a3⟩, trivial, (Z1r.next (o := 0) (n := 1) r0 (Z1r.next (o := 1) (n := 1) r1 (Z1r.next (o := 2) (n := 1) r2 (Z1r.next (o := 3) (n := 6) r3 (show Z1r w [] (cs.drop 9) by rw [q5_ (by rw [hl, cl]; exact Z2w _)]; exact Z1r.nil)))))⟩
end
end Go.Proofs.YtiigbcahdaoedaaGreatDoor.N2
end
section
namespace Go.Proofs.YtiigbcahdaoedaaGreatDoor.N3
open N2
open Go Go.Abs Go.RowKit
set_option maxRecDepth 100000
section
variable {H : Type} {enc : TypeId × Value → H} {w : World}
theorem op_SState19 (t : TypeId) (ht : Tryz.prog.underlying t = Tryz.prog.underlying 38) (hn : Tryz.prog.cellsOf t = 5) : Z66 enc Tryz.prog w t Z27 (fun s => s.Log.length ≤ maxLen) := by
 intro fuel cs x h
 obtain ⟨hl, hf⟩ := Ze8 (ht.trans Tryz.underlying38) h
 obtain ⟨_, _, g0⟩ := hf 0 _ rfl
 obtain ⟨a0, _, r0⟩ := (Z84 (ZfT Tryz.underlying3) fun _ _ => trivial : Z66 enc Tryz.prog w 3 (fun n : Int => [eI .i64 n]) (fun _ => True)) _ _ _ g0
 change Z1r w _ ((cs.drop 0).take (Tryz.prog.cellsOf 3)) at r0
 rw [show Tryz.prog.cellsOf 3 = 1 by kernel_rfl] at r0
 obtain ⟨_, _, g1⟩ := hf 1 _ rfl
 obtain ⟨a1, _, r1⟩ := (Z84 (ZfT Tryz.underlying3) fun _ _ => trivial : Z66 enc Tryz.prog w 3 (fun n : Int => [eI .i64 n]) (fun _ => True)) _ _ _ g1
 change Z1r w _ ((cs.drop 1).take (Tryz.prog.cellsOf 3)) at r1
 rw [show Tryz.prog.cellsOf 3 = 1 by kernel_rfl] at r1
 obtain ⟨_, _, g2⟩ := hf 2 _ rfl
 obtain ⟨a2, _, r2⟩ := (Z84 (ZfT Tryz.underlying3) fun _ _ => trivial : Z66 enc Tryz.prog w 3 (fun n : Int => [eI .i64 n]) (fun _ => True)) _ _ _ g2
 change Z1r w _ ((cs.drop 2).take (Tryz.prog.cellsOf 3)) at r2
 rw [show Tryz.prog.cellsOf 3 = 1 by kernel_rfl] at r2
 obtain ⟨_, _, g3⟩ := hf 3 _ rfl
 obtain ⟨a3, _, r3⟩ := (Z84 (ZfT Tryz.underlying3) fun _ _ => trivial : Z66 enc Tryz.prog w 3 (fun n : Int => [eI .i64 n]) (fun _ => True)) _ _ _ g3
 change Z1r w _ ((cs.drop 3).take (Tryz.prog.cellsOf 3)) at r3
 rw [show Tryz.prog.cellsOf 3 = 1 by kernel_rfl] at r3
 obtain ⟨_, _, g4⟩ := hf 4 _ rfl
 obtain ⟨a4, k4, r4⟩ := (Z84 (Zax Tryz.underlying37 (of_decide_eq_true (by kernel_rfl)) (fun _ => rfl) (ZqB 81 (by rfl) (by kernel_rfl))) fun _ h => h.1 : Z66 enc Tryz.prog w 37 (fun l : List Z3 => [eL Z7 l]) (fun l => l.length ≤ maxLen)) _ _ _ g4
 change Z1r w _ ((cs.drop 4).take (Tryz.prog.cellsOf 37)) at r4
 rw [show Tryz.prog.cellsOf 37 = 1 by kernel_rfl] at r4
 have cl : Tryz.prog.cellsOf t = 5 := hn
 exact ⟨⟨a0, a1, a2, a3, a4⟩, k4, (Z1r.next (o := 0) (n := 1) r0 (Z1r.next (o := 1) (n := 1) r1 (Z1r.next (o := 2) (n := 1) r2 (Z1r.next (o := 3) (n := 1) r3 (Z1r.next (o := 4) (n := 1) r4 (show Z1r w [] (cs.drop 5) by rw [q5_ (by rw [hl, cl]; exact Z2w _)]; exact Z1r.nil))))))⟩
end
end Go.Proofs.YtiigbcahdaoedaaGreatDoor.N3
end
section
namespace Go.Proofs.YtiigbcahdaoedaaGreatDoor
open Go Go.Abs Go.RowKit Go.ChangeShapes Go.WideShapes Go.ChangeAt
theorem own : ownKnob Tryz.prog.godebug = none := by kernel_rfl
theorem laidOut : laidOutB Tryz.prog = true := by kernel_rfl
def Z8P : List (String × DataW Unit) := [("unicode/utf8.acceptRanges", Rows.laid_unicode_utf8_acceptRanges), ("unicode/utf8.first", Rows.laid_unicode_utf8_first)]
theorem ZAW : (Rows.laid_unicode_utf8_acceptRanges : DataW Unit) = Lib.acceptData := by kernel_rfl
theorem ZwQ : Rows.laid_unicode_utf8_first = Lib.firstData := by kernel_rfl
noncomputable def Zd9 (os : Os) : World :=
 let w0 := World.holding Tryz.prog os ⟨#[], #[], []⟩
 let put (h : Array Obj) (g : Nat) (cs : Array Value) : Array Obj := h.modify g fun
  | .cells _ t frozen => .cells cs t frozen
  | o => o
 let h1 := put w0.heap 0 (Lib.firstTab.map fun z => Value.int .u8 z).toArray
 let h2 := put h1 1 ((List.range 16).flatMap fun i => [Value.int .u8 (Lib.accLo i), Value.int .u8 (Lib.accHi i)]).toArray
 { w0 with heap := h2 }
theorem Zhq (os : Os) (args : Array Value) : laidMetH Tryz.prog Z8P ((Zd9 os).forCall (fun _ _ => 0) ⟨#[], args, []⟩).memory := by
 rw [MakeChecks.laidMetH_plain _ _ _ (by kernel_rfl)]
 have e : Z8P = [("unicode/utf8.acceptRanges", Lib.acceptData), ("unicode/utf8.first", Lib.firstData)] := by unfold Z8P; rw [ZAW, ZwQ]
 rw [e]
 exact (LaidIn.of_run (l := [("unicode/utf8.acceptRanges", Lib.acceptData), ("unicode/utf8.first", Lib.firstData)]) [0, 1] 8 (by kernel_rfl) (by kernel_rfl) (by kernel_rfl) (by kernel_rfl)).met
end Go.Proofs.YtiigbcahdaoedaaGreatDoor
end
