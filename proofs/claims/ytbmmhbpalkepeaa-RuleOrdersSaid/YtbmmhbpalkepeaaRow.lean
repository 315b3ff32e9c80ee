/- From the rows' data to the evaluator's. No condition. -/
import Derived.Test.YtbmmhbpalkepeaaSim
import Derived.Test.YtbmmhbpalkepeaaTypA
import Derived.Test.YtbmmhbpalkepeaaTop
import Derived.Test.YtbmmhbpalkepeaaRows
import Derived.WalkKit
import Derived.ProofKit
import Derived.OpenShut
import Derived.ChangeOld
import Derived.Below

set_option linter.unusedSimpArgs false
set_option linter.unusedVariables false
set_option linter.defProp false
noncomputable section
namespace Go.Proofs.Ytbmmhbpalkepeaa.N2
open Go Go.Abs Go.RowKit
set_option maxRecDepth 100000
section
variable {H : Type} {enc : TypeId × Value → H} {w : World}
theorem Z73 : Z3g enc Try.prog w 3 (fun n : Int => [eI .i64 n]) (fun _ => True) := Z5W (Zhc Try.underlying3) fun _ _ => trivial
theorem cl_ {l : List PV} {c : List Value} {n k : Nat} (r : Z1i w l (c.take n)) (h : n = k) : Z1i w l (c.take k) := h ▸ r
theorem ZaQ (t : TypeId) (ht : Try.prog.underlying t = Try.prog.underlying 42) (hn : Try.prog.cellsOf t = 5) : Z3g enc Try.prog w t Z1q (fun _ => True) := by
 intro fuel cs x h
 obtain ⟨hl, hf⟩ := Z75 (ht.trans Try.underlying42) h
 obtain ⟨_, _, g0⟩ := hf 0 _ rfl
 obtain ⟨a0, _, r0⟩ := Z73 _ _ _ g0
 replace r0 := cl_ r0 (show Try.prog.cellsOf 3 = 1 by kernel_rfl)
 obtain ⟨_, _, g1⟩ := hf 1 _ rfl
 obtain ⟨a1, _, r1⟩ := Z73 _ _ _ g1
 replace r1 := cl_ r1 (show Try.prog.cellsOf 3 = 1 by kernel_rfl)
 obtain ⟨_, _, g2⟩ := hf 2 _ rfl
 obtain ⟨a2, _, r2⟩ := Z73 _ _ _ g2
 replace r2 := cl_ r2 (show Try.prog.cellsOf 3 = 1 by kernel_rfl)
 obtain ⟨_, _, g3⟩ := hf 3 _ rfl
 obtain ⟨a3, _, r3⟩ := Z73 _ _ _ g3
 replace r3 := cl_ r3 (show Try.prog.cellsOf 3 = 1 by kernel_rfl)
 obtain ⟨_, _, g4⟩ := hf 4 _ rfl
 obtain ⟨a4, _, r4⟩ := (Z5W (Zhd Try.underlying9) fun _ _ => trivial : Z3g enc Try.prog w 9 (fun n : ByteArray => [eS n]) (fun _ => True)) _ _ _ g4
 replace r4 := cl_ r4 (show Try.prog.cellsOf 9 = 1 by kernel_rfl)
 have cl : Try.prog.cellsOf t = 5 := hn
 exact ⟨⟨a0, a1, a2, a3, a4⟩, trivial, (Z1i.next (o := 0) (n := 1) r0 (Z1i.next (o := 1) (n := 1) r1 (Z1i.next (o := 2) (n := 1) r2 (Z1i.next (o := 3) (n := 1) r3 (Z1i.next (o := 4) (n := 1) r4 (show Z1i w [] (cs.drop 5) by rw [Z4e (by rw [hl, cl]; exact Z1y _)]; exact Z1i.nil))))))⟩
theorem Zcf (t : TypeId) (ht : Try.prog.underlying t = Try.prog.underlying 23) (hn : Try.prog.cellsOf t = 5) : Z3g enc Try.prog w t Z4O (fun _ => True) := by
 intro fuel cs x h
 obtain ⟨hl, hf⟩ := Z75 (ht.trans Try.underlying23) h
 obtain ⟨_, _, g0⟩ := hf 0 _ rfl
 obtain ⟨a0, _, r0⟩ := Z73 _ _ _ g0
 replace r0 := cl_ r0 (show Try.prog.cellsOf 3 = 1 by kernel_rfl)
 obtain ⟨_, _, g1⟩ := hf 1 _ rfl
 obtain ⟨a1, _, r1⟩ := Z73 _ _ _ g1
 replace r1 := cl_ r1 (show Try.prog.cellsOf 3 = 1 by kernel_rfl)
 obtain ⟨_, _, g2⟩ := hf 2 _ rfl
 obtain ⟨a2, _, r2⟩ := Z73 _ _ _ g2
 replace r2 := cl_ r2 (show Try.prog.cellsOf 3 = 1 by kernel_rfl)
 obtain ⟨_, _, g3⟩ := hf 3 _ rfl
 obtain ⟨a3, _, r3⟩ := Z73 _ _ _ g3
 replace r3 := cl_ r3 (show Try.prog.cellsOf 3 = 1 by kernel_rfl)
 obtain ⟨_, _, g4⟩ := hf 4 _ rfl
 obtain ⟨a4, _, r4⟩ := (Z5W (Zdl Try.underlying22 (of_decide_eq_true (by kernel_rfl)) (fun _ => rfl) (ZaQ 43 (by rfl) (by kernel_rfl))) fun _ _ => trivial : Z3g enc Try.prog w 22 (fun l : List Z2 => [eL Z4 l]) (fun _ => True)) _ _ _ g4
 replace r4 := cl_ r4 (show Try.prog.cellsOf 22 = 1 by kernel_rfl)
 have cl : Try.prog.cellsOf t = 5 := hn
 exact ⟨⟨a0, a1, a2, a3, a4⟩, trivial, (Z1i.next (o := 0) (n := 1) r0 (Z1i.next (o := 1) (n := 1) r1 (Z1i.next (o := 2) (n := 1) r2 (Z1i.next (o := 3) (n := 1) r3 (Z1i.next (o := 4) (n := 1) r4 (show Z1i w [] (cs.drop 5) by rw [Z4e (by rw [hl, cl]; exact Z1y _)]; exact Z1i.nil))))))⟩
end
end Go.Proofs.Ytbmmhbpalkepeaa.N2
end
section
namespace Go.Proofs.Ytbmmhbpalkepeaa
open Go Go.Abs Go.RowKit Go.ChangeShapes Go.WideShapes Go.ChangeAt
theorem own : ownKnob Try.prog.godebug = none := by kernel_rfl
theorem laidOut : laidOutB Try.prog = true := by kernel_rfl
end Go.Proofs.Ytbmmhbpalkepeaa
end
