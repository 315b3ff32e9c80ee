/- From the rows' data to the evaluator's. No condition. -/
import Derived.Test.YtbmmhbpalkepeaaSim
import Derived.Test.YtbmmhbpalkepeaaTypA
import Derived.Test.YtbmmhbpalkepeaaExt
import Derived.Test.YtbmmhbpalkepeaaRows
import Derived.WalkKit
import Derived.ProofKit
import Derived.OpenShut
import Derived.ChangeOld
import Derived.Below

section
set_option linter.unusedSimpArgs false
set_option linter.unusedVariables false
namespace Go.Proofs.Ytbmmhbpalkepeaa.N2
open Go Go.Abs Go.RowKit
set_option linter.unusedVariables false
set_option maxRecDepth 100000
section
variable {H : Type} {enc : TypeId × Value → H} {w : World}
theorem op_Srule_Rule (t : TypeId) (ht : Try.prog.underlying t = Try.prog.underlying 42) (hn : Try.prog.cellsOf t = 5) : Opens enc Try.prog w t c_Srule_Rule (fun _ => True) := by
  intro fuel cs x h
  obtain ⟨hl, hf⟩ := opens_fields (ht.trans Try.underlying42) h
  obtain ⟨_, _, g0⟩ := hf 0 _ rfl
  obtain ⟨a0, _, r0⟩ := (opens_weak (opens_int Try.underlying3) fun _ _ => trivial : Opens enc Try.prog w 3 (fun n : Int => [eI .i64 n]) (fun _ => True)) _ _ _ g0
  change HeldBy w _ ((cs.drop 0).take (Try.prog.cellsOf 3)) at r0
  rw [show Try.prog.cellsOf 3 = 1 by kernel_rfl] at r0
  obtain ⟨_, _, g1⟩ := hf 1 _ rfl
  obtain ⟨a1, _, r1⟩ := (opens_weak (opens_int Try.underlying3) fun _ _ => trivial : Opens enc Try.prog w 3 (fun n : Int => [eI .i64 n]) (fun _ => True)) _ _ _ g1
  change HeldBy w _ ((cs.drop 1).take (Try.prog.cellsOf 3)) at r1
  rw [show Try.prog.cellsOf 3 = 1 by kernel_rfl] at r1
  obtain ⟨_, _, g2⟩ := hf 2 _ rfl
  obtain ⟨a2, _, r2⟩ := (opens_weak (opens_int Try.underlying3) fun _ _ => trivial : Opens enc Try.prog w 3 (fun n : Int => [eI .i64 n]) (fun _ => True)) _ _ _ g2
  change HeldBy w _ ((cs.drop 2).take (Try.prog.cellsOf 3)) at r2
  rw [show Try.prog.cellsOf 3 = 1 by kernel_rfl] at r2
  obtain ⟨_, _, g3⟩ := hf 3 _ rfl
  obtain ⟨a3, _, r3⟩ := (opens_weak (opens_int Try.underlying3) fun _ _ => trivial : Opens enc Try.prog w 3 (fun n : Int => [eI .i64 n]) (fun _ => True)) _ _ _ g3
  change HeldBy w _ ((cs.drop 3).take (Try.prog.cellsOf 3)) at r3
  rw [show Try.prog.cellsOf 3 = 1 by kernel_rfl] at r3
  obtain ⟨_, _, g4⟩ := hf 4 _ rfl
  obtain ⟨a4, _, r4⟩ := (opens_weak (opens_str Try.underlying9) fun _ _ => trivial : Opens enc Try.prog w 9 (fun n : ByteArray => [eS n]) (fun _ => True)) _ _ _ g4
  change HeldBy w _ ((cs.drop 4).take (Try.prog.cellsOf 9)) at r4
  rw [show Try.prog.cellsOf 9 = 1 by kernel_rfl] at r4
  have cl : Try.prog.cellsOf t = 5 := hn
  exact ⟨⟨a0, a1, a2, a3, a4⟩, trivial, (HeldBy.next (o := 0) (n := 1) r0 (HeldBy.next (o := 1) (n := 1) r1 (HeldBy.next (o := 2) (n := 1) r2 (HeldBy.next (o := 3) (n := 1) r3 (HeldBy.next (o := 4) (n := 1) r4 (show HeldBy w [] (cs.drop 5) by rw [List.drop_of_length_le (by rw [hl, cl]; exact Nat.le_refl _)]; exact HeldBy.nil))))))⟩
theorem op_Srule_Set (t : TypeId) (ht : Try.prog.underlying t = Try.prog.underlying 23) (hn : Try.prog.cellsOf t = 5) : Opens enc Try.prog w t c_Srule_Set (fun _ => True) := by
  intro fuel cs x h
  obtain ⟨hl, hf⟩ := opens_fields (ht.trans Try.underlying23) h
  obtain ⟨_, _, g0⟩ := hf 0 _ rfl
  obtain ⟨a0, _, r0⟩ := (opens_weak (opens_int Try.underlying3) fun _ _ => trivial : Opens enc Try.prog w 3 (fun n : Int => [eI .i64 n]) (fun _ => True)) _ _ _ g0
  change HeldBy w _ ((cs.drop 0).take (Try.prog.cellsOf 3)) at r0
  rw [show Try.prog.cellsOf 3 = 1 by kernel_rfl] at r0
  obtain ⟨_, _, g1⟩ := hf 1 _ rfl
  obtain ⟨a1, _, r1⟩ := (opens_weak (opens_int Try.underlying3) fun _ _ => trivial : Opens enc Try.prog w 3 (fun n : Int => [eI .i64 n]) (fun _ => True)) _ _ _ g1
  change HeldBy w _ ((cs.drop 1).take (Try.prog.cellsOf 3)) at r1
  rw [show Try.prog.cellsOf 3 = 1 by kernel_rfl] at r1
  obtain ⟨_, _, g2⟩ := hf 2 _ rfl
  obtain ⟨a2, _, r2⟩ := (opens_weak (opens_int Try.underlying3) fun _ _ => trivial : Opens enc Try.prog w 3 (fun n : Int => [eI .i64 n]) (fun _ => True)) _ _ _ g2
  change HeldBy w _ ((cs.drop 2).take (Try.prog.cellsOf 3)) at r2
  rw [show Try.prog.cellsOf 3 = 1 by kernel_rfl] at r2
  obtain ⟨_, _, g3⟩ := hf 3 _ rfl
  obtain ⟨a3, _, r3⟩ := (opens_weak (opens_int Try.underlying3) fun _ _ => trivial : Opens enc Try.prog w 3 (fun n : Int => [eI .i64 n]) (fun _ => True)) _ _ _ g3
  change HeldBy w _ ((cs.drop 3).take (Try.prog.cellsOf 3)) at r3
  rw [show Try.prog.cellsOf 3 = 1 by kernel_rfl] at r3
  obtain ⟨_, _, g4⟩ := hf 4 _ rfl
  obtain ⟨a4, _, r4⟩ := (opens_weak (opens_slice Try.underlying22 (of_decide_eq_true (by kernel_rfl)) (fun _ => rfl) (op_Srule_Rule 43 (by rfl) (by kernel_rfl))) fun _ _ => trivial : Opens enc Try.prog w 22 (fun l : List Srule_Rule => [eL e_Srule_Rule l]) (fun _ => True)) _ _ _ g4
  change HeldBy w _ ((cs.drop 4).take (Try.prog.cellsOf 22)) at r4
  rw [show Try.prog.cellsOf 22 = 1 by kernel_rfl] at r4
  have cl : Try.prog.cellsOf t = 5 := hn
  exact ⟨⟨a0, a1, a2, a3, a4⟩, trivial, (HeldBy.next (o := 0) (n := 1) r0 (HeldBy.next (o := 1) (n := 1) r1 (HeldBy.next (o := 2) (n := 1) r2 (HeldBy.next (o := 3) (n := 1) r3 (HeldBy.next (o := 4) (n := 1) r4 (show HeldBy w [] (cs.drop 5) by rw [List.drop_of_length_le (by rw [hl, cl]; exact Nat.le_refl _)]; exact HeldBy.nil))))))⟩
theorem op_Srule_Delta (t : TypeId) (ht : Try.prog.underlying t = Try.prog.underlying 26) (hn : Try.prog.cellsOf t = 6) : Opens enc Try.prog w t c_Srule_Delta (fun _ => True) := by
  intro fuel cs x h
  obtain ⟨hl, hf⟩ := opens_fields (ht.trans Try.underlying26) h
  obtain ⟨_, _, g0⟩ := hf 0 _ rfl
  obtain ⟨a0, _, r0⟩ := (opens_weak (opens_int Try.underlying3) fun _ _ => trivial : Opens enc Try.prog w 3 (fun n : Int => [eI .i64 n]) (fun _ => True)) _ _ _ g0
  change HeldBy w _ ((cs.drop 0).take (Try.prog.cellsOf 3)) at r0
  rw [show Try.prog.cellsOf 3 = 1 by kernel_rfl] at r0
  obtain ⟨_, _, g1⟩ := hf 1 _ rfl
  obtain ⟨a1, _, r1⟩ := (opens_weak (opens_int Try.underlying3) fun _ _ => trivial : Opens enc Try.prog w 3 (fun n : Int => [eI .i64 n]) (fun _ => True)) _ _ _ g1
  change HeldBy w _ ((cs.drop 1).take (Try.prog.cellsOf 3)) at r1
  rw [show Try.prog.cellsOf 3 = 1 by kernel_rfl] at r1
  obtain ⟨_, _, g2⟩ := hf 2 _ rfl
  obtain ⟨a2, _, r2⟩ := (opens_weak (opens_int Try.underlying3) fun _ _ => trivial : Opens enc Try.prog w 3 (fun n : Int => [eI .i64 n]) (fun _ => True)) _ _ _ g2
  change HeldBy w _ ((cs.drop 2).take (Try.prog.cellsOf 3)) at r2
  rw [show Try.prog.cellsOf 3 = 1 by kernel_rfl] at r2
  obtain ⟨_, _, g3⟩ := hf 3 _ rfl
  obtain ⟨a3, _, r3⟩ := (opens_weak (opens_int Try.underlying3) fun _ _ => trivial : Opens enc Try.prog w 3 (fun n : Int => [eI .i64 n]) (fun _ => True)) _ _ _ g3
  change HeldBy w _ ((cs.drop 3).take (Try.prog.cellsOf 3)) at r3
  rw [show Try.prog.cellsOf 3 = 1 by kernel_rfl] at r3
  obtain ⟨_, _, g4⟩ := hf 4 _ rfl
  obtain ⟨a4, _, r4⟩ := (opens_weak (opens_slice Try.underlying22 (of_decide_eq_true (by kernel_rfl)) (fun _ => rfl) (op_Srule_Rule 43 (by rfl) (by kernel_rfl))) fun _ _ => trivial : Opens enc Try.prog w 22 (fun l : List Srule_Rule => [eL e_Srule_Rule l]) (fun _ => True)) _ _ _ g4
  change HeldBy w _ ((cs.drop 4).take (Try.prog.cellsOf 22)) at r4
  rw [show Try.prog.cellsOf 22 = 1 by kernel_rfl] at r4
  obtain ⟨_, _, g5⟩ := hf 5 _ rfl
  obtain ⟨a5, _, r5⟩ := (opens_weak (opens_slice Try.underlying25 (of_decide_eq_true (by kernel_rfl)) (fun _ => rfl) (opens_weak (opens_int Try.underlying3) fun _ _ => trivial : Opens enc Try.prog w 3 (fun n : Int => [eI .i64 n]) (fun _ => True))) fun _ _ => trivial : Opens enc Try.prog w 25 (fun l : List Int => [eL (eI .i64) l]) (fun _ => True)) _ _ _ g5
  change HeldBy w _ ((cs.drop 5).take (Try.prog.cellsOf 25)) at r5
  rw [show Try.prog.cellsOf 25 = 1 by kernel_rfl] at r5
  have cl : Try.prog.cellsOf t = 6 := hn
  exact ⟨⟨a0, a1, a2, a3, a4, a5⟩, trivial, (HeldBy.next (o := 0) (n := 1) r0 (HeldBy.next (o := 1) (n := 1) r1 (HeldBy.next (o := 2) (n := 1) r2 (HeldBy.next (o := 3) (n := 1) r3 (HeldBy.next (o := 4) (n := 1) r4 (HeldBy.next (o := 5) (n := 1) r5 (show HeldBy w [] (cs.drop 6) by rw [List.drop_of_length_le (by rw [hl, cl]; exact Nat.le_refl _)]; exact HeldBy.nil)))))))⟩
theorem op_Scolanderref07_Set (t : TypeId) (ht : Try.prog.underlying t = Try.prog.underlying 35) (hn : Try.prog.cellsOf t = 5) : Opens enc Try.prog w t c_Scolanderref07_Set (fun _ => True) := by
  intro fuel cs x h
  obtain ⟨hl, hf⟩ := opens_fields (ht.trans Try.underlying35) h
  obtain ⟨_, _, g0⟩ := hf 0 _ rfl
  obtain ⟨a0, _, r0⟩ := (opens_weak (opens_int Try.underlying3) fun _ _ => trivial : Opens enc Try.prog w 3 (fun n : Int => [eI .i64 n]) (fun _ => True)) _ _ _ g0
  change HeldBy w _ ((cs.drop 0).take (Try.prog.cellsOf 3)) at r0
  rw [show Try.prog.cellsOf 3 = 1 by kernel_rfl] at r0
  obtain ⟨_, _, g1⟩ := hf 1 _ rfl
  obtain ⟨a1, _, r1⟩ := (opens_weak (opens_int Try.underlying3) fun _ _ => trivial : Opens enc Try.prog w 3 (fun n : Int => [eI .i64 n]) (fun _ => True)) _ _ _ g1
  change HeldBy w _ ((cs.drop 1).take (Try.prog.cellsOf 3)) at r1
  rw [show Try.prog.cellsOf 3 = 1 by kernel_rfl] at r1
  obtain ⟨_, _, g2⟩ := hf 2 _ rfl
  obtain ⟨a2, _, r2⟩ := (opens_weak (opens_int Try.underlying3) fun _ _ => trivial : Opens enc Try.prog w 3 (fun n : Int => [eI .i64 n]) (fun _ => True)) _ _ _ g2
  change HeldBy w _ ((cs.drop 2).take (Try.prog.cellsOf 3)) at r2
  rw [show Try.prog.cellsOf 3 = 1 by kernel_rfl] at r2
  obtain ⟨_, _, g3⟩ := hf 3 _ rfl
  obtain ⟨a3, _, r3⟩ := (opens_weak (opens_int Try.underlying3) fun _ _ => trivial : Opens enc Try.prog w 3 (fun n : Int => [eI .i64 n]) (fun _ => True)) _ _ _ g3
  change HeldBy w _ ((cs.drop 3).take (Try.prog.cellsOf 3)) at r3
  rw [show Try.prog.cellsOf 3 = 1 by kernel_rfl] at r3
  obtain ⟨_, _, g4⟩ := hf 4 _ rfl
  obtain ⟨a4, _, r4⟩ := (opens_weak (opens_slice Try.underlying34 (of_decide_eq_true (by kernel_rfl)) (fun _ => rfl) (op_Srule_Rule 69 (by rfl) (by kernel_rfl))) fun _ _ => trivial : Opens enc Try.prog w 34 (fun l : List Srule_Rule => [eL e_Srule_Rule l]) (fun _ => True)) _ _ _ g4
  change HeldBy w _ ((cs.drop 4).take (Try.prog.cellsOf 34)) at r4
  rw [show Try.prog.cellsOf 34 = 1 by kernel_rfl] at r4
  have cl : Try.prog.cellsOf t = 5 := hn
  exact ⟨⟨a0, a1, a2, a3, a4⟩, trivial, (HeldBy.next (o := 0) (n := 1) r0 (HeldBy.next (o := 1) (n := 1) r1 (HeldBy.next (o := 2) (n := 1) r2 (HeldBy.next (o := 3) (n := 1) r3 (HeldBy.next (o := 4) (n := 1) r4 (show HeldBy w [] (cs.drop 5) by rw [List.drop_of_length_le (by rw [hl, cl]; exact Nat.le_refl _)]; exact HeldBy.nil))))))⟩
theorem op_Scolanderref07_Delta (t : TypeId) (ht : Try.prog.underlying t = Try.prog.underlying 47) (hn : Try.prog.cellsOf t = 6) : Opens enc Try.prog w t c_Scolanderref07_Delta (fun _ => True) := by
  intro fuel cs x h
  obtain ⟨hl, hf⟩ := opens_fields (ht.trans Try.underlying47) h
  obtain ⟨_, _, g0⟩ := hf 0 _ rfl
  obtain ⟨a0, _, r0⟩ := (opens_weak (opens_int Try.underlying3) fun _ _ => trivial : Opens enc Try.prog w 3 (fun n : Int => [eI .i64 n]) (fun _ => True)) _ _ _ g0
  change HeldBy w _ ((cs.drop 0).take (Try.prog.cellsOf 3)) at r0
  rw [show Try.prog.cellsOf 3 = 1 by kernel_rfl] at r0
  obtain ⟨_, _, g1⟩ := hf 1 _ rfl
  obtain ⟨a1, _, r1⟩ := (opens_weak (opens_int Try.underlying3) fun _ _ => trivial : Opens enc Try.prog w 3 (fun n : Int => [eI .i64 n]) (fun _ => True)) _ _ _ g1
  change HeldBy w _ ((cs.drop 1).take (Try.prog.cellsOf 3)) at r1
  rw [show Try.prog.cellsOf 3 = 1 by kernel_rfl] at r1
  obtain ⟨_, _, g2⟩ := hf 2 _ rfl
  obtain ⟨a2, _, r2⟩ := (opens_weak (opens_int Try.underlying3) fun _ _ => trivial : Opens enc Try.prog w 3 (fun n : Int => [eI .i64 n]) (fun _ => True)) _ _ _ g2
  change HeldBy w _ ((cs.drop 2).take (Try.prog.cellsOf 3)) at r2
  rw [show Try.prog.cellsOf 3 = 1 by kernel_rfl] at r2
  obtain ⟨_, _, g3⟩ := hf 3 _ rfl
  obtain ⟨a3, _, r3⟩ := (opens_weak (opens_int Try.underlying3) fun _ _ => trivial : Opens enc Try.prog w 3 (fun n : Int => [eI .i64 n]) (fun _ => True)) _ _ _ g3
  change HeldBy w _ ((cs.drop 3).take (Try.prog.cellsOf 3)) at r3
  rw [show Try.prog.cellsOf 3 = 1 by kernel_rfl] at r3
  obtain ⟨_, _, g4⟩ := hf 4 _ rfl
  obtain ⟨a4, _, r4⟩ := (opens_weak (opens_slice Try.underlying34 (of_decide_eq_true (by kernel_rfl)) (fun _ => rfl) (op_Srule_Rule 69 (by rfl) (by kernel_rfl))) fun _ _ => trivial : Opens enc Try.prog w 34 (fun l : List Srule_Rule => [eL e_Srule_Rule l]) (fun _ => True)) _ _ _ g4
  change HeldBy w _ ((cs.drop 4).take (Try.prog.cellsOf 34)) at r4
  rw [show Try.prog.cellsOf 34 = 1 by kernel_rfl] at r4
  obtain ⟨_, _, g5⟩ := hf 5 _ rfl
  obtain ⟨a5, _, r5⟩ := (opens_weak (opens_slice Try.underlying25 (of_decide_eq_true (by kernel_rfl)) (fun _ => rfl) (opens_weak (opens_int Try.underlying3) fun _ _ => trivial : Opens enc Try.prog w 3 (fun n : Int => [eI .i64 n]) (fun _ => True))) fun _ _ => trivial : Opens enc Try.prog w 25 (fun l : List Int => [eL (eI .i64) l]) (fun _ => True)) _ _ _ g5
  change HeldBy w _ ((cs.drop 5).take (Try.prog.cellsOf 25)) at r5
  rw [show Try.prog.cellsOf 25 = 1 by kernel_rfl] at r5
  have cl : Try.prog.cellsOf t = 6 := hn
  exact ⟨⟨a0, a1, a2, a3, a4, a5⟩, trivial, (HeldBy.next (o := 0) (n := 1) r0 (HeldBy.next (o := 1) (n := 1) r1 (HeldBy.next (o := 2) (n := 1) r2 (HeldBy.next (o := 3) (n := 1) r3 (HeldBy.next (o := 4) (n := 1) r4 (HeldBy.next (o := 5) (n := 1) r5 (show HeldBy w [] (cs.drop 6) by rw [List.drop_of_length_le (by rw [hl, cl]; exact Nat.le_refl _)]; exact HeldBy.nil)))))))⟩
end
end Go.Proofs.Ytbmmhbpalkepeaa.N2
end

section
set_option linter.unusedSimpArgs false
set_option linter.unusedVariables false
/- From the rows' data to the evaluator's. Conditions: none. -/
namespace Go.Proofs.Ytbmmhbpalkepeaa
open Go Go.Abs Go.RowKit Go.ChangeShapes Go.WideShapes Go.ChangeAt

theorem mixed : Try.prog.follows .mixedOrders = true := by kernel_rfl
namespace N2
abbrev II : Inv := fun _ _ => True
theorem xspec : XSpec Try.prog II XX := by
  intro f m hm args B r h w S β vals hI he
  unfold XX at hm
  split at hm
  · rename_i hf
    subst hf
    simp only [Option.some.injEq] at hm
    subst hm
    exact sorted_spec h w S β vals he
  · split at hm
    · simp only [Option.some.injEq] at hm
      subst hm
      simp [xStable] at h
    · simp at hm
theorem progOk : Go.Abs.progOk PP XX HH = true := by kernel_rfl
theorem fspec : FSpec PP II EE := E_sound (fun _ _ _ _ _ _ => trivial) mixed xspec progOk
end N2

theorem own : ownKnob Try.prog.godebug = none := by kernel_rfl
theorem laidOut : laidOutB Try.prog = true := by kernel_rfl

end Go.Proofs.Ytbmmhbpalkepeaa
end
