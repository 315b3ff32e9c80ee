/- JudgeCommon: true at every input; the input reads as it did. Condition: the tables lie as they are laid, which the card ties. -/
import Derived.Test.YtiigbcahdaoedaaGreatDoorTop
import Derived.Test.YtiigbcahdaoedaaGreatDoorRow
import Derived.Test.YtiigbcahdaoedaaGreatDoorCards
import Derived.Test.YtiigbcahdaoedaaGreatDoorTie
import Derived.SevenTiedAt

set_option linter.unusedSimpArgs false
set_option linter.unusedVariables false
set_option linter.defProp false
section
namespace Go.Proofs.YtiigbcahdaoedaaGreatDoor.N3
open N2
open Go Go.Abs
set_option maxRecDepth 100000
theorem Zuk (l : List Z2) : Z3f l = N2.Z3f l := by
 unfold Z3f N2.Z3f
 rw [low (f := 18) (by kernel_rfl)]
theorem judgeCommon_val (l : List Z0) (h : l.length ≤ maxLen ∧ ∀ s ∈ l, s.Log.length ≤ maxLen) : Z72 l = some true := by
 obtain ⟨b, hb, hs⟩ := Zed l h
 apply ZdC
 unfold Z4M Z3M
 rw [Zdo, ZY, if_neg (by simp), hb, ZY]
 cases b with
 | false => rfl
 | true =>
  rw [if_neg (by simp)]
  obtain ⟨r, m, e1, e2, e3⟩ := ZuO l (hs rfl).1 (hs rfl).2
  unfold Z3N
  rw [ZkX, e1, ZY, Zmw, e2, ZY, Zuk, e3, ZY]
  simp
end Go.Proofs.YtiigbcahdaoedaaGreatDoor.N3
end
section
namespace Go.Proofs.YtiigbcahdaoedaaGreatDoor
open Go Go.Abs Go.RowKit Go.ChangeShapes Go.WideShapes Go.ChangeAt
set_option maxRecDepth 100000 in
theorem Zm7 (os : Os) (started : os.Started) (H : Type) (enc : TypeId × Value → H) :
  ReturnsInHanded {} Tryz.checked os 5 .any (fun w args => (Rows.judgeCommonSpec.pre enc Tryz.prog Tryz.f5 [] false w args ∧ laidMetH Tryz.prog Z8P w) ∧ sizedMet enc Tryz.prog Tryz.f5 (OpenSpec.ofChange Rows.judgeCommonSpec) false w args)
   (Rows.judgeCommonSpec.post enc Tryz.prog Tryz.f5 false true false false) := by
 refine returnsInHanded_of_change_and (C := Tryz.checked) (X := fun w _ => laidMetH Tryz.prog Z8P w) (fun _ _ _ hh h => h.of_heap hh) own started (by kernel_rfl) Tryz.func5
  (ChangeSpec.witness_shaped (enc := enc) (C := Tryz.checked) (os := os) (X := fun w _ => laidMetH Tryz.prog Z8P w) false (Zd9 os) #[.slice none 0 0] 8 rfl (World.shaped_of_RefB (by kernel_rfl) (by kernel_rfl)) (by kernel_rfl) (by kernel_rfl) (by kernel_rfl) (Zhq os _)) ?_
 intro W base args ds gs before hval0 hW _ hsz0 hL _
 have hval : ∀ (j : Nat) t v, Tryz.f5.params[j]? = some t → args[j]? = some v → Value.okWide Tryz.prog W .any base t v := hval0
 have hW' := hW
 have hlt := fun p hp => hW.lt p hp
 obtain ⟨p, q, hA0, hV, rfl, hfz, hnd⟩ := hW
 have hA : DataW.TrodAll enc Tryz.prog W 0 (fun _ => true) true Tryz.f5.params.toList args.toList ds p := hA0
 rw [Tryz.params5] at hA hval
 obtain ⟨v0, d0, rfl, rfl, h0⟩ := trodAll_one hA
 obtain ⟨rfl, rfl⟩ := trodVars_none hV
 obtain ⟨b0, len0, cap0, hs0⟩ := okWide_slice Tryz.underlying22 (hval 0 22 v0 rfl rfl)
 obtain ⟨x0, w0, r0⟩ := row_one (base := base) (by rw [hs0]; rfl) h0 (Zax (ee := N2.Z6) Tryz.underlying22 (of_decide_eq_true (by kernel_rfl)) (fun _ => rfl) (N3.op_SState19 39 (by rfl) (by kernel_rfl)))
 clear hA0 hval0
 simp only [ZbZ, Zmn] at hW' hlt
 obtain ⟨q, hq, ex, rfl⟩ := N3.g_colanderlaw19_JudgeCommon_to x0 .sh true (N3.judgeCommon_val x0 w0)
 refine (Zfl N3.fspec trivial hq rfl ?_).mono ?_
 ·intro i x v hx hv
  match i with
  | 0 =>
   simp only [Z5U, q1_] at hx
   have hv' : v0 = v := by simpa using hv
   subst hx; subst hv'
   exact ⟨.p _ _ r0, rfl⟩
  | i + 1 => simp at hx
 ·rintro e W' ⟨v, S', β', rfl, bel, hr⟩
  have := Z2N hr
  subst this
  refine ⟨_, rfl, _, _, _, [], _, [], hW', trodAll_mk1 (shut_bool Tryz.underlying4 _), trodAll_cons_mk (Below.trod laidOut (by kernel_rfl) (of_decide_eq_true (by kernel_rfl)) h0 bel (fun x hx => hlt x (by simp [hx]))) (trodAll_mk0), rfl, ?_, fun h => by cases h⟩
  exact bel.frame _
theorem Zna : Rows.JudgeCommonSaid :=
 OpenClaim.holds_of_wide 5 Tryz.f5 rfl rfl rfl rfl rfl rfl rfl ⟨rfl, rfl, rfl, rfl, rfl⟩ rfl rfl rfl rfl rfl (by kernel_rfl) Tryz.func5 (by kernel_rfl)
  (of_decide_eq_true (by kernel_rfl)) (by unfold Func.isWrapper; first | (rw [if_pos (by decide +kernel)]; kernel_rfl) | (rw [if_neg (by decide +kernel)]; exact ⟨rfl, rfl⟩))
  (fun os started H enc _ => Zm7 os started H enc)
theorem judgeCommon_card : Rows.JudgeCommonCardSaid :=
 Claim7.holds_tied_plain_at .later [] [.data, .pinned] true (true, "4487f4a49bb2595de23d329e9a8ac7d3f2dc5251f5bd4c6ad52e880d46566562") false
  Zna (fun _ h => by cases h) (by kernel_rfl) (fun _ h => by cases h) judgeCommon_row_tie rfl ⟨rfl, rfl⟩ (by kernel_rfl) rfl
  (fun f fn hf hfn => by
   obtain rfl : f = 5 := Option.some.inj ((show Tryz.prog.funcNamed "colander/colanderlaw19.JudgeCommon" = some 5 by kernel_rfl).symm.trans hf) |>.symm
   obtain rfl : fn = Tryz.f5 := (Option.some.inj (Tryz.func5.symm.trans hfn)).symm
   exact ⟨by kernel_rfl, fun j t ht => by
    rw [Tryz.params5] at ht
    have hm : t ∈ [22] := by simpa using ZnW ht
    have hall : ([22].all fun u => !Tryz.prog.wantsStandIn u) = true := by kernel_rfl
    exact (show Tryz.prog.wantsStandIn t = false by simpa using Z5a.1 hall t hm)⟩)
  (by kernel_rfl)
#print axioms judgeCommon_card
end Go.Proofs.YtiigbcahdaoedaaGreatDoor
end
