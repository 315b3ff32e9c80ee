/- RuleDiffs: true at every input; the inputs read as they did. No condition. -/
import Derived.Test.YtbmmhbpalkepeaaRow
import Derived.Test.YtbmmhbpalkepeaaPlainC
import Derived.Test.YtbmmhbpalkepeaaRows
import Derived.JoinedOf

section
set_option linter.unusedSimpArgs false
set_option linter.unusedVariables false
/- RuleDiffs: true at every input; the input reads as it did. Conditions: none. -/
namespace Go.Proofs.Ytbmmhbpalkepeaa
open Go Go.Abs Go.RowKit Go.ChangeShapes Go.WideShapes Go.ChangeAt

set_option maxRecDepth 100000 in
theorem ruleDiffs_lifted (os : Os) (started : os.Started) (H : Type) (enc : TypeId × Value → H) :
    ReturnsInHanded {} Try.checked os 8 .any (Rows.ruleDiffsSpec.pre6 enc Try.prog Try.f8 [] false) (Rows.ruleDiffsSpec.post enc Try.prog Try.f8 false true false false) := by
  refine returnsInHanded_of_change (C := Try.checked) own started (by kernel_rfl) Try.func8
    (ChangeSpec.witness6 (enc := enc) (C := Try.checked) false ⟨#[], #[((Try.prog.info? 24).bind (·.zero)).getD undef, ((Try.prog.info? 24).bind (·.zero)).getD undef], []⟩ 12 (by kernel_rfl) (by kernel_rfl) (by kernel_rfl) (by kernel_rfl)) ?_
  intro W base args ds gs before hval0 hW _ _
  have hval : ∀ (j : Nat) t v, Try.f8.params[j]? = some t → args[j]? = some v → Value.okWide Try.prog W .any base t v := hval0
  have hW' := hW
  have hlt := fun p hp => hW.lt p hp
  obtain ⟨p, q, hA0, hV, rfl, hfz, hnd⟩ := hW
  have hA : DataW.TrodAll enc Try.prog W 0 (fun _ => true) true Try.f8.params.toList args.toList ds p := hA0
  rw [Try.params8] at hA hval
  obtain ⟨v0, v1, d0, d1, p0, p1, rfl, rfl, rfl, h0, h1⟩ := trodAll_two hA
  obtain ⟨rfl, rfl⟩ := trodVars_none hV
  obtain ⟨x0, w0, r0⟩ := row_agg Try.underlying24 (hval 0 24 v0 rfl rfl) h0 (N2.op_Srule_Set 24 Try.underlying24 (by kernel_rfl))
  obtain ⟨x1, w1, r1⟩ := row_agg Try.underlying24 (hval 1 24 v1 rfl rfl) h1 (N2.op_Srule_Set 24 Try.underlying24 (by kernel_rfl))
  clear hA0 hval0
  simp only [List.append_nil, List.nil_append] at hW' hlt
  obtain ⟨q, hq, ex, rfl⟩ := N2.g8_to x0 x1 .sh .sh true (N2.g8_val x0 x1)
  refine (calls_old N2.fspec trivial hq rfl ?_).mono ?_
  · intro i x v hx hv
    match i with
    | 0 =>
      simp only [List.getElem?_cons_zero, Option.some.injEq] at hx
      have hv' : v0 = v := by simpa using hv
      subst hx; subst hv'
      exact ⟨.p _ _ r0, rfl⟩
    | 1 =>
      simp only [List.getElem?_cons_succ, List.getElem?_cons_zero, Option.some.injEq] at hx
      have hv' : v1 = v := by simpa using hv
      subst hx; subst hv'
      exact ⟨.p _ _ r1, rfl⟩
    | i + 2 => simp at hx
  · rintro e W' ⟨v, S', β', rfl, bel, hr⟩
    have := scal_rel hr
    subst this
    refine ⟨_, rfl, _, _, _, [], _, [], hW', trodAll_mk1 (shut_bool Try.underlying4 _), trodAll_cons_mk (Below.trod laidOut (by kernel_rfl) (of_decide_eq_true (by kernel_rfl)) h0 bel (fun x hx => hlt x (by simp [hx]))) (trodAll_cons_mk (Below.trod laidOut (by kernel_rfl) (of_decide_eq_true (by kernel_rfl)) h1 bel (fun x hx => hlt x (by simp [hx]))) (trodAll_mk0)), rfl, ?_, fun h => by cases h⟩
    exact bel.frame _

theorem ruleDiffs_holds : Rows.RuleDiffsSaid :=
  OpenClaim.holds_of_wide 8 Try.f8 rfl rfl rfl rfl rfl rfl rfl ⟨rfl, rfl, rfl, rfl, rfl⟩ rfl rfl rfl rfl rfl (by kernel_rfl) Try.func8 (by kernel_rfl)
    (of_decide_eq_true (by kernel_rfl)) (by unfold Func.isWrapper; first | (rw [if_pos (by decide +kernel)]; kernel_rfl) | (rw [if_neg (by decide +kernel)]; exact ⟨rfl, rfl⟩))
    (fun os started H enc _ => ruleDiffs_lifted os started H enc)
#print axioms ruleDiffs_holds
end Go.Proofs.Ytbmmhbpalkepeaa
end
