/- RuleTwice: true at every input; the inputs read as they did. No condition. -/
import Derived.Test.YtbmmhbpalkepeaaRow
import Derived.Test.YtbmmhbpalkepeaaPlainE
import Derived.Test.YtbmmhbpalkepeaaRows
import Derived.JoinedOf

section
set_option linter.unusedSimpArgs false
set_option linter.unusedVariables false
/- RuleTwice: true at every input; the input reads as it did. Conditions: none. -/
namespace Go.Proofs.Ytbmmhbpalkepeaa
open Go Go.Abs Go.RowKit Go.ChangeShapes Go.WideShapes Go.ChangeAt

set_option maxRecDepth 100000 in
theorem ruleTwice_lifted (os : Os) (started : os.Started) (H : Type) (enc : TypeId × Value → H) :
    ReturnsInHanded {} Try.checked os 3 .any (Rows.ruleTwiceSpec.pre6 enc Try.prog Try.f3 [] false) (Rows.ruleTwiceSpec.post enc Try.prog Try.f3 false true false false) := by
  refine returnsInHanded_of_change (C := Try.checked) own started (by kernel_rfl) Try.func3
    (ChangeSpec.witness6 (enc := enc) (C := Try.checked) false ⟨#[], #[((Try.prog.info? 24).bind (·.zero)).getD undef, ((Try.prog.info? 27).bind (·.zero)).getD undef, ((Try.prog.info? 27).bind (·.zero)).getD undef], []⟩ 12 (by kernel_rfl) (by kernel_rfl) (by kernel_rfl) (by kernel_rfl)) ?_
  intro W base args ds gs before hval0 hW _ _
  have hval : ∀ (j : Nat) t v, Try.f3.params[j]? = some t → args[j]? = some v → Value.okWide Try.prog W .any base t v := hval0
  have hW' := hW
  have hlt := fun p hp => hW.lt p hp
  obtain ⟨p, q, hA0, hV, rfl, hfz, hnd⟩ := hW
  have hA : DataW.TrodAll enc Try.prog W 0 (fun _ => true) true Try.f3.params.toList args.toList ds p := hA0
  rw [Try.params3] at hA hval
  obtain ⟨v0, v1, v2, d0, d1, d2, p0, p1, p2, rfl, rfl, rfl, h0, h1, h2⟩ := trodAll_three hA
  obtain ⟨rfl, rfl⟩ := trodVars_none hV
  obtain ⟨x0, w0, r0⟩ := row_agg Try.underlying24 (hval 0 24 v0 rfl rfl) h0 (N2.op_Srule_Set 24 Try.underlying24 (by kernel_rfl))
  obtain ⟨x1, w1, r1⟩ := row_agg Try.underlying27 (hval 1 27 v1 rfl rfl) h1 (N2.op_Srule_Delta 27 Try.underlying27 (by kernel_rfl))
  obtain ⟨x2, w2, r2⟩ := row_agg Try.underlying27 (hval 2 27 v2 rfl rfl) h2 (N2.op_Srule_Delta 27 Try.underlying27 (by kernel_rfl))
  clear hA0 hval0
  simp only [List.append_nil, List.nil_append] at hW' hlt
  obtain ⟨q, hq, ex, rfl⟩ := N2.g3_to x0 x1 x2 .sh .sh .sh .sh .sh true (N2.g3_val x0 x1 x2)
  refine (calls_old N2.fspec trivial hq rfl ?_).mono ?_
  · intro i x v hx hv
    match i with
    | 0 =>
      simp only [List.getElem?_cons_zero, Option.some.injEq] at hx
      have hv' : v0 = v := by simpa using hv
      subst hx; subst hv'
      exact ⟨.p _ _ r0, rfl⟩
    | 1 =>
      simp only [List.getElem?_cons_succ, List.getElem?_cons_zero, Option.some.injEq] at hx
      have hv' : v1 = v := by simpa using hv
      subst hx; subst hv'
      exact ⟨.p _ _ r1, rfl⟩
    | 2 =>
      simp only [List.getElem?_cons_succ, List.getElem?_cons_zero, Option.some.injEq] at hx
      have hv' : v2 = v := by simpa using hv
      subst hx; subst hv'
      exact ⟨.p _ _ r2, rfl⟩
    | i + 3 => simp at hx
  · rintro e W' ⟨v, S', β', rfl, bel, hr⟩
    have := scal_rel hr
    subst this
    refine ⟨_, rfl, _, _, _, [], _, [], hW', trodAll_mk1 (shut_bool Try.underlying4 _), trodAll_cons_mk (Below.trod laidOut (by kernel_rfl) (of_decide_eq_true (by kernel_rfl)) h0 bel (fun x hx => hlt x (by simp [hx]))) (trodAll_cons_mk (Below.trod laidOut (by kernel_rfl) (of_decide_eq_true (by kernel_rfl)) h1 bel (fun x hx => hlt x (by simp [hx]))) (trodAll_cons_mk (Below.trod laidOut (by kernel_rfl) (of_decide_eq_true (by kernel_rfl)) h2 bel (fun x hx => hlt x (by simp [hx]))) (trodAll_mk0))), rfl, ?_, fun h => by cases h⟩
    exact bel.frame _

theorem ruleTwice_holds : Rows.RuleTwiceSaid :=
  OpenClaim.holds_of_wide 3 Try.f3 rfl rfl rfl rfl rfl rfl rfl ⟨rfl, rfl, rfl, rfl, rfl⟩ rfl rfl rfl rfl rfl (by kernel_rfl) Try.func3 (by kernel_rfl)
    (of_decide_eq_true (by kernel_rfl)) (by unfold Func.isWrapper; first | (rw [if_pos (by decide +kernel)]; kernel_rfl) | (rw [if_neg (by decide +kernel)]; exact ⟨rfl, rfl⟩))
    (fun os started H enc _ => ruleTwice_lifted os started H enc)
#print axioms ruleTwice_holds
end Go.Proofs.Ytbmmhbpalkepeaa
end
