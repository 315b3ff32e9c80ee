/- JudgeKept: true at every input; the input reads as it did. Condition: the tables lie as they are laid, which the card ties. -/
import Derived.Test.YtiigbcahdaoedaaGreatDoorTop
import Derived.Test.YtiigbcahdaoedaaGreatDoorPlK
import Derived.Test.YtiigbcahdaoedaaGreatDoorRow
import Derived.Test.YtiigbcahdaoedaaGreatDoorCards
import Derived.Test.YtiigbcahdaoedaaGreatDoorTie
import Derived.SevenTiedAt

set_option linter.unusedSimpArgs false
set_option linter.unusedVariables false
set_option linter.defProp false
section
namespace Go.Proofs.YtiigbcahdaoedaaGreatDoor.N3
open N2
open Go Go.Abs
set_option maxRecDepth 100000
theorem ZAX (a b : Z2) : Z3v a b = N2.Z3v a b := by
 unfold Z3v N2.Z3v
 rw [low (f := 25) (by kernel_rfl)]
theorem ZvK (a b : Z0) : Z2F a b = N2.Z2F a b := by
 unfold Z2F N2.Z2F
 rw [low (f := 26) (by kernel_rfl)]
theorem Zi2 (a b : Z0) (w : Bool) (hw : Zi8 (Z1b a) (Z1b b) = w) : Z1n w a b = some true := by
 have hk : N2.Z1P a b = some w := by rw [Zkg, ← hw]; rfl
 unfold Z1n Z43 Z44
 rw [ZgU, hk, ZY, if_neg (by simp), ZgU, ZqV, ZY, if_neg (by simp), ZvK]
 obtain ⟨l, e, he, hz⟩ := ZuK a b
 rw [he, ZY]
 by_cases c : e = 0
 ·rw [if_pos (Z61 c), ← hw, hz c]
 ·rw [if_neg (Z60 c)]
theorem judgeKept_val (a b : Z0) (ha : a.Log.length ≤ maxLen) (hb : b.Log.length ≤ maxLen) : Z7W a b = some true := by
 obtain ⟨x, hx, hs⟩ := Zed [a, b] ⟨show 2 ≤ maxLen by decide, by simp [ha, hb]⟩
 apply ZeL
 unfold Z5q Z4n
 rw [Zdo, ZY, if_neg (by simp), hx, ZY]
 cases x with
 | false => rfl
 | true =>
  rw [if_neg (by simp)]
  have e2 := Zkz [a, b] (by simp) fun s hx => ⟨((hs rfl).2 s hx).sh, by have := ((hs rfl).2 s hx).1; omega⟩
  have e3 : Z2r [a, b] = [Z1b a, Z1b b] := rfl
  rw [e3] at e2
  unfold Z4o
  rw [Zmw, e2, ZY]
  rw [show lget ([Z1b a, Z1b b].map stF) 0 = some (stF (Z1b a)) from rfl, ZY, show lget ([Z1b a, Z1b b].map stF) 1 = some (stF (Z1b b)) from rfl, ZY]
  show (if decide ((Z1b a).View ≤ (Z1b b).View) = true then (if decide ((Z1b a).Normal ≤ (Z1b b).Normal) = true then (if decide ((Z1b a).Commit ≤ (Z1b b).Commit) = true then
   (Z3v (stF (Z1b a)) (stF (Z1b b))).bind fun r4 => Z1n (!r4) a b
   else Z1n false a b) else Z1n false a b) else Z1n false a b) = some true
  by_cases c1 : (Z1b a).View ≤ (Z1b b).View
  ·rw [if_pos (Z12 c1)]
   by_cases c2 : (Z1b a).Normal ≤ (Z1b b).Normal
   ·rw [if_pos (Z12 c2)]
    by_cases c3 : (Z1b a).Commit ≤ (Z1b b).Commit
    ·rw [if_pos (Z12 c3), ZAX, Zxv (Zaw a) (Zaw b), ZY]
     exact Zi2 a b _ (by unfold Zi8; rw [decide_eq_true c1, decide_eq_true c2, decide_eq_true c3]; simp)
    ·rw [if_neg (Z10 c3)]
     exact Zi2 a b _ (by unfold Zi8; rw [decide_eq_false c3]; simp)
   ·rw [if_neg (Z10 c2)]
    exact Zi2 a b _ (by unfold Zi8; rw [decide_eq_false c2]; simp)
  ·rw [if_neg (Z10 c1)]
   exact Zi2 a b _ (by unfold Zi8; rw [decide_eq_false c1]; simp)
end Go.Proofs.YtiigbcahdaoedaaGreatDoor.N3
end
section
namespace Go.Proofs.YtiigbcahdaoedaaGreatDoor
open Go Go.Abs Go.RowKit Go.ChangeShapes Go.WideShapes Go.ChangeAt
set_option maxRecDepth 100000 in
theorem ZnN (os : Os) (started : os.Started) (H : Type) (enc : TypeId × Value → H) :
  ReturnsInHanded {} Tryz.checked os 9 .any (fun w args => (Rows.judgeKeptSpec.pre enc Tryz.prog Tryz.f9 [] false w args ∧ laidMetH Tryz.prog Z8P w) ∧ sizedMet enc Tryz.prog Tryz.f9 (OpenSpec.ofChange Rows.judgeKeptSpec) false w args)
   (Rows.judgeKeptSpec.post enc Tryz.prog Tryz.f9 false true false false) := by
 refine returnsInHanded_of_change_and (C := Tryz.checked) (X := fun w _ => laidMetH Tryz.prog Z8P w) (fun _ _ _ hh h => h.of_heap hh) own started (by kernel_rfl) Tryz.func9
  (ChangeSpec.witness_shaped (enc := enc) (C := Tryz.checked) (os := os) (X := fun w _ => laidMetH Tryz.prog Z8P w) false (Zd9 os) #[((Tryz.prog.info? 39).bind (·.zero)).getD undef, ((Tryz.prog.info? 39).bind (·.zero)).getD undef] 8 rfl (World.shaped_of_RefB (by kernel_rfl) (by kernel_rfl)) (by kernel_rfl) (by kernel_rfl) (by kernel_rfl) (Zhq os _)) ?_
 intro W base args ds gs before hval0 hW _ hsz0 hL _
 have hval : ∀ (j : Nat) t v, Tryz.f9.params[j]? = some t → args[j]? = some v → Value.okWide Tryz.prog W .any base t v := hval0
 have hW' := hW
 have hlt := fun p hp => hW.lt p hp
 obtain ⟨p, q, hA0, hV, rfl, hfz, hnd⟩ := hW
 have hA : DataW.TrodAll enc Tryz.prog W 0 (fun _ => true) true Tryz.f9.params.toList args.toList ds p := hA0
 rw [Tryz.params9] at hA hval
 obtain ⟨v0, v1, d0, d1, p0, p1, rfl, rfl, rfl, h0, h1⟩ := trodAll_two hA
 obtain ⟨rfl, rfl⟩ := trodVars_none hV
 obtain ⟨x0, w0, r0⟩ := ZgW Tryz.underlying39 (hval 0 39 v0 rfl rfl) h0 (N3.op_SState19 39 (by rfl) (by kernel_rfl))
 obtain ⟨x1, w1, r1⟩ := ZgW Tryz.underlying39 (hval 1 39 v1 rfl rfl) h1 (N3.op_SState19 39 (by rfl) (by kernel_rfl))
 clear hA0 hval0
 simp only [ZbZ, Zmn] at hW' hlt
 obtain ⟨q, hq, ex, rfl⟩ := N3.g_colanderlaw19_JudgeKept_to x0 x1 .sh .sh true (N3.judgeKept_val x0 x1 w0 w1)
 refine (Zfl N3.fspec trivial hq rfl ?_).mono ?_
 ·intro i x v hx hv
  match i with
  | 0 =>
   simp only [Z5U, q1_] at hx
   have hv' : v0 = v := by simpa using hv
   subst hx; subst hv'
   exact ⟨.p _ _ r0, rfl⟩
  | 1 =>
   simp only [ZiM, Z5U, q1_] at hx
   have hv' : v1 = v := by simpa using hv
   subst hx; subst hv'
   exact ⟨.p _ _ r1, rfl⟩
  | i + 2 => simp at hx
 ·rintro e W' ⟨v, S', β', rfl, bel, hr⟩
  have := Z2N hr
  subst this
  refine ⟨_, rfl, _, _, _, [], _, [], hW', trodAll_mk1 (shut_bool Tryz.underlying4 _), trodAll_cons_mk (Below.trod laidOut (by kernel_rfl) (of_decide_eq_true (by kernel_rfl)) h0 bel (fun x hx => hlt x (by simp [hx]))) (trodAll_cons_mk (Below.trod laidOut (by kernel_rfl) (of_decide_eq_true (by kernel_rfl)) h1 bel (fun x hx => hlt x (by simp [hx]))) (trodAll_mk0)), rfl, ?_, fun h => by cases h⟩
  exact bel.frame _
theorem Zpt : Rows.JudgeKeptSaid :=
 OpenClaim.holds_of_wide 9 Tryz.f9 rfl rfl rfl rfl rfl rfl rfl ⟨rfl, rfl, rfl, rfl, rfl⟩ rfl rfl rfl rfl rfl (by kernel_rfl) Tryz.func9 (by kernel_rfl)
  (of_decide_eq_true (by kernel_rfl)) (by unfold Func.isWrapper; first | (rw [if_pos (by decide +kernel)]; kernel_rfl) | (rw [if_neg (by decide +kernel)]; exact ⟨rfl, rfl⟩))
  (fun os started H enc _ => ZnN os started H enc)
theorem judgeKept_card : Rows.JudgeKeptCardSaid :=
 Claim7.holds_tied_plain_at .later [] [.data, .pinned] true (true, "4487f4a49bb2595de23d329e9a8ac7d3f2dc5251f5bd4c6ad52e880d46566562") false
  Zpt (fun _ h => by cases h) (by kernel_rfl) (fun _ h => by cases h) judgeKept_row_tie rfl ⟨rfl, rfl⟩ (by kernel_rfl) rfl
  (fun f fn hf hfn => by
   obtain rfl : f = 9 := Option.some.inj ((show Tryz.prog.funcNamed "colander/colanderlaw19.JudgeKept" = some 9 by kernel_rfl).symm.trans hf) |>.symm
   obtain rfl : fn = Tryz.f9 := (Option.some.inj (Tryz.func9.symm.trans hfn)).symm
   exact ⟨by kernel_rfl, fun j t ht => by
    rw [Tryz.params9] at ht
    have hm : t ∈ [39, 39] := by simpa using ZnW ht
    have hall : ([39, 39].all fun u => !Tryz.prog.wantsStandIn u) = true := by kernel_rfl
    exact (show Tryz.prog.wantsStandIn t = false by simpa using Z5a.1 hall t hm)⟩)
  (by kernel_rfl)
#print axioms judgeKept_card
end Go.Proofs.YtiigbcahdaoedaaGreatDoor
end
