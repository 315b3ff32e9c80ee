/- JudgeChain: true at every input; the input reads as it did. Condition: the tables lie as they are laid, which the card ties. -/
import Derived.Test.YtiigbcahdaoedaaGreatDoorTop
import Derived.Test.YtiigbcahdaoedaaGreatDoorRow
import Derived.Test.YtiigbcahdaoedaaGreatDoorCards
import Derived.Test.YtiigbcahdaoedaaGreatDoorTie
import Derived.SevenTiedAt

set_option linter.unusedSimpArgs false
set_option linter.unusedVariables false
set_option linter.defProp false
section
namespace Go.Proofs.YtiigbcahdaoedaaGreatDoor.N3
open N2
open Go Go.Abs
set_option maxRecDepth 100000
theorem ZqW (a b : Z0) : ∃ x, N2.Z1P a b = some x := ⟨_, Zkg a b⟩
theorem judgeChain_val (a b c : Z0) (ha : a.Log.length ≤ maxLen) (hb : b.Log.length ≤ maxLen) (hc : c.Log.length ≤ maxLen) : Z7n a b c = some true := by
 obtain ⟨x, hx, _⟩ := Zed [a, b, c] ⟨show 3 ≤ maxLen by decide, by simp [ha, hb, hc]⟩
 apply Zei
 unfold Z5b Z41
 rw [Zdo, ZY, if_neg (by simp), hx, ZY]
 cases x with
 | false => rfl
 | true =>
  rw [if_neg (by simp)]
  unfold Z42
  obtain ⟨k1, e1⟩ := ZqW a b
  obtain ⟨k2, e2⟩ := ZqW b c
  rw [ZgU, e1, ZY]
  cases k1 with
  | false => rfl
  | true =>
   rw [if_neg (by simp), ZgU, e2, ZY]
   cases k2 with
   | false => rfl
   | true => rw [if_neg (by simp), ZgU, ZwY a b c e1 e2, ZY]
end Go.Proofs.YtiigbcahdaoedaaGreatDoor.N3
end
section
namespace Go.Proofs.YtiigbcahdaoedaaGreatDoor
open Go Go.Abs Go.RowKit Go.ChangeShapes Go.WideShapes Go.ChangeAt
set_option maxRecDepth 100000 in
theorem Zn9 (os : Os) (started : os.Started) (H : Type) (enc : TypeId × Value → H) :
  ReturnsInHanded {} Tryz.checked os 8 .any (fun w args => (Rows.judgeChainSpec.pre enc Tryz.prog Tryz.f8 [] false w args ∧ laidMetH Tryz.prog Z8P w) ∧ sizedMet enc Tryz.prog Tryz.f8 (OpenSpec.ofChange Rows.judgeChainSpec) false w args)
   (Rows.judgeChainSpec.post enc Tryz.prog Tryz.f8 false true false false) := by
 refine returnsInHanded_of_change_and (C := Tryz.checked) (X := fun w _ => laidMetH Tryz.prog Z8P w) (fun _ _ _ hh h => h.of_heap hh) own started (by kernel_rfl) Tryz.func8
  (ChangeSpec.witness_shaped (enc := enc) (C := Tryz.checked) (os := os) (X := fun w _ => laidMetH Tryz.prog Z8P w) false (Zd9 os) #[((Tryz.prog.info? 39).bind (·.zero)).getD undef, ((Tryz.prog.info? 39).bind (·.zero)).getD undef, ((Tryz.prog.info? 39).bind (·.zero)).getD undef] 8 rfl (World.shaped_of_RefB (by kernel_rfl) (by kernel_rfl)) (by kernel_rfl) (by kernel_rfl) (by kernel_rfl) (Zhq os _)) ?_
 intro W base args ds gs before hval0 hW _ hsz0 hL _
 have hval : ∀ (j : Nat) t v, Tryz.f8.params[j]? = some t → args[j]? = some v → Value.okWide Tryz.prog W .any base t v := hval0
 have hW' := hW
 have hlt := fun p hp => hW.lt p hp
 obtain ⟨p, q, hA0, hV, rfl, hfz, hnd⟩ := hW
 have hA : DataW.TrodAll enc Tryz.prog W 0 (fun _ => true) true Tryz.f8.params.toList args.toList ds p := hA0
 rw [Tryz.params8] at hA hval
 obtain ⟨v0, v1, v2, d0, d1, d2, p0, p1, p2, rfl, rfl, rfl, h0, h1, h2⟩ := trodAll_three hA
 obtain ⟨rfl, rfl⟩ := trodVars_none hV
 obtain ⟨x0, w0, r0⟩ := ZgW Tryz.underlying39 (hval 0 39 v0 rfl rfl) h0 (N3.op_SState19 39 (by rfl) (by kernel_rfl))
 obtain ⟨x1, w1, r1⟩ := ZgW Tryz.underlying39 (hval 1 39 v1 rfl rfl) h1 (N3.op_SState19 39 (by rfl) (by kernel_rfl))
 obtain ⟨x2, w2, r2⟩ := ZgW Tryz.underlying39 (hval 2 39 v2 rfl rfl) h2 (N3.op_SState19 39 (by rfl) (by kernel_rfl))
 clear hA0 hval0
 simp only [ZbZ, Zmn] at hW' hlt
 obtain ⟨q, hq, ex, rfl⟩ := N3.g_colanderlaw19_JudgeChain_to x0 x1 x2 .sh .sh .sh true (N3.judgeChain_val x0 x1 x2 w0 w1 w2)
 refine (Zfl N3.fspec trivial hq rfl ?_).mono ?_
 ·intro i x v hx hv
  match i with
  | 0 =>
   simp only [Z5U, q1_] at hx
   have hv' : v0 = v := by simpa using hv
   subst hx; subst hv'
   exact ⟨.p _ _ r0, rfl⟩
  | 1 =>
   simp only [ZiM, Z5U, q1_] at hx
   have hv' : v1 = v := by simpa using hv
   subst hx; subst hv'
   exact ⟨.p _ _ r1, rfl⟩
  | 2 =>
   simp only [ZiM, Z5U, q1_] at hx
   have hv' : v2 = v := by simpa using hv
   subst hx; subst hv'
   exact ⟨.p _ _ r2, rfl⟩
  | i + 3 => simp at hx
 ·rintro e W' ⟨v, S', β', rfl, bel, hr⟩
  have := Z2N hr
  subst this
  refine ⟨_, rfl, _, _, _, [], _, [], hW', trodAll_mk1 (shut_bool Tryz.underlying4 _), trodAll_cons_mk (Below.trod laidOut (by kernel_rfl) (of_decide_eq_true (by kernel_rfl)) h0 bel (fun x hx => hlt x (by simp [hx]))) (trodAll_cons_mk (Below.trod laidOut (by kernel_rfl) (of_decide_eq_true (by kernel_rfl)) h1 bel (fun x hx => hlt x (by simp [hx]))) (trodAll_cons_mk (Below.trod laidOut (by kernel_rfl) (of_decide_eq_true (by kernel_rfl)) h2 bel (fun x hx => hlt x (by simp [hx]))) (trodAll_mk0))), rfl, ?_, fun h => by cases h⟩
  exact bel.frame _
theorem ZnM : Rows.JudgeChainSaid :=
 OpenClaim.holds_of_wide 8 Tryz.f8 rfl rfl rfl rfl rfl rfl rfl ⟨rfl, rfl, rfl, rfl, rfl⟩ rfl rfl rfl rfl rfl (by kernel_rfl) Tryz.func8 (by kernel_rfl)
  (of_decide_eq_true (by kernel_rfl)) (by unfold Func.isWrapper; first | (rw [if_pos (by decide +kernel)]; kernel_rfl) | (rw [if_neg (by decide +kernel)]; exact ⟨rfl, rfl⟩))
  (fun os started H enc _ => Zn9 os started H enc)
theorem judgeChain_card : Rows.JudgeChainCardSaid :=
 Claim7.holds_tied_plain_at .later [] [.data, .pinned] true (true, "4487f4a49bb2595de23d329e9a8ac7d3f2dc5251f5bd4c6ad52e880d46566562") false
  ZnM (fun _ h => by cases h) (by kernel_rfl) (fun _ h => by cases h) judgeChain_row_tie rfl ⟨rfl, rfl⟩ (by kernel_rfl) rfl
  (fun f fn hf hfn => by
   obtain rfl : f = 8 := Option.some.inj ((show Tryz.prog.funcNamed "colander/colanderlaw19.JudgeChain" = some 8 by kernel_rfl).symm.trans hf) |>.symm
   obtain rfl : fn = Tryz.f8 := (Option.some.inj (Tryz.func8.symm.trans hfn)).symm
   exact ⟨by kernel_rfl, fun j t ht => by
    rw [Tryz.params8] at ht
    have hm : t ∈ [39, 39, 39] := by simpa using ZnW ht
    have hall : ([39, 39, 39].all fun u => !Tryz.prog.wantsStandIn u) = true := by kernel_rfl
    exact (show Tryz.prog.wantsStandIn t = false by simpa using Z5a.1 hall t hm)⟩)
  (by kernel_rfl)
#print axioms judgeChain_card
end Go.Proofs.YtiigbcahdaoedaaGreatDoor
end
