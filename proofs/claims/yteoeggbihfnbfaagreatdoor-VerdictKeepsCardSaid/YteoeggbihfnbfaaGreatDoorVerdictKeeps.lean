/- VerdictKeeps: true at every input; the input reads as it did. Condition: the tables lie as they are laid, which the card ties. -/
import Derived.Test.YteoeggbihfnbfaaGreatDoorPlainC
import Derived.Test.YteoeggbihfnbfaaGreatDoorRow
import Derived.Test.YteoeggbihfnbfaaGreatDoorCards
import Derived.Test.YteoeggbihfnbfaaGreatDoorTie
import Derived.SevenTiedAt

section
set_option linter.unusedSimpArgs false
set_option linter.unusedVariables false
namespace Go.Proofs.YteoeggbihfnbfaaGreatDoor.N2
open Go Go.Abs Go.Proofs.Unis Go.Proofs.Norm
set_option maxRecDepth 100000
theorem verdictKeeps_val (s : Zz) (d : ZL) : Z7V s d = some true := by
 obtain ⟨b, e, hb⟩ := ZCf s ⟨d.Default, d.Closed, d.Fuel, d.Stack, d.Put, d.Drop⟩
 apply Zf5
 unfold Z5V
 rw [ZwB, Option.bind_some, if_neg (by simp)]
 unfold Z4X Z46
 rw [e, Option.bind_some]
 cases b with
 | false => rfl
 | true =>
  obtain ⟨l0, l1, l2⟩ := hb rfl
  rw [if_neg (by simp), Zkk, Option.bind_some]
  by_cases hc : (Z7S s).Code = 0
  ·rw [if_neg (Zge hc)]
   unfold Z4Y
   have hl : d.Drop.length ≤ 1000000 := by
    have : d.Drop.length ≤ 40 := l2
    omega
   rw [Zyf s ⟨d.Default, d.Closed, d.Fuel, d.Stack, [], d.Drop⟩ (by simp) hl, Option.bind_some, ZtT s ⟨d.Default, d.Closed, d.Fuel, d.Stack, [], d.Drop⟩ (by simp) hl, Option.bind_some, ZuG hc rfl]
   simp
  ·rw [if_pos (ZeN hc)]
end Go.Proofs.YteoeggbihfnbfaaGreatDoor.N2
end
section
set_option linter.unusedSimpArgs false
set_option linter.unusedVariables false
namespace Go.Proofs.YteoeggbihfnbfaaGreatDoor
open Go Go.Abs Go.RowKit Go.ChangeShapes Go.WideShapes Go.ChangeAt
set_option maxRecDepth 100000 in
theorem ZnX (os : Os) (started : os.Started) (H : Type) (enc : TypeId × Value → H) :
  ReturnsInHanded {} Tryz.checked os 6 .any (fun w args => (Rows.verdictKeepsSpec.pre enc Tryz.prog Tryz.f6 [] false w args ∧ laidMetH Tryz.prog Zit w) ∧ sizedMet enc Tryz.prog Tryz.f6 (OpenSpec.ofChange Rows.verdictKeepsSpec) false w args)
   (Rows.verdictKeepsSpec.post enc Tryz.prog Tryz.f6 false true false false) := by
 refine returnsInHanded_of_change_and (C := Tryz.checked) (X := fun w _ => laidMetH Tryz.prog Zit w) (fun _ _ _ hh h => h.of_heap hh) own started (by kernel_rfl) Tryz.func6
  (ChangeSpec.witness_shaped (enc := enc) (C := Tryz.checked) (os := os) (X := fun w _ => laidMetH Tryz.prog Zit w) false (Zu6 os) #[((Tryz.prog.info? 24).bind (·.zero)).getD undef, ((Tryz.prog.info? 29).bind (·.zero)).getD undef] 8 rfl (World.shaped_of_RefB (by kernel_rfl) (by kernel_rfl)) (by kernel_rfl) (by kernel_rfl) (by kernel_rfl) (ZCW os _)) ?_
 intro W base args ds gs before hval0 hW _ _ hL _
 have hval : ∀ (j : Nat) t v, Tryz.f6.params[j]? = some t → args[j]? = some v → Value.okWide Tryz.prog W .any base t v := hval0
 have hW' := hW
 have hlt := fun p hp => hW.lt p hp
 obtain ⟨p, q, hA0, hV, rfl, hfz, hnd⟩ := hW
 have hA : DataW.TrodAll enc Tryz.prog W 0 (fun _ => true) true Tryz.f6.params.toList args.toList ds p := hA0
 rw [Tryz.params6] at hA hval
 obtain ⟨v0, v1, d0, d1, p0, p1, rfl, rfl, rfl, h0, h1⟩ := trodAll_two hA
 obtain ⟨rfl, rfl⟩ := trodVars_none hV
 obtain ⟨x0, w0, r0⟩ := Zy4 Tryz.underlying24 (hval 0 24 v0 rfl rfl) h0 (N2.Zw8 24 Tryz.underlying24 (by kernel_rfl))
 obtain ⟨x1, w1, r1⟩ := Zy4 Tryz.underlying29 (hval 1 29 v1 rfl rfl) h1 (N2.ZtO 29 Tryz.underlying29 (by kernel_rfl))
 clear hA0 hval0
 simp only [List.append_nil, List.nil_append] at hW' hlt
 have htab := ZFG hL
 obtain ⟨q, hq, ex, rfl⟩ := N2.Zf6 x0 x1 .sh .sh .sh true (N2.verdictKeeps_val x0 x1 )
 refine (ZAw N2.fspec (Tabs.old htab) hq rfl ?_).mono ?_
 ·intro i x v hx hv
  match i with
  | 0 =>
   simp only [List.getElem?_cons_zero, Option.some.injEq] at hx
   have hv' : v0 = v := by simpa using hv
   subst hx; subst hv'
   exact ⟨.p _ _ r0, rfl⟩
  | 1 =>
   simp only [List.getElem?_cons_succ, List.getElem?_cons_zero, Option.some.injEq] at hx
   have hv' : v1 = v := by simpa using hv
   subst hx; subst hv'
   exact ⟨.p _ _ r1, rfl⟩
  | i + 2 => simp at hx
 ·rintro e W' ⟨v, S', β', rfl, bel, hr⟩
  have := Z5c hr
  subst this
  refine ⟨_, rfl, _, _, _, [], _, [], hW', trodAll_mk1 (shut_bool Tryz.underlying4 _), trodAll_cons_mk (Below.trod laidOut (by kernel_rfl) (of_decide_eq_true (by kernel_rfl)) h0 bel (fun x hx => hlt x (by simp [hx]))) (trodAll_cons_mk (Below.trod laidOut (by kernel_rfl) (of_decide_eq_true (by kernel_rfl)) h1 bel (fun x hx => hlt x (by simp [hx]))) (trodAll_mk0)), rfl, ?_, fun h => by cases h⟩
  exact bel.frame _
theorem ZoG : Rows.VerdictKeepsSaid :=
 OpenClaim.holds_of_wide 6 Tryz.f6 rfl rfl rfl rfl rfl rfl rfl ⟨rfl, rfl, rfl, rfl, rfl⟩ rfl rfl rfl rfl rfl (by kernel_rfl) Tryz.func6 (by kernel_rfl)
  (of_decide_eq_true (by kernel_rfl)) (by unfold Func.isWrapper; first | (rw [if_pos (by decide +kernel)]; kernel_rfl) | (rw [if_neg (by decide +kernel)]; exact ⟨rfl, rfl⟩))
  (fun os started H enc _ => ZnX os started H enc)
theorem verdictKeeps_card : Rows.VerdictKeepsCardSaid :=
 Claim7.holds_tied_plain_at .later [] [.data, .pinned] true (true, "cb08e3e60930965065f09f9783a784d0f3e78900a927b5cdd827454dbc2fb059") false
  ZoG (fun _ h => by cases h) (by kernel_rfl) (fun _ h => by cases h) verdictKeeps_row_tie rfl ⟨rfl, rfl⟩ (by kernel_rfl) rfl
  (fun f fn hf hfn => by
   obtain rfl : f = 6 := Option.some.inj ((show Tryz.prog.funcNamed "colander/colanderlaw08.VerdictKeeps" = some 6 by kernel_rfl).symm.trans hf) |>.symm
   obtain rfl : fn = Tryz.f6 := (Option.some.inj (Tryz.func6.symm.trans hfn)).symm
   exact ⟨by kernel_rfl, fun j t ht => by
    rw [Tryz.params6] at ht
    have hm : t ∈ [24, 29] := by simpa using Array.mem_of_getElem? ht
    have hall : ([24, 29].all fun u => !Tryz.prog.wantsStandIn u) = true := by kernel_rfl
    exact (show Tryz.prog.wantsStandIn t = false by simpa using List.all_eq_true.1 hall t hm)⟩)
  (by kernel_rfl)
#print axioms verdictKeeps_card
end Go.Proofs.YteoeggbihfnbfaaGreatDoor
end
