/- VerdictPuts: true at every input; the input reads as it did. Condition: the tables lie as they are laid, which the card ties. -/
import Derived.Test.YteoeggbihfnbfaaGreatDoorPlainC
import Derived.Test.YteoeggbihfnbfaaGreatDoorRow
import Derived.Test.YteoeggbihfnbfaaGreatDoorCards
import Derived.Test.YteoeggbihfnbfaaGreatDoorTie
import Derived.SevenTiedAt

section
set_option linter.unusedSimpArgs false
set_option linter.unusedVariables false
namespace Go.Proofs.YteoeggbihfnbfaaGreatDoor.N2
open Go Go.Abs Go.Proofs.Unis Go.Proofs.Norm
set_option maxRecDepth 100000
theorem verdictPuts_val (s : ZD) (x : Zp) : Z8u s x = some true := by
 obtain ⟨b, e, hb⟩ := ZD1 s ⟨0, 0, 0, 0, [x], []⟩
 apply ZfM
 unfold Z6i
 rw [Zxa, Option.bind_some, if_neg (by simp)]
 unfold Z5i Z3y
 rw [e, Option.bind_some]
 cases b with
 | false => rfl
 | true =>
  rw [if_neg (by simp), ZkJ, Option.bind_some]
  by_cases hc : (Z80 s).Code = 0
  case neg => rw [if_pos (Zdc hc)]
  rw [if_neg (Zf6 hc), Z8L, Option.bind_some]
  cases hx : okR x with
  | false => rfl
  | true =>
   rw [if_neg (by simp)]
   obtain ⟨hs, hfine⟩ := ZxZ hc
   obtain ⟨hso, _, _⟩ := ZnQ hs
   have hlen := Zur hs
   have hpl := ZE6 hso x
   unfold Z5j
   rw [ZyQ _ _ (by simp) (by simp), Option.bind_some, Zll, Option.bind_some, Zgv _ _ (by omega), Option.bind_some]
   have hap := ZyL hs hx
   have key : (putL s.Rules x).length ≤ 16 → Z35 x (Zdd s ⟨-1, -1, -1, -1, [x], []⟩).1 (Zdd s ⟨-1, -1, -1, -1, [x], []⟩).2 (patF x.Pattern) = some true := by
    intro hl
    rw [if_pos hl] at hap
    have hap' : Z7g s ⟨-1, -1, -1, -1, [x], []⟩ = (⟨s.Default, s.Closed, s.Fuel, s.Stack, putL s.Rules x⟩, 0) := hap
    have hr := Zva hap'
    have hmem : x ∈ putL s.Rules x := by
     have := ZoW s.Rules x x.ID
     rw [if_pos rfl] at this
     exact List.mem_of_find?_eq_some this
    by_cases hp : (patF x.Pattern).Code = 0
    ·have hall : ∀ r ∈ putL s.Rules x, Fine r := by
      intro r hr
      rcases ZnL hr with rfl | hr
      ·exact hp
      ·exact hfine r hr
     have hcf : Zdd s ⟨-1, -1, -1, -1, [x], []⟩ = (⟨s.Default, s.Closed, s.Fuel, s.Stack, putL s.Rules x⟩, ⟨0, 0, 0⟩) := by
      unfold Zdd
      rw [hap', if_neg (by simp), ZxY hr hall, if_neg (by simp)]
     rw [hcf]
     unfold Z35
     dsimp only
     rw [if_neg (Zf6 hp)]
     unfold Z54
     dsimp only
     rw [Zgv _ _ (by show (putL s.Rules x).length ≤ _; omega), Option.bind_some, ZoW, if_pos rfl]
     dsimp only
     rw [if_pos (by rfl), if_pos (by rfl)]
     have := ZEy.2 (rfl : x = x)
     unfold eqR at this
     rw [this]
    ·have hb : Z80 ⟨s.Default, s.Closed, s.Fuel, s.Stack, putL s.Rules x⟩ = badF x := by
      unfold Z80
      rw [if_neg (by simp [hr])]
      refine ZoF (fun r hr => ?_) hmem hp
      rcases ZnL hr with rfl | hr
      ·exact .inl rfl
      ·exact .inr (hfine r hr)
     have hcf : Zdd s ⟨-1, -1, -1, -1, [x], []⟩ = (zS, badF x) := by
      unfold Zdd
      rw [hap', if_neg (by simp), hb, if_pos (show (badF x).Code ≠ 0 from hp)]
     rw [hcf]
     unfold Z35
     dsimp only
     rw [if_pos (Zdc hp)]
     simp [badF, zS]
   cases hg : getL s.Rules x.ID with
   | some r =>
    rw [if_neg (by simp)]
    rw [hg] at hpl
    exact key (by simp at hpl; omega)
   | none =>
    rw [if_pos (by simp)]
    rw [hg] at hpl
    by_cases h16 : s.Rules.length = 16
    ·rw [if_pos (by rw [h16]; rfl)]
     unfold Z5k
     rw [if_neg (by simp at hpl; omega)] at hap
     have hap' : Z7g s ⟨-1, -1, -1, -1, [x], []⟩ = (zS, 33) := hap
     unfold Zdd
     rw [hap']
     rfl
    ·rw [if_neg (by simp; omega)]
     exact key (by simp at hpl; omega)
end Go.Proofs.YteoeggbihfnbfaaGreatDoor.N2
end
section
set_option linter.unusedSimpArgs false
set_option linter.unusedVariables false
namespace Go.Proofs.YteoeggbihfnbfaaGreatDoor
open Go Go.Abs Go.RowKit Go.ChangeShapes Go.WideShapes Go.ChangeAt
set_option maxRecDepth 100000 in
theorem Zpi (os : Os) (started : os.Started) (H : Type) (enc : TypeId × Value → H) :
  ReturnsInHanded {} Tryz.checked os 7 .any (fun w args => (Rows.verdictPutsSpec.pre enc Tryz.prog Tryz.f7 [] false w args ∧ laidMetH Tryz.prog ZiQ w) ∧ sizedMet enc Tryz.prog Tryz.f7 (OpenSpec.ofChange Rows.verdictPutsSpec) false w args)
   (Rows.verdictPutsSpec.post enc Tryz.prog Tryz.f7 false true false false) := by
 refine returnsInHanded_of_change_and (C := Tryz.checked) (X := fun w _ => laidMetH Tryz.prog ZiQ w) (fun _ _ _ hh h => h.of_heap hh) own started (by kernel_rfl) Tryz.func7
  (ChangeSpec.witness_shaped (enc := enc) (C := Tryz.checked) (os := os) (X := fun w _ => laidMetH Tryz.prog ZiQ w) false (ZuH os) #[((Tryz.prog.info? 24).bind (·.zero)).getD undef, ((Tryz.prog.info? 43).bind (·.zero)).getD undef] 8 rfl (World.shaped_of_RefB (by kernel_rfl) (by kernel_rfl)) (by kernel_rfl) (by kernel_rfl) (by kernel_rfl) (ZDJ os _)) ?_
 intro W base args ds gs before hval0 hW _ _ hL _
 have hval : ∀ (j : Nat) t v, Tryz.f7.params[j]? = some t → args[j]? = some v → Value.okWide Tryz.prog W .any base t v := hval0
 have hW' := hW
 have hlt := fun p hp => hW.lt p hp
 obtain ⟨p, q, hA0, hV, rfl, hfz, hnd⟩ := hW
 have hA : DataW.TrodAll enc Tryz.prog W 0 (fun _ => true) true Tryz.f7.params.toList args.toList ds p := hA0
 rw [Tryz.params7] at hA hval
 obtain ⟨v0, v1, d0, d1, p0, p1, rfl, rfl, rfl, h0, h1⟩ := trodAll_two hA
 obtain ⟨rfl, rfl⟩ := trodVars_none hV
 obtain ⟨x0, w0, r0⟩ := ZyE Tryz.underlying24 (hval 0 24 v0 rfl rfl) h0 (N2.ZwI 24 Tryz.underlying24 (by kernel_rfl))
 obtain ⟨x1, w1, r1⟩ := ZyE Tryz.underlying43 (hval 1 43 v1 rfl rfl) h1 (N2.Zo6 43 Tryz.underlying43 (by kernel_rfl))
 clear hA0 hval0
 simp only [List.append_nil, List.nil_append] at hW' hlt
 have htab := ZGw hL
 obtain ⟨q, hq, ex, rfl⟩ := N2.ZfN x0 x1 .sh true (N2.verdictPuts_val x0 x1 )
 refine (ZBc N2.fspec (Tabs.old htab) hq rfl ?_).mono ?_
 ·intro i x v hx hv
  match i with
  | 0 =>
   simp only [List.getElem?_cons_zero, Option.some.injEq] at hx
   have hv' : v0 = v := by simpa using hv
   subst hx; subst hv'
   exact ⟨.p _ _ r0, rfl⟩
  | 1 =>
   simp only [List.getElem?_cons_succ, List.getElem?_cons_zero, Option.some.injEq] at hx
   have hv' : v1 = v := by simpa using hv
   subst hx; subst hv'
   exact ⟨.p _ _ r1, rfl⟩
  | i + 2 => simp at hx
 ·rintro e W' ⟨v, S', β', rfl, bel, hr⟩
  have := Z5h hr
  subst this
  refine ⟨_, rfl, _, _, _, [], _, [], hW', trodAll_mk1 (shut_bool Tryz.underlying4 _), trodAll_cons_mk (Below.trod laidOut (by kernel_rfl) (of_decide_eq_true (by kernel_rfl)) h0 bel (fun x hx => hlt x (by simp [hx]))) (trodAll_cons_mk (Below.trod laidOut (by kernel_rfl) (of_decide_eq_true (by kernel_rfl)) h1 bel (fun x hx => hlt x (by simp [hx]))) (trodAll_mk0)), rfl, ?_, fun h => by cases h⟩
  exact bel.frame _
theorem Zq8 : Rows.VerdictPutsSaid :=
 OpenClaim.holds_of_wide 7 Tryz.f7 rfl rfl rfl rfl rfl rfl rfl ⟨rfl, rfl, rfl, rfl, rfl⟩ rfl rfl rfl rfl rfl (by kernel_rfl) Tryz.func7 (by kernel_rfl)
  (of_decide_eq_true (by kernel_rfl)) (by unfold Func.isWrapper; first | (rw [if_pos (by decide +kernel)]; kernel_rfl) | (rw [if_neg (by decide +kernel)]; exact ⟨rfl, rfl⟩))
  (fun os started H enc _ => Zpi os started H enc)
theorem verdictPuts_card : Rows.VerdictPutsCardSaid :=
 Claim7.holds_tied_plain_at .later [] [.data, .pinned] true (true, "cb08e3e60930965065f09f9783a784d0f3e78900a927b5cdd827454dbc2fb059") false
  Zq8 (fun _ h => by cases h) (by kernel_rfl) (fun _ h => by cases h) verdictPuts_row_tie rfl ⟨rfl, rfl⟩ (by kernel_rfl) rfl
  (fun f fn hf hfn => by
   obtain rfl : f = 7 := Option.some.inj ((show Tryz.prog.funcNamed "colander/colanderlaw08.VerdictPuts" = some 7 by kernel_rfl).symm.trans hf) |>.symm
   obtain rfl : fn = Tryz.f7 := (Option.some.inj (Tryz.func7.symm.trans hfn)).symm
   exact ⟨by kernel_rfl, fun j t ht => by
    rw [Tryz.params7] at ht
    have hm : t ∈ [24, 43] := by simpa using Array.mem_of_getElem? ht
    have hall : ([24, 43].all fun u => !Tryz.prog.wantsStandIn u) = true := by kernel_rfl
    exact (show Tryz.prog.wantsStandIn t = false by simpa using List.all_eq_true.1 hall t hm)⟩)
  (by kernel_rfl)
#print axioms verdictPuts_card
end Go.Proofs.YteoeggbihfnbfaaGreatDoor
end
