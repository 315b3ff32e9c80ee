/- VerdictFirst: true at every input; the input reads as it did. Condition: the tables lie as they are laid, which the card ties. -/
import Derived.Test.YteoeggbihfnbfaaGreatDoorPlainC
import Derived.Test.YteoeggbihfnbfaaGreatDoorRow
import Derived.Test.YteoeggbihfnbfaaGreatDoorCards
import Derived.Test.YteoeggbihfnbfaaGreatDoorTie
import Derived.SevenTiedAt

section
set_option linter.unusedSimpArgs false
set_option linter.unusedVariables false
namespace Go.Proofs.YteoeggbihfnbfaaGreatDoor.N2
open Go Go.Abs Go.Proofs.Unis Go.Proofs.Norm
set_option maxRecDepth 100000
theorem ZA4 (n : Nat) (hn : n ≤ 17) : ∀ (m i : Nat) (last : Int) (s : ZC), i + m = n → s.Rules.length + 1 = m → okS s = true → (∀ r ∈ s.Rules, r.ID ≤ last → Fine r) →
  Z48 last (n : Int) (i : Int) s = some true := by
 intro m
 induction m with
 | zero => intro i last s h h2; omega
 | succ m ih =>
  intro i last s h h2 hs hl
  apply ZdA
  unfold Z51 Z54
  rw [if_pos (Z2t (by omega)), ZoE, Option.bind_some]
  by_cases hc : (Z50 s).Code = 0
  ·rw [if_pos (Z2e hc)]
   obtain ⟨_, hf⟩ := Zxu hc
   rw [Zxt hs hf]
   rfl
  ·rw [if_neg (Z2l hc)]
   obtain ⟨d1, d2, d3, d4⟩ := Zyn hs hl hc
   have hap := ZwG hs d2
   have hap' : ZdZ s ⟨-1, -1, -1, -1, [], [(Z50 s).Rule]⟩ = (⟨s.Default, s.Closed, s.Fuel, s.Stack, s.Rules.filter fun y => y.ID != (Z50 s).Rule⟩, 0) := hap
   unfold Z4Q Z4R Z4S Z4T
   rw [if_neg (Z2o (by omega)), ZAC _ _ (by simp) (by simp), Option.bind_some, hap', if_neg (Zla rfl), wrap_i64 (by omega) (by omega)]
   exact ih (i + 1) _ _ (by omega) (by show (s.Rules.filter fun y => y.ID != (Z50 s).Rule).length + 1 = m; omega) (ZuE hap') d3
theorem verdictFirst_val (s : ZC) : Z7W s = some true := by
 obtain ⟨b, e, hb⟩ := ZCr s ⟨0, 0, 0, 0, [], []⟩
 apply Zfh
 unfold Z60
 rw [ZwE, Option.bind_some, if_neg (by simp)]
 unfold Z52 Z45
 rw [e, Option.bind_some]
 cases b with
 | false => rfl
 | true =>
  rw [if_neg (by simp), ZbF, Option.bind_some]
  cases hs : okS s with
  | false => rfl
  | true =>
   rw [if_neg (by simp)]
   unfold Z53
   have hlen := okS_len hs
   obtain ⟨_, hpos, _⟩ := ZiD hs
   rw [wrap_i64 (by omega) (by omega)]
   exact ZA4 (s.Rules.length + 1) (by omega) (s.Rules.length + 1) 0 0 s (by omega) rfl hs (fun r hr hle => by have := hpos r hr; omega)
end Go.Proofs.YteoeggbihfnbfaaGreatDoor.N2
end
section
set_option linter.unusedSimpArgs false
set_option linter.unusedVariables false
namespace Go.Proofs.YteoeggbihfnbfaaGreatDoor
open Go Go.Abs Go.RowKit Go.ChangeShapes Go.WideShapes Go.ChangeAt
set_option maxRecDepth 100000 in
theorem Zo1 (os : Os) (started : os.Started) (H : Type) (enc : TypeId × Value → H) :
  ReturnsInHanded {} Tryz.checked os 4 .any (fun w args => (Rows.verdictFirstSpec.pre enc Tryz.prog Tryz.f4 [] false w args ∧ laidMetH Tryz.prog ZiB w) ∧ sizedMet enc Tryz.prog Tryz.f4 (OpenSpec.ofChange Rows.verdictFirstSpec) false w args)
   (Rows.verdictFirstSpec.post enc Tryz.prog Tryz.f4 false true false false) := by
 refine returnsInHanded_of_change_and (C := Tryz.checked) (X := fun w _ => laidMetH Tryz.prog ZiB w) (fun _ _ _ hh h => h.of_heap hh) own started (by kernel_rfl) Tryz.func4
  (ChangeSpec.witness_shaped (enc := enc) (C := Tryz.checked) (os := os) (X := fun w _ => laidMetH Tryz.prog ZiB w) false (Zu8 os) #[((Tryz.prog.info? 24).bind (·.zero)).getD undef] 8 rfl (World.shaped_of_RefB (by kernel_rfl) (by kernel_rfl)) (by kernel_rfl) (by kernel_rfl) (by kernel_rfl) (ZDa os _)) ?_
 intro W base args ds gs before hval0 hW _ _ hL _
 have hval : ∀ (j : Nat) t v, Tryz.f4.params[j]? = some t → args[j]? = some v → Value.okWide Tryz.prog W .any base t v := hval0
 have hW' := hW
 have hlt := fun p hp => hW.lt p hp
 obtain ⟨p, q, hA0, hV, rfl, hfz, hnd⟩ := hW
 have hA : DataW.TrodAll enc Tryz.prog W 0 (fun _ => true) true Tryz.f4.params.toList args.toList ds p := hA0
 rw [Tryz.params4] at hA hval
 obtain ⟨v0, d0, rfl, rfl, h0⟩ := trodAll_one hA
 obtain ⟨rfl, rfl⟩ := trodVars_none hV
 obtain ⟨x0, w0, r0⟩ := ZFO Tryz.underlying24 (hval 0 24 v0 rfl rfl) h0 (N2.Zwa 24 Tryz.underlying24 (by kernel_rfl))
 clear hA0 hval0
 simp only [List.append_nil, List.nil_append] at hW' hlt
 have htab := ZFU hL
 obtain ⟨q, hq, ex, rfl⟩ := N2.Zfi x0 .sh true (N2.verdictFirst_val x0 )
 refine (ZAH N2.fspec (Tabs.old htab) hq rfl ?_).mono ?_
 ·intro i x v hx hv
  match i with
  | 0 =>
   simp only [List.getElem?_cons_zero, Option.some.injEq] at hx
   have hv' : v0 = v := by simpa using hv
   subst hx; subst hv'
   exact ⟨.p _ _ r0, rfl⟩
  | i + 1 => simp at hx
 ·rintro e W' ⟨v, S', β', rfl, bel, hr⟩
  have := Z5i hr
  subst this
  refine ⟨_, rfl, _, _, _, [], _, [], hW', trodAll_mk1 (shut_bool Tryz.underlying4 _), trodAll_cons_mk (Below.trod laidOut (by kernel_rfl) (of_decide_eq_true (by kernel_rfl)) h0 bel (fun x hx => hlt x (by simp [hx]))) (trodAll_mk0), rfl, ?_, fun h => by cases h⟩
  exact bel.frame _
theorem ZoL : Rows.VerdictFirstSaid :=
 OpenClaim.holds_of_wide 4 Tryz.f4 rfl rfl rfl rfl rfl rfl rfl ⟨rfl, rfl, rfl, rfl, rfl⟩ rfl rfl rfl rfl rfl (by kernel_rfl) Tryz.func4 (by kernel_rfl)
  (of_decide_eq_true (by kernel_rfl)) (by unfold Func.isWrapper; first | (rw [if_pos (by decide +kernel)]; kernel_rfl) | (rw [if_neg (by decide +kernel)]; exact ⟨rfl, rfl⟩))
  (fun os started H enc _ => Zo1 os started H enc)
theorem verdictFirst_card : Rows.VerdictFirstCardSaid :=
 Claim7.holds_tied_plain_at .later [] [.data, .pinned] true (true, "cb08e3e60930965065f09f9783a784d0f3e78900a927b5cdd827454dbc2fb059") false
  ZoL (fun _ h => by cases h) (by kernel_rfl) (fun _ h => by cases h) verdictFirst_row_tie rfl ⟨rfl, rfl⟩ (by kernel_rfl) rfl
  (fun f fn hf hfn => by
   obtain rfl : f = 4 := Option.some.inj ((show Tryz.prog.funcNamed "colander/colanderlaw08.VerdictFirst" = some 4 by kernel_rfl).symm.trans hf) |>.symm
   obtain rfl : fn = Tryz.f4 := (Option.some.inj (Tryz.func4.symm.trans hfn)).symm
   exact ⟨by kernel_rfl, fun j t ht => by
    rw [Tryz.params4] at ht
    have hm : t ∈ [24] := by simpa using Array.mem_of_getElem? ht
    have hall : ([24].all fun u => !Tryz.prog.wantsStandIn u) = true := by kernel_rfl
    exact (show Tryz.prog.wantsStandIn t = false by simpa using List.all_eq_true.1 hall t hm)⟩)
  (by kernel_rfl)
#print axioms verdictFirst_card
end Go.Proofs.YteoeggbihfnbfaaGreatDoor
end
