/- JudgeSelf: true at every input; the input reads as it did. Condition: the tables lie as they are laid, which the card ties. -/
import Derived.Test.YtiigbcahdaoedaaGreatDoorTop
import Derived.Test.YtiigbcahdaoedaaGreatDoorRow
import Derived.Test.YtiigbcahdaoedaaGreatDoorCards
import Derived.Test.YtiigbcahdaoedaaGreatDoorTie
import Derived.SevenTiedAt

set_option linter.unusedSimpArgs false
set_option linter.unusedVariables false
set_option linter.defProp false
section
namespace Go.Proofs.YtiigbcahdaoedaaGreatDoor.N3
open N2
open Go Go.Abs
set_option maxRecDepth 100000
theorem ZBU (s : Z0) : Z1K s = N2.Z1K s := by
 unfold Z1K N2.Z1K
 rw [low (f := 23) (by kernel_rfl)]
theorem ZAO (s : Z0) (n : Nat) (h0 : 1 ≤ n) (hn : n ≤ 7) : ∀ (d i : Nat), i + d = n → Z3b (List.replicate i s) (n : Int) (i : Int) s = some true := by
 intro d
 induction d with
 | zero =>
  intro i h
  obtain rfl : i = n := by omega
  apply Z8Q
  unfold Z37 Z45
  rw [if_neg (Z10 (by omega)), ZBU, Z6y, ZY]
  have hc := ZuP i h0 hn s
  have key : ∀ w : Int, ((Z1b s).Log.length : Int) = w → Z2s (List.replicate i s) w s = some true := by
   intro w hw
   unfold Z2s
   rw [Zrf, ZvI i hn s, ZY, if_pos rfl, ZkX, hc, ZY, if_pos (Z61 hw), ZgU, ZqV, ZY]
  by_cases c : okSt s = true
  ·rw [if_pos c]
   exact key _ (by unfold Z1b; rw [if_pos c])
  ·rw [if_neg c]
   exact key _ (by unfold Z1b; rw [if_neg c]; rfl)
 | succ d ih =>
  intro i h
  apply Z8Q
  unfold Z37 Z4r
  rw [if_pos (Z12 (by omega)), Z5k _ _ (by rw [Zxd]; omega), ZY, wrap_i64 (by omega) (by omega), ← List.replicate_succ']
  exact ih (i + 1) (by omega)
theorem judgeSelf_val (s : Z0) (n : Int) (h : s.Log.length ≤ maxLen) : Z7X s n = some true := by
 obtain ⟨b, hb, _⟩ := Zed [s] ⟨show 1 ≤ maxLen by decide, by simpa using h⟩
 apply ZeM
 unfold Z5r Z4q
 rw [Zdo, ZY, if_neg (by simp), hb, ZY]
 cases b with
 | false => rfl
 | true =>
  rw [if_neg (by simp)]
  by_cases c1 : n < 1
  ·rw [if_pos (Z12 c1)]; rfl
  ·rw [if_neg (Z10 c1)]
   by_cases c2 : 7 < n
   ·rw [if_pos (Z12 c2)]; rfl
   ·rw [if_neg (Z10 c2)]
    have := ZAO s n.toNat (by omega) (by omega) n.toNat 0 (by omega)
    rw [Int.toNat_of_nonneg (by omega)] at this
    exact this
end Go.Proofs.YtiigbcahdaoedaaGreatDoor.N3
end
section
namespace Go.Proofs.YtiigbcahdaoedaaGreatDoor
open Go Go.Abs Go.RowKit Go.ChangeShapes Go.WideShapes Go.ChangeAt
set_option maxRecDepth 100000 in
theorem ZnO (os : Os) (started : os.Started) (H : Type) (enc : TypeId × Value → H) :
  ReturnsInHanded {} Tryz.checked os 7 .any (fun w args => (Rows.judgeSelfSpec.pre enc Tryz.prog Tryz.f7 [] false w args ∧ laidMetH Tryz.prog Z8P w) ∧ sizedMet enc Tryz.prog Tryz.f7 (OpenSpec.ofChange Rows.judgeSelfSpec) false w args)
   (Rows.judgeSelfSpec.post enc Tryz.prog Tryz.f7 false true false false) := by
 refine returnsInHanded_of_change_and (C := Tryz.checked) (X := fun w _ => laidMetH Tryz.prog Z8P w) (fun _ _ _ hh h => h.of_heap hh) own started (by kernel_rfl) Tryz.func7
  (ChangeSpec.witness_shaped (enc := enc) (C := Tryz.checked) (os := os) (X := fun w _ => laidMetH Tryz.prog Z8P w) false (Zd9 os) #[((Tryz.prog.info? 39).bind (·.zero)).getD undef, .int .i64 0] 8 rfl (World.shaped_of_RefB (by kernel_rfl) (by kernel_rfl)) (by kernel_rfl) (by kernel_rfl) (by kernel_rfl) (Zhq os _)) ?_
 intro W base args ds gs before hval0 hW _ hsz0 hL _
 have hval : ∀ (j : Nat) t v, Tryz.f7.params[j]? = some t → args[j]? = some v → Value.okWide Tryz.prog W .any base t v := hval0
 have hW' := hW
 have hlt := fun p hp => hW.lt p hp
 obtain ⟨p, q, hA0, hV, rfl, hfz, hnd⟩ := hW
 have hA : DataW.TrodAll enc Tryz.prog W 0 (fun _ => true) true Tryz.f7.params.toList args.toList ds p := hA0
 rw [Tryz.params7] at hA hval
 obtain ⟨v0, v1, d0, d1, p0, p1, rfl, rfl, rfl, h0, h1⟩ := trodAll_two hA
 obtain ⟨rfl, rfl⟩ := trodVars_none hV
 obtain ⟨x0, w0, r0⟩ := ZgW Tryz.underlying39 (hval 0 39 v0 rfl rfl) h0 (N3.op_SState19 39 (by rfl) (by kernel_rfl))
 obtain ⟨x1, rfl, rfl, rfl, w1⟩ := open_int Tryz.underlying3 (hval 1 3 v1 rfl rfl) h1
 clear hA0 hval0
 simp only [ZbZ, Zmn] at hW' hlt
 obtain ⟨q, hq, ex, rfl⟩ := N3.g_colanderlaw19_JudgeSelf_to x0 x1 .sh true (N3.judgeSelf_val x0 x1 w0)
 refine (Zfl N3.fspec trivial hq rfl ?_).mono ?_
 ·intro i x v hx hv
  match i with
  | 0 =>
   simp only [Z5U, q1_] at hx
   have hv' : v0 = v := by simpa using hv
   subst hx; subst hv'
   exact ⟨.p _ _ r0, rfl⟩
  | 1 =>
   simp only [ZiM, Z5U, q1_] at hx
   have hv' : Value.int .i64 x1 = v := by simpa using hv
   subst hx; subst hv'
   exact ⟨.p _ _ (.v _ rfl), rfl⟩
  | i + 2 => simp at hx
 ·rintro e W' ⟨v, S', β', rfl, bel, hr⟩
  have := Z2N hr
  subst this
  refine ⟨_, rfl, _, _, _, [], _, [], hW', trodAll_mk1 (shut_bool Tryz.underlying4 _), trodAll_cons_mk (Below.trod laidOut (by kernel_rfl) (of_decide_eq_true (by kernel_rfl)) h0 bel (fun x hx => hlt x (by simp [hx]))) (trodAll_cons_mk (shut_int Tryz.underlying3 w1) (trodAll_mk0)), rfl, ?_, fun h => by cases h⟩
  exact bel.frame _
theorem Zpu : Rows.JudgeSelfSaid :=
 OpenClaim.holds_of_wide 7 Tryz.f7 rfl rfl rfl rfl rfl rfl rfl ⟨rfl, rfl, rfl, rfl, rfl⟩ rfl rfl rfl rfl rfl (by kernel_rfl) Tryz.func7 (by kernel_rfl)
  (of_decide_eq_true (by kernel_rfl)) (by unfold Func.isWrapper; first | (rw [if_pos (by decide +kernel)]; kernel_rfl) | (rw [if_neg (by decide +kernel)]; exact ⟨rfl, rfl⟩))
  (fun os started H enc _ => ZnO os started H enc)
theorem judgeSelf_card : Rows.JudgeSelfCardSaid :=
 Claim7.holds_tied_plain_at .later [] [.data, .pinned] true (true, "4487f4a49bb2595de23d329e9a8ac7d3f2dc5251f5bd4c6ad52e880d46566562") false
  Zpu (fun _ h => by cases h) (by kernel_rfl) (fun _ h => by cases h) judgeSelf_row_tie rfl ⟨rfl, rfl⟩ (by kernel_rfl) rfl
  (fun f fn hf hfn => by
   obtain rfl : f = 7 := Option.some.inj ((show Tryz.prog.funcNamed "colander/colanderlaw19.JudgeSelf" = some 7 by kernel_rfl).symm.trans hf) |>.symm
   obtain rfl : fn = Tryz.f7 := (Option.some.inj (Tryz.func7.symm.trans hfn)).symm
   exact ⟨by kernel_rfl, fun j t ht => by
    rw [Tryz.params7] at ht
    have hm : t ∈ [39, 3] := by simpa using ZnW ht
    have hall : ([39, 3].all fun u => !Tryz.prog.wantsStandIn u) = true := by kernel_rfl
    exact (show Tryz.prog.wantsStandIn t = false by simpa using Z5a.1 hall t hm)⟩)
  (by kernel_rfl)
#print axioms judgeSelf_card
end Go.Proofs.YtiigbcahdaoedaaGreatDoor
end
