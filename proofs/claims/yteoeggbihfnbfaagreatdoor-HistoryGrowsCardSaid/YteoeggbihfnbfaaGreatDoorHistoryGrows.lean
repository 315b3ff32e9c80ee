/- HistoryGrows: true at every input; the input reads as it did. Condition: the tables lie as they are laid, which the card ties. -/
import Derived.Test.YteoeggbihfnbfaaGreatDoorPlainD
import Derived.Test.YteoeggbihfnbfaaGreatDoorRow
import Derived.Test.YteoeggbihfnbfaaGreatDoorCards
import Derived.Test.YteoeggbihfnbfaaGreatDoorTie
import Derived.SevenTiedAt

set_option linter.unusedSimpArgs false
set_option linter.unusedVariables false
set_option linter.defProp false
section
namespace Go.Proofs.YteoeggbihfnbfaaGreatDoor.N2
open Go Go.Abs Go.Proofs.Unis Go.Proofs.Norm
set_option maxRecDepth 100000
theorem ZNH {sets : List ZD} {v : Nat} (h : v < sets.length) : setF (v : Int) sets = (sets[v], true) := by
 unfold setF
 rw [if_neg (by omega), Int.toNat_natCast, q2_ h]
def ZF5 (sets : List ZD) : Prop := ∀ s ∈ sets.drop 1, (ZbY s).Code = 0
theorem ZJD {sets : List ZD} (hn : sets ≠ []) (hf : Fit sets) (hl : sets.length ≤ 1000) (hr : ZF5 sets) : ∀ (d v : Nat), v + d + 1 = sets.length →
  Z53 ((sets.drop 1).map rS) ((sets.drop 1).map rS) (((sets.drop 1).map rS).length : Int) (v : Int) sets = some true := by
 have hlen : ((sets.drop 1).map rS).length = sets.length - 1 := by simp
 intro d
 induction d with
 | zero =>
  intro v h
  apply ZaD
  unfold Z4W Z6e
  rw [if_neg (Z2E (by omega)), ZeG sets hn (by omega), q0_, hlen]
  have : (((sets.length - 1 : Nat) : Int) == (sets.length : Int) - 1) = true := by rw [beq_iff_eq]; omega
  rw [this]
 | succ d ih =>
  intro v h
  have hv : v + 1 < sets.length := by omega
  have hm : sets[v + 1] ∈ sets := ZoR hv
  have hs := hf _ hm
  have hd : sets[v + 1] ∈ sets.drop 1 := q8_ (i := v) (by rw [Znm, Nat.add_comm 1 v, q2_ hv])
  have hg : lget ((sets.drop 1).map rS) (v : Int) = some (rS sets[v + 1]) := by
   rw [Z2W, q5_, Znm, Nat.add_comm 1 v, q2_ hv]
   rfl
  apply ZaD
  unfold Z4W Z6c
  rw [if_pos (Z2G (by omega)), hg, q0_, wrap_i64 (by omega) (by omega), show ((v : Int) + 1) = ((v + 1 : Nat) : Int) by omega, Znr _ _ hf, q0_, ZNH hv]
  dsimp only
  rw [if_neg (by simp), ZcX _ hs, q0_, ZlW _ (show sets[v + 1].Rules.length ≤ 1000000 from hs), q0_, if_neg (by simp), ZAq, q0_, if_neg (Zez (hr _ hd))]
  unfold Z6d
  rw [wrap_i64 (by omega) (by omega)]
  exact ih (v + 1) (by omega)
theorem ZH1 (L : List Z16) (hL : L.length ≤ 16) : ∀ (d i : Nat) (m : ML) (sets : List ZD) (c : Int), i + d = L.length → sets ≠ [] → Fit sets → ZF5 sets → sets.length ≤ 1 + i →
  Z5d ((sets.drop 1).map rS) L (L.length : Int) (i : Int) m sets c = some true := by
 intro d
 induction d with
 | zero =>
  intro i m sets c h hn hf hr hl
  apply ZaU
  unfold Z59 Z6b
  have : 0 < sets.length := ZzY.2 hn
  rw [if_neg (Z2E (by omega))]
  exact ZJD hn hf (by omega) hr (sets.length - 1) 0 (by omega)
 | succ d ih =>
  intro i m sets c h hn hf hr hl
  have hi : i < L.length := by omega
  have h0 : 0 < sets.length := ZzY.2 hn
  obtain ⟨c1, a1⟩ := ZtL L[i] sets c m hn (by omega)
  have next : ∀ (m' : ML) c', Z32 ((sets.drop 1).map rS) L (L.length : Int) (i : Int) m' sets c' = some true := by
   intro m' c'
   unfold Z32
   rw [wrap_i64 (by omega) (by omega)]
   exact ih (i + 1) _ _ _ (by omega) hn hf hr (by omega)
  have before : (setF ((sets.length : Int) - 1) sets).1 = Z8q sets := by
   rw [ZDe sets hn]
   unfold Z8q
   rw [List.getLastD_eq_getLast?, List.getLast?_eq_some_getLast hn]
   rfl
  apply ZaU
  unfold Z59 Z6q
  rw [if_pos (Z2G (by omega)), Z2W, q2_ hi, q0_, ZeG sets hn (by omega), q0_, Znr _ _ hf, q0_, a1, q0_, before]
  dsimp only
  cases hk : okE L[i] with
  | false =>
   have e : addO L[i] sets m = (⟨0, ⟨0, 0, 0⟩⟩, 10, sets, m) := by rw [addO, if_pos hk]
   rw [e, if_pos (by simp)]
   exact next _ _
  | true =>
  obtain ⟨l1, l2⟩ := ZET hk
  cases ho : oldF L[i] m with
  | true =>
   have e : addO L[i] sets m = (⟨0, ⟨31, 0, 0⟩⟩, 0, sets, m) := by rw [addO, if_neg (by simp [hk]), if_pos ho]
   rw [e, if_neg (by simp)]
   unfold Z4X
   rw [ZeG sets hn (by omega), q0_, Znr _ _ hf, q0_, ZlZ _ _ (by omega) (by omega), q0_]
   dsimp only
   rw [if_neg (by simp), q0_, if_neg (by simp), if_neg (by simp), if_neg (by simp)]
   exact next _ _
  | false =>
  have e : addO L[i] sets m = ((chF L[i].Delta sets).1, 0, (chF L[i].Delta sets).2, putM m L[i].Client ⟨L[i].Request, (chF L[i].Delta sets).1⟩) := by rw [addO, if_neg (by simp [hk]), if_neg (by simp [ho])]
  rw [e, if_neg (by simp)]
  unfold Z4X
  by_cases hc : (Z4h (Z8q sets) L[i].Delta).2.Code = 0
  ·have e2 : chF L[i].Delta sets = (⟨sets.length, ⟨0, 0, 0⟩⟩, sets ++ [(Z4h (Z8q sets) L[i].Delta).1]) := by rw [chF, if_neg (by simp [hc])]
   have hok := ZzU (ZFb hc)
   have hn2 : sets ++ [(Z4h (Z8q sets) L[i].Delta).1] ≠ [] := by simp
   have hf2 : Fit (sets ++ [(Z4h (Z8q sets) L[i].Delta).1]) := by
    intro s hs
    rcases ZgS.1 hs with hs | hs
    ·exact hf s hs
    ·simp only [Zd0] at hs
     subst hs
     omega
   have hr2 : ZF5 (sets ++ [(Z4h (Z8q sets) L[i].Delta).1]) := by
    intro s hs
    rw [ZPE (by omega)] at hs
    rcases ZgS.1 hs with hs | hs
    ·exact hr s hs
    ·simp only [Zd0] at hs
     subst hs
     exact ZAT hc
   have hl2 : (sets ++ [(Z4h (Z8q sets) L[i].Delta).1]).length = sets.length + 1 := by simp
   have now : setF (((sets ++ [(Z4h (Z8q sets) L[i].Delta).1]).length : Int) - 1) (sets ++ [(Z4h (Z8q sets) L[i].Delta).1]) = ((Z4h (Z8q sets) L[i].Delta).1, true) := by
    rw [ZDe _ hn2]
    simp
   rw [e2]
   dsimp only
   rw [ZeG _ hn2 (by omega), q0_, Znr _ _ hf2, q0_, ZlZ _ _ (by omega) (by omega), q0_, now, if_pos (by simp), wrap_i64 (by omega) (by omega), if_neg (by simp), q0_, if_neg (by rw [hl2]; simp), if_neg (by simp), if_neg (Zez hc), ZcX _ (by omega), q0_, q0_, ZlW _ (show (Z4h (Z8q sets) L[i].Delta).1.Rules.length ≤ 1000000 by omega), q0_, if_neg (by simp)]
   unfold Z6a Z32
   rw [ZcX _ (show (Z4h (Z8q sets) L[i].Delta).1.Rules.length ≤ 1000000 by omega), q0_, Zrs _ _ (by rw [ZfB, Ztv]; omega), q0_, wrap_i64 (by omega) (by omega)]
   have e3 : (sets.drop 1).map rS ++ [rS (Z4h (Z8q sets) L[i].Delta).1] = ((sets ++ [(Z4h (Z8q sets) L[i].Delta).1]).drop 1).map rS := by
    rw [ZPE (by omega), List.map_append]
    rfl
   rw [e3]
   exact ih (i + 1) _ _ _ (by omega) hn2 hf2 hr2 (by omega)
  ·have e2 : chF L[i].Delta sets = (⟨0, (Z4h (Z8q sets) L[i].Delta).2⟩, sets) := by rw [chF, if_pos hc]
   rw [e2]
   dsimp only
   rw [ZeG sets hn (by omega), q0_, Znr _ _ hf, q0_, ZlZ _ _ (by omega) (by omega), q0_, if_neg (by simp [hc]), q0_, if_neg (by simp), if_neg (by simp)]
   by_cases h31 : (Z4h (Z8q sets) L[i].Delta).2.Code = 31
   ·rw [if_neg (by simp [h31])]
    exact next _ _
   ·rw [if_pos (by simp [h31]), if_neg (by simp)]
    exact next _ _
theorem historyGrows_val (l : List Z16) (hl : l.length ≤ 9223372036854775807) : Z9W l = some true := by
 obtain ⟨b, e⟩ := ZDg l hl
 apply ZiC
 unfold Z7C
 rw [ZAP, q0_, if_neg (by simp)]
 unfold Z6o Z5a
 rw [e, q0_]
 cases b with
 | false => rfl
 | true =>
  rw [if_neg (by simp)]
  by_cases h1 : 16 < (l.length : Int)
  ·rw [if_pos (Z2G h1)]
  rw [if_neg (Z2E h1)]
  unfold Z6p
  rw [ZEO, q0_]
  exact ZH1 l (by omega) l.length 0 [] [first] 0 (by omega) (by simp) (by intro s hs; simp only [Zd0] at hs; subst hs; simp) (by intro s hs; simp at hs) (by simp)
end Go.Proofs.YteoeggbihfnbfaaGreatDoor.N2
end
section
namespace Go.Proofs.YteoeggbihfnbfaaGreatDoor
open Go Go.Abs Go.RowKit Go.ChangeShapes Go.WideShapes Go.ChangeAt
set_option maxRecDepth 100000 in
theorem Zsn (os : Os) (started : os.Started) (H : Type) (enc : TypeId × Value → H) :
  ReturnsInHanded {} Tryz.checked os 9 .any (fun w args => (Rows.historyGrowsSpec.pre enc Tryz.prog Tryz.f9 [] false w args ∧ laidMetH Tryz.prog Zmq w) ∧ sizedMet enc Tryz.prog Tryz.f9 (OpenSpec.ofChange Rows.historyGrowsSpec) false w args)
   (Rows.historyGrowsSpec.post enc Tryz.prog Tryz.f9 false true false false) := by
 refine returnsInHanded_of_change_and (C := Tryz.checked) (X := fun w _ => laidMetH Tryz.prog Zmq w) (fun _ _ _ hh h => h.of_heap hh) own started (by kernel_rfl) Tryz.func9
  (ChangeSpec.witness_shaped (enc := enc) (C := Tryz.checked) (os := os) (X := fun w _ => laidMetH Tryz.prog Zmq w) false (ZAh os) #[.slice none 0 0] 8 rfl (World.shaped_of_RefB (by kernel_rfl) (by kernel_rfl)) (by kernel_rfl) (by kernel_rfl) (by kernel_rfl) (ZKR os _)) ?_
 intro W base args ds gs before hval0 hW _ _ hL _
 have hval : ∀ (j : Nat) t v, Tryz.f9.params[j]? = some t → args[j]? = some v → Value.okWide Tryz.prog W .any base t v := hval0
 have hW' := hW
 have hlt := fun p hp => hW.lt p hp
 obtain ⟨p, q, hA0, hV, rfl, hfz, hnd⟩ := hW
 have hA : DataW.TrodAll enc Tryz.prog W 0 (fun _ => true) true Tryz.f9.params.toList args.toList ds p := hA0
 rw [Tryz.params9] at hA hval
 obtain ⟨v0, d0, rfl, rfl, h0⟩ := trodAll_one hA
 obtain ⟨rfl, rfl⟩ := trodVars_none hV
 obtain ⟨b0, len0, cap0, hs0⟩ := okWide_slice Tryz.underlying59 (hval 0 59 v0 rfl rfl)
 obtain ⟨x0, w0, r0⟩ := row_one (base := base) (by rw [hs0]; rfl) h0 (ZoQ (ee := N2.Z2a) Tryz.underlying59 (of_decide_eq_true (by kernel_rfl)) (fun _ => rfl) (N2.ZzV 61 (by rfl) (by kernel_rfl)))
 clear hA0 hval0
 simp only [ZrK, Zw2] at hW' hlt
 have htab := ZNN hL
 obtain ⟨q, hq, ex, rfl⟩ := N2.ZiD x0 .sh true (N2.historyGrows_val x0 (ZgU w0.1 (by decide)))
 refine (ZHL N2.fspec (Tabs.old htab) hq rfl ?_).mono ?_
 ·intro i x v hx hv
  match i with
  | 0 =>
   simp only [ZdK, q1_] at hx
   have hv' : v0 = v := by simpa using hv
   subst hx; subst hv'
   exact ⟨.p _ _ r0, rfl⟩
  | i + 1 => simp at hx
 ·rintro e W' ⟨v, S', β', rfl, bel, hr⟩
  have := Z6K hr
  subst this
  refine ⟨_, rfl, _, _, _, [], _, [], hW', trodAll_mk1 (shut_bool Tryz.underlying4 _), trodAll_cons_mk (Below.trod laidOut (by kernel_rfl) (of_decide_eq_true (by kernel_rfl)) h0 bel (fun x hx => hlt x (by simp [hx]))) (trodAll_mk0), rfl, ?_, fun h => by cases h⟩
  exact bel.frame _
theorem Zte : Rows.HistoryGrowsSaid :=
 OpenClaim.holds_of_wide 9 Tryz.f9 rfl rfl rfl rfl rfl rfl rfl ⟨rfl, rfl, rfl, rfl, rfl⟩ rfl rfl rfl rfl rfl (by kernel_rfl) Tryz.func9 (by kernel_rfl)
  (of_decide_eq_true (by kernel_rfl)) (by unfold Func.isWrapper; first | (rw [if_pos (by decide +kernel)]; kernel_rfl) | (rw [if_neg (by decide +kernel)]; exact ⟨rfl, rfl⟩))
  (fun os started H enc _ => Zsn os started H enc)
theorem historyGrows_card : Rows.HistoryGrowsCardSaid :=
 Claim7.holds_tied_plain_at .later [] [.data, .pinned] true (true, "cb08e3e60930965065f09f9783a784d0f3e78900a927b5cdd827454dbc2fb059") false
  Zte (fun _ h => by cases h) (by kernel_rfl) (fun _ h => by cases h) historyGrows_row_tie rfl ⟨rfl, rfl⟩ (by kernel_rfl) rfl
  (fun f fn hf hfn => by
   obtain rfl : f = 9 := Option.some.inj ((show Tryz.prog.funcNamed "colander/colanderlaw14.HistoryGrows" = some 9 by kernel_rfl).symm.trans hf) |>.symm
   obtain rfl : fn = Tryz.f9 := (Option.some.inj (Tryz.func9.symm.trans hfn)).symm
   exact ⟨by kernel_rfl, fun j t ht => by
    rw [Tryz.params9] at ht
    have hm : t ∈ [59] := by simpa using Array.mem_of_getElem? ht
    have hall : ([59].all fun u => !Tryz.prog.wantsStandIn u) = true := by kernel_rfl
    exact (show Tryz.prog.wantsStandIn t = false by simpa using Zas.1 hall t hm)⟩)
  (by kernel_rfl)
#print axioms historyGrows_card
end Go.Proofs.YteoeggbihfnbfaaGreatDoor
end
