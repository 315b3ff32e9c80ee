/- HistoryApart: true at every input; the input reads as it did. Condition: the tables lie as they are laid, which the card ties. -/
import Derived.Test.YteoeggbihfnbfaaGreatDoorPlainD
import Derived.Test.YteoeggbihfnbfaaGreatDoorRow
import Derived.Test.YteoeggbihfnbfaaGreatDoorCards
import Derived.Test.YteoeggbihfnbfaaGreatDoorTie
import Derived.SevenTiedAt

set_option linter.unusedSimpArgs false
set_option linter.unusedVariables false
set_option linter.defProp false
section
namespace Go.Proofs.YteoeggbihfnbfaaGreatDoor.N2
open Go Go.Abs Go.Proofs.Unis Go.Proofs.Norm
set_option maxRecDepth 100000
theorem Zqw {α : Type} (c : Int) (v : α) : ∀ m : List (Int × α), getM (putM m c v) c = some v
 | [] => by simp [putM, getM]
 | p :: m => by
  unfold putM
  by_cases h : p.1 = c
  ·simp [h, getM]
  ·simp [h, getM, Zqw c v m]
theorem Zox {α : Type} {c d : Int} (v : α) (hd : c ≠ d) : ∀ m : List (Int × α), getM (putM m c v) d = getM m d
 | [] => by simp [putM, getM, hd]
 | p :: m => by
  unfold putM
  by_cases h : p.1 = c
  ·have : ¬ p.1 = d := fun k => hd (h.symm.trans k)
   simp [h, getM, hd]
  ·by_cases h2 : p.1 = d
   ·rw [if_neg h]
    simp [h2, getM]
   ·rw [if_neg h]
    simp [h2, getM, Zox v hd m]
theorem ZFs {x : ZX} {c : Int} {sets : List ZE} {m : ML} (hc : x.Client ≠ c) (hm : getM m c = none) : getM (addO x sets m).2.2.2 c = none := by
 unfold addO
 split
 ·exact hm
 split
 ·exact hm
 ·show getM (putM m x.Client _) c = none
  rw [Zox _ hc]
  exact hm
theorem ZFx (e : ZX) (hk : okE e = true) (m : ML) (hm : getM m e.Client = none) (sets : List ZE) (c : Int) (hn : sets ≠ []) (hl : sets.length ≤ 1000000) : Z4G e m sets c = some true := by
 obtain ⟨c1, a1⟩ := ZnD e sets c m hn hl
 have ho : oldF e m = false := by unfold oldF; rw [hm]
 have ea : addO e sets m = ((chF e.Delta sets).1, 0, (chF e.Delta sets).2, putM m e.Client ⟨e.Request, (chF e.Delta sets).1⟩) := by rw [addO, if_neg (by simp [hk]), if_neg (by simp [ho])]
 rw [ea] at a1
 have l1 : ∀ m : ML, Z5U e.Client m = Z4Y e.Client m := fun m => Ziy _ _ rfl
 unfold Z4G
 rw [l1, Z4Y, q0_, hm]
 dsimp only
 rw [if_neg (by simp)]
 unfold Z5L
 rw [a1, q0_]
 dsimp only
 rw [l1, Z4Y, q0_, Zqw]
 dsimp only [Option.getD_some]
 rw [if_pos (by simp)]
 by_cases h31 : (chF e.Delta sets).1.Verdict.Code = 31
 ·rw [if_neg (by simp [h31]), if_pos (by simp [h31]), if_pos (by simp), if_pos (by simp)]
  simp
 ·rw [if_pos (by simp [h31])]
theorem ZCY (e : ZX) (hk : okE e = true) (L : List ZX) (hL : L.length ≤ 12) : ∀ (d i : Nat) (m : ML) (sets : List ZE) (c : Int), i + d = L.length → sets ≠ [] → sets.length ≤ 1 + i → getM m e.Client = none →
  Z4Q L (L.length : Int) (i : Int) e m sets c = some true := by
 intro d
 induction d with
 | zero =>
  intro i m sets c h hn hl hm
  apply Zae
  unfold Z4N
  rw [if_neg (Z2C (by omega))]
  exact ZFx e hk m hm sets c hn (by omega)
 | succ d ih =>
  intro i m sets c h hn hl hm
  have hi : i < L.length := by omega
  obtain ⟨c1, a1⟩ := ZnD L[i] sets c m hn (by omega)
  have hlen := (ZJp L[i] sets m).2
  apply Zae
  unfold Z4N Z5Z
  rw [if_pos (Z2F (by omega)), Z3a, q2_ hi, q0_]
  by_cases hc : L[i].Client = e.Client
  ·rw [if_neg (ZeO hc)]
   unfold Z40
   rw [wrap_i64 (by omega) (by omega)]
   exact ih (i + 1) _ _ _ (by omega) hn (by omega) hm
  ·rw [if_pos (ZeP hc), a1, q0_]
   dsimp only
   unfold Z40
   rw [wrap_i64 (by omega) (by omega)]
   exact ih (i + 1) _ _ _ (by omega) (ZLw hn) (by omega) (ZFs hc hm)
theorem historyApart_val (l : List ZX) (e : ZX) (hl : l.length ≤ 1353245080338) : Z9m l e = some true := by
 obtain ⟨b, hb⟩ := ZB9 (e :: l) (by rw [Z7t]; omega)
 have hla : lapp [e] l = some (e :: l) := by
  unfold lapp
  rw [if_pos (by rw [List.length_singleton]; unfold lim; omega)]
  rfl
 apply Zht
 unfold Z76
 rw [ZyY, q0_, if_neg (by simp)]
 unfold Z5X Z47
 rw [hla, q0_, hb, q0_]
 cases b with
 | false => rfl
 | true =>
  rw [if_neg (by simp)]
  by_cases h1 : 12 < (l.length : Int)
  ·rw [if_pos (Z2F h1)]
  rw [if_neg (Z2C h1), ZiX, q0_]
  cases hk : okE e with
  | false => rfl
  | true =>
   rw [if_neg (by simp)]
   unfold Z5Y
   rw [ZCH, q0_]
   exact ZCY e hk l (by omega) l.length 0 [] [first] 0 (by omega) (by simp) (by simp) rfl
end Go.Proofs.YteoeggbihfnbfaaGreatDoor.N2
end
section
namespace Go.Proofs.YteoeggbihfnbfaaGreatDoor
open Go Go.Abs Go.RowKit Go.ChangeShapes Go.WideShapes Go.ChangeAt
set_option maxRecDepth 100000 in
theorem ZqR (os : Os) (started : os.Started) (H : Type) (enc : TypeId × Value → H) :
  ReturnsInHanded {} Tryz.checked os 8 .any (fun w args => (Rows.historyApartSpec.pre enc Tryz.prog Tryz.f8 [] false w args ∧ laidMetH Tryz.prog Zl9 w) ∧ sizedMet enc Tryz.prog Tryz.f8 (OpenSpec.ofChange Rows.historyApartSpec) false w args)
   (Rows.historyApartSpec.post enc Tryz.prog Tryz.f8 false true false false) := by
 refine returnsInHanded_of_change_and (C := Tryz.checked) (X := fun w _ => laidMetH Tryz.prog Zl9 w) (fun _ _ _ hh h => h.of_heap hh) own started (by kernel_rfl) Tryz.func8
  (ChangeSpec.witness_shaped (enc := enc) (C := Tryz.checked) (os := os) (X := fun w _ => laidMetH Tryz.prog Zl9 w) false (Zyu os) #[.slice none 0 0, ((Tryz.prog.info? 61).bind (·.zero)).getD undef] 8 rfl (World.shaped_of_RefB (by kernel_rfl) (by kernel_rfl)) (by kernel_rfl) (by kernel_rfl) (by kernel_rfl) (ZIq os _)) ?_
 intro W base args ds gs before hval0 hW _ hsz0 hL _
 have hval : ∀ (j : Nat) t v, Tryz.f8.params[j]? = some t → args[j]? = some v → Value.okWide Tryz.prog W .any base t v := hval0
 have hW' := hW
 have hlt := fun p hp => hW.lt p hp
 obtain ⟨p, q, hA0, hV, rfl, hfz, hnd⟩ := hW
 have hA : DataW.TrodAll enc Tryz.prog W 0 (fun _ => true) true Tryz.f8.params.toList args.toList ds p := hA0
 rw [Tryz.params8] at hA hval
 obtain ⟨v0, v1, d0, d1, p0, p1, rfl, rfl, rfl, h0, h1⟩ := trodAll_two hA
 obtain ⟨rfl, rfl⟩ := trodVars_none hV
 obtain ⟨b0, len0, cap0, hs0⟩ := okWide_slice Tryz.underlying59 (hval 0 59 v0 rfl rfl)
 obtain ⟨x0, w0, r0⟩ := row_one (base := base) (by rw [hs0]; rfl) h0 (Zns (ee := N2.Z1X) Tryz.underlying59 (of_decide_eq_true (by kernel_rfl)) (fun _ => rfl) (N2.ZoG 61 (by rfl) (by kernel_rfl)))
 obtain ⟨x1, w1, r1⟩ := ZLi Tryz.underlying61 (hval 1 61 v1 rfl rfl) h1 (N2.ZoG 61 Tryz.underlying61 (by kernel_rfl))
 rw [Tryz.params8] at hsz0
 have reach0 := ZHI (P := Tryz.prog) hsz0 0 rfl Tryz.underlying59 rfl h0 r0
 rw [Zdr, show Tryz.prog.bytesOf 61 = 104 by kernel_rfl, show reachBytes = 140737488351232 from rfl] at reach0
 clear hA0 hval0
 simp only [Zqj, Zum] at hW' hlt
 have htab := ZLo hL
 obtain ⟨q, hq, ex, rfl⟩ := N2.Zhu x0 x1 .sh .sh .sh true (N2.historyApart_val x0 x1 (by omega))
 refine (ZFE N2.fspec (Tabs.old htab) hq rfl ?_).mono ?_
 ·intro i x v hx hv
  match i with
  | 0 =>
   simp only [Zc7, q1_] at hx
   have hv' : v0 = v := by simpa using hv
   subst hx; subst hv'
   exact ⟨.p _ _ r0, rfl⟩
  | 1 =>
   simp only [Zyc, Zc7, q1_] at hx
   have hv' : v1 = v := by simpa using hv
   subst hx; subst hv'
   exact ⟨.p _ _ r1, rfl⟩
  | i + 2 => simp at hx
 ·rintro e W' ⟨v, S', β', rfl, bel, hr⟩
  have := Z6i hr
  subst this
  refine ⟨_, rfl, _, _, _, [], _, [], hW', trodAll_mk1 (shut_bool Tryz.underlying4 _), trodAll_cons_mk (Below.trod laidOut (by kernel_rfl) (of_decide_eq_true (by kernel_rfl)) h0 bel (fun x hx => hlt x (by simp [hx]))) (trodAll_cons_mk (Below.trod laidOut (by kernel_rfl) (of_decide_eq_true (by kernel_rfl)) h1 bel (fun x hx => hlt x (by simp [hx]))) (trodAll_mk0)), rfl, ?_, fun h => by cases h⟩
  exact bel.frame _
theorem ZrC : Rows.HistoryApartSaid :=
 OpenClaim.holds_of_wide 8 Tryz.f8 rfl rfl rfl rfl rfl rfl rfl ⟨rfl, rfl, rfl, rfl, rfl⟩ rfl rfl rfl rfl rfl (by kernel_rfl) Tryz.func8 (by kernel_rfl)
  (of_decide_eq_true (by kernel_rfl)) (by unfold Func.isWrapper; first | (rw [if_pos (by decide +kernel)]; kernel_rfl) | (rw [if_neg (by decide +kernel)]; exact ⟨rfl, rfl⟩))
  (fun os started H enc _ => ZqR os started H enc)
theorem historyApart_card : Rows.HistoryApartCardSaid :=
 Claim7.holds_tied_plain_at .later [] [.data, .pinned] true (true, "cb08e3e60930965065f09f9783a784d0f3e78900a927b5cdd827454dbc2fb059") false
  ZrC (fun _ h => by cases h) (by kernel_rfl) (fun _ h => by cases h) historyApart_row_tie rfl ⟨rfl, rfl⟩ (by kernel_rfl) rfl
  (fun f fn hf hfn => by
   obtain rfl : f = 8 := Option.some.inj ((show Tryz.prog.funcNamed "colander/colanderlaw14.HistoryApart" = some 8 by kernel_rfl).symm.trans hf) |>.symm
   obtain rfl : fn = Tryz.f8 := (Option.some.inj (Tryz.func8.symm.trans hfn)).symm
   exact ⟨by kernel_rfl, fun j t ht => by
    rw [Tryz.params8] at ht
    have hm : t ∈ [59, 61] := by simpa using Array.mem_of_getElem? ht
    have hall : ([59, 61].all fun u => !Tryz.prog.wantsStandIn u) = true := by kernel_rfl
    exact (show Tryz.prog.wantsStandIn t = false by simpa using Za5.1 hall t hm)⟩)
  (by kernel_rfl)
#print axioms historyApart_card
end Go.Proofs.YteoeggbihfnbfaaGreatDoor
end
