/- HistoryTwice: true at every input; the input reads as it did. Condition: the tables lie as they are laid, which the card ties. -/
import Derived.Test.YteoeggbihfnbfaaGreatDoorPlainD
import Derived.Test.YteoeggbihfnbfaaGreatDoorRow
import Derived.Test.YteoeggbihfnbfaaGreatDoorCards
import Derived.Test.YteoeggbihfnbfaaGreatDoorTie
import Derived.SevenTiedAt

set_option linter.unusedSimpArgs false
set_option linter.unusedVariables false
set_option linter.defProp false
section
namespace Go.Proofs.YteoeggbihfnbfaaGreatDoor.N2
open Go Go.Abs Go.Proofs.Unis Go.Proofs.Norm
set_option maxRecDepth 100000
theorem ZA2 {α : Type} (m : List (Int × α)) (c : Int) (v : α) : getM (putM m c v) c = some v := by
 induction m with
 | nil => simp [putM, getM]
 | cons p m ih =>
  obtain ⟨k, a⟩ := p
  unfold putM
  by_cases h : k = c
  ·simp [h, getM]
  ·simp [h, getM, ih]
theorem ZGF {α : Type} (m : List (Int × α)) {c d : Int} (v : α) (hd : c ≠ d) : getM (putM m c v) d = getM m d := by
 induction m with
 | nil => simp [putM, getM, hd]
 | cons p m ih =>
  obtain ⟨k, a⟩ := p
  unfold putM
  by_cases h : k = c
  ·subst h; simp [getM, hd]
  ·by_cases h2 : k = d
   ·subst h2; simp [getM, h]
   ·simp [h, h2, getM, ih]
theorem ZN5 {e x : Z10} {m : ML} {o : Z1m} (ho : oldF e m = true) (hx : oldF x m = false) : oldF e (putM m x.Client ⟨x.Request, o⟩) = true := by
 unfold oldF at *
 by_cases hc : x.Client = e.Client
 ·rw [← hc, ZA2]
  rw [← hc] at ho
  cases hg : getM m x.Client with
  | none => rw [hg] at ho; simp at ho
  | some l =>
   rw [hg] at ho hx
   simp only [decide_eq_true_eq, decide_eq_false_iff_not] at ho hx ⊢
   omega
 ·rw [ZGF _ _ hc]
  exact ho
theorem ZKz (e : Z10) (m : ML) (o : Z1m) : oldF e (putM m e.Client ⟨e.Request, o⟩) = true := by
 unfold oldF
 rw [ZA2]
 simp
def Seen (L : List Z10) (m : ML) (i : Nat) : Prop := ∀ j (h : j < L.length), j < i → okE L[j] = true → oldF L[j] m = true
theorem ZKQ {L : List Z10} {m : ML} {i : Nat} (hi : i < L.length) (sets : List ZE) (hs : Seen L m i) : Seen L (addO L[i] sets m).2.2.2 (i + 1) := by
 intro j hj hlt hk
 unfold addO
 split
 ·rename_i h0
  rcases Nat.lt_succ_iff_lt_or_eq.1 hlt with h | rfl
  ·exact hs j hj h hk
  ·rw [h0] at hk; simp at hk
 split
 ·rename_i h0
  rcases Nat.lt_succ_iff_lt_or_eq.1 hlt with h | rfl
  ·exact hs j hj h hk
  ·exact h0
 ·rename_i h0
  rcases Nat.lt_succ_iff_lt_or_eq.1 hlt with h | rfl
  ·exact ZN5 (hs j hj h hk) (by simpa using h0)
  ·exact ZKz _ _ _
theorem ZJO (sets : List ZE) (hn : sets ≠ []) (hf : Fit sets) (hl : sets.length ≤ 1000000) : Z4W sets sets = some true := by
 unfold Z4W
 have hs := hf _ (List.getLast_mem hn)
 simp only [ZuT sets hn hl, ZKS _ _ hf, q0_, ZKT sets hn]
 rw [if_pos (by simp), Zof _ (by show (sets.getLast hn).Rules.length ≤ _; omega), q0_, q0_]
 rw [Zut _ (by show (sets.getLast hn).Rules.length ≤ _; omega)]
 rfl
theorem ZH8 (L : List Z10) (A : List Int) (hL : L.length ≤ 12) : ∀ (d i : Nat) (m : ML) (sets : List ZE) (gc hc : Int), i + d = L.length → sets ≠ [] → Fit sets → sets.length ≤ 1 + i → Seen L m i →
  Z58 L A L (L.length : Int) (i : Int) m sets gc m sets hc = some true := by
 intro d
 induction d with
 | zero =>
  intro i m sets gc hc h hn hf hl hs
  apply ZaK
  unfold Z55
  rw [if_neg (Z2u (by omega))]
  exact ZJO sets hn hf (by omega)
 | succ d ih =>
  intro i m sets gc hc h hn hf hl hs
  have hi : i < L.length := by omega
  obtain ⟨c1, a1⟩ := Zmk L[i] sets gc m hn (by omega)
  obtain ⟨c2, a2⟩ := Zmk L[i] sets hc m hn (by omega)
  have hlen := (ZLt L[i] sets m).2
  have hn' : (addO L[i] sets m).2.2.1 ≠ [] := ZNz hn
  have hf' : Fit (addO L[i] sets m).2.2.1 := ZLs hf
  have hs' := ZKQ hi sets hs
  have next : ∀ c, Z31 L A L (L.length : Int) (i : Int) (addO L[i] sets m).2.2.2 (addO L[i] sets m).2.2.1 c1 (addO L[i] sets m).2.2.2 (addO L[i] sets m).2.2.1 c = some true := by
   intro c
   unfold Z31
   rw [wrap_i64 (by omega) (by omega)]
   exact ih (i + 1) _ _ _ _ (by omega) hn' hf' (by omega) hs'
  apply ZaK
  unfold Z55 Z6i
  rw [if_pos (Z2x (by omega)), Z2N, q2_ hi, q0_, a1, a2, q0_, q0_]
  dsimp only
  rw [if_neg (by simp)]
  unfold Z64
  by_cases h1 : (i : Int) < (A.length : Int)
  case neg => rw [if_neg (Z2u h1)]; exact next _
  rw [if_pos (Z2x h1), Z2N, q2_ (by omega), q0_]
  have hA : i < A.length := by omega
  by_cases h2 : 0 ≤ A[i]
  case neg => rw [if_neg (Z2u h2)]; exact next _
  rw [if_pos (Z2x h2), q0_]
  by_cases h3 : A[i] ≤ (i : Int)
  case neg => rw [if_neg (Z2u h3)]; exact next _
  rw [if_pos (Z2x h3)]
  unfold Z65
  obtain ⟨j, hj⟩ : ∃ j : Nat, A[i] = (j : Int) := ⟨A[i].toNat, by omega⟩
  have hjl : j < L.length := by omega
  rw [Z2N, q2_ hA, q0_, hj, Z2N, q2_ hjl, q0_]
  obtain ⟨c3, a3⟩ := Zmk L[j] (addO L[i] sets m).2.2.1 c2 (addO L[i] sets m).2.2.2 hn' (by omega)
  rw [a3, q0_]
  dsimp only
  cases hk : okE L[j] with
  | false =>
   have e : addO L[j] (addO L[i] sets m).2.2.1 (addO L[i] sets m).2.2.2 = (⟨0, ⟨0, 0, 0⟩⟩, 10, (addO L[i] sets m).2.2.1, (addO L[i] sets m).2.2.2) := by
    rw [addO, if_pos hk]
   rw [e, if_neg (by simp)]
   exact next _
  | true =>
   have ho := hs' j hjl (by omega) hk
   have e : addO L[j] (addO L[i] sets m).2.2.1 (addO L[i] sets m).2.2.2 = (⟨0, ⟨31, 0, 0⟩⟩, 0, (addO L[i] sets m).2.2.1, (addO L[i] sets m).2.2.2) := by
    rw [addO, if_neg (by simp [hk]), if_pos ho]
   rw [e, if_pos (by simp), if_neg (by simp), if_neg (by simp)]
   exact next _
theorem historyTwice_val (l : List Z10) (A : List Int) (hl : l.length ≤ 9223372036854775807) (_ : A.length ≤ 9223372036854775807) : Z9P l A = some true := by
 obtain ⟨b, e⟩ := ZCV l hl
 apply Zip
 unfold Z7r
 rw [ZAv, q0_, if_neg (by simp)]
 unfold Z6g Z4m
 rw [e, q0_]
 cases b with
 | false => rfl
 | true =>
  rw [if_neg (by simp)]
  by_cases h1 : 12 < (l.length : Int)
  ·rw [if_pos (Z2x h1)]
  rw [if_neg (Z2u h1)]
  by_cases h2 : 20 < (A.length : Int)
  ·rw [if_pos (Z2x h2)]
  rw [if_neg (Z2u h2)]
  unfold Z6h
  rw [ZEu, q0_, q0_]
  exact ZH8 l A (by omega) l.length 0 [] [first] 0 0 (by omega) (by simp) (by intro s hs; simp only [Zdu] at hs; subst hs; simp) (by simp) (fun j _ h => by omega)
end Go.Proofs.YteoeggbihfnbfaaGreatDoor.N2
end
section
namespace Go.Proofs.YteoeggbihfnbfaaGreatDoor
open Go Go.Abs Go.RowKit Go.ChangeShapes Go.WideShapes Go.ChangeAt
set_option maxRecDepth 100000 in
theorem Zs4 (os : Os) (started : os.Started) (H : Type) (enc : TypeId × Value → H) :
  ReturnsInHanded {} Tryz.checked os 10 .any (fun w args => (Rows.historyTwiceSpec.pre enc Tryz.prog Tryz.f10 [] false w args ∧ laidMetH Tryz.prog Zmc w) ∧ sizedMet enc Tryz.prog Tryz.f10 (OpenSpec.ofChange Rows.historyTwiceSpec) false w args)
   (Rows.historyTwiceSpec.post enc Tryz.prog Tryz.f10 false true false false) := by
 refine returnsInHanded_of_change_and (C := Tryz.checked) (X := fun w _ => laidMetH Tryz.prog Zmc w) (fun _ _ _ hh h => h.of_heap hh) own started (by kernel_rfl) Tryz.func10
  (ChangeSpec.witness_shaped (enc := enc) (C := Tryz.checked) (os := os) (X := fun w _ => laidMetH Tryz.prog Zmc w) false (ZA4 os) #[.slice none 0 0, .slice none 0 0] 8 rfl (World.shaped_of_RefB (by kernel_rfl) (by kernel_rfl)) (by kernel_rfl) (by kernel_rfl) (by kernel_rfl) (ZKn os _)) ?_
 intro W base args ds gs before hval0 hW _ _ hL _
 have hval : ∀ (j : Nat) t v, Tryz.f10.params[j]? = some t → args[j]? = some v → Value.okWide Tryz.prog W .any base t v := hval0
 have hW' := hW
 have hlt := fun p hp => hW.lt p hp
 obtain ⟨p, q, hA0, hV, rfl, hfz, hnd⟩ := hW
 have hA : DataW.TrodAll enc Tryz.prog W 0 (fun _ => true) true Tryz.f10.params.toList args.toList ds p := hA0
 rw [Tryz.params10] at hA hval
 obtain ⟨v0, v1, d0, d1, p0, p1, rfl, rfl, rfl, h0, h1⟩ := trodAll_two hA
 obtain ⟨rfl, rfl⟩ := trodVars_none hV
 obtain ⟨b0, len0, cap0, hs0⟩ := okWide_slice Tryz.underlying59 (hval 0 59 v0 rfl rfl)
 obtain ⟨x0, w0, r0⟩ := row_one (base := base) (by rw [hs0]; rfl) h0 (ZkG (ee := N2.Z1S) Tryz.underlying59 (of_decide_eq_true (by kernel_rfl)) (fun _ => rfl) (N2.ZzI 61 (by rfl) (by kernel_rfl)))
 obtain ⟨b1, len1, cap1, hs1⟩ := okWide_slice Tryz.underlying27 (hval 1 27 v1 rfl rfl)
 obtain ⟨x1, w1, r1⟩ := row_one (base := base) (by rw [hs1]; rfl) h1 (ZkG (ee := eI .i64) Tryz.underlying27 (of_decide_eq_true (by kernel_rfl)) (fun _ => rfl) (ZA8 Tryz.underlying3))
 clear hA0 hval0
 simp only [Zrr, ZvN] at hW' hlt
 have htab := ZNq hL
 obtain ⟨q, hq, ex, rfl⟩ := N2.Ziq x0 x1 .sh .sh true (N2.historyTwice_val x0 x1 (Zfh w0.1 (by decide)) (Zfh w1.1 (by decide)))
 refine (ZHp N2.fspec (Tabs.old htab) hq rfl ?_).mono ?_
 ·intro i x v hx hv
  match i with
  | 0 =>
   simp only [ZcL, q1_] at hx
   have hv' : v0 = v := by simpa using hv
   subst hx; subst hv'
   exact ⟨.p _ _ r0, rfl⟩
  | 1 =>
   simp only [ZzL, ZcL, q1_] at hx
   have hv' : v1 = v := by simpa using hv
   subst hx; subst hv'
   exact ⟨.p _ _ r1, rfl⟩
  | i + 2 => simp at hx
 ·rintro e W' ⟨v, S', β', rfl, bel, hr⟩
  have := Z6C hr
  subst this
  refine ⟨_, rfl, _, _, _, [], _, [], hW', trodAll_mk1 (shut_bool Tryz.underlying4 _), trodAll_cons_mk (Below.trod laidOut (by kernel_rfl) (of_decide_eq_true (by kernel_rfl)) h0 bel (fun x hx => hlt x (by simp [hx]))) (trodAll_cons_mk (Below.trod laidOut (by kernel_rfl) (of_decide_eq_true (by kernel_rfl)) h1 bel (fun x hx => hlt x (by simp [hx]))) (trodAll_mk0)), rfl, ?_, fun h => by cases h⟩
  exact bel.frame _
theorem ZsW : Rows.HistoryTwiceSaid :=
 OpenClaim.holds_of_wide 10 Tryz.f10 rfl rfl rfl rfl rfl rfl rfl ⟨rfl, rfl, rfl, rfl, rfl⟩ rfl rfl rfl rfl rfl (by kernel_rfl) Tryz.func10 (by kernel_rfl)
  (of_decide_eq_true (by kernel_rfl)) (by unfold Func.isWrapper; first | (rw [if_pos (by decide +kernel)]; kernel_rfl) | (rw [if_neg (by decide +kernel)]; exact ⟨rfl, rfl⟩))
  (fun os started H enc _ => Zs4 os started H enc)
theorem historyTwice_card : Rows.HistoryTwiceCardSaid :=
 Claim7.holds_tied_plain_at .later [] [.data, .pinned] true (true, "cb08e3e60930965065f09f9783a784d0f3e78900a927b5cdd827454dbc2fb059") false
  ZsW (fun _ h => by cases h) (by kernel_rfl) (fun _ h => by cases h) historyTwice_row_tie rfl ⟨rfl, rfl⟩ (by kernel_rfl) rfl
  (fun f fn hf hfn => by
   obtain rfl : f = 10 := Option.some.inj ((show Tryz.prog.funcNamed "colander/colanderlaw14.HistoryTwice" = some 10 by kernel_rfl).symm.trans hf) |>.symm
   obtain rfl : fn = Tryz.f10 := (Option.some.inj (Tryz.func10.symm.trans hfn)).symm
   exact ⟨by kernel_rfl, fun j t ht => by
    rw [Tryz.params10] at ht
    have hm : t ∈ [59, 27] := by simpa using Array.mem_of_getElem? ht
    have hall : ([59, 27].all fun u => !Tryz.prog.wantsStandIn u) = true := by kernel_rfl
    exact (show Tryz.prog.wantsStandIn t = false by simpa using Zam.1 hall t hm)⟩)
  (by kernel_rfl)
#print axioms historyTwice_card
end Go.Proofs.YteoeggbihfnbfaaGreatDoor
end
