/- ParseUnits: true at every input; the input reads as it did. Condition: the tables lie as they are laid, which the card ties. -/
import Derived.Test.YtadodmjdkphddaaDoorPlainC
import Derived.Test.YtadodmjdkphddaaDoorPlainB
import Derived.Test.YtadodmjdkphddaaDoorRow
import Derived.Test.YtadodmjdkphddaaDoorCards
import Derived.Test.YtadodmjdkphddaaDoorTie
import Derived.SevenTiedAt

section
set_option linter.unusedSimpArgs false
set_option linter.unusedVariables false
namespace Go.Proofs.YtadodmjdkphddaaDoor.N2
open Go Go.Abs Go.Proofs.Unis Go.Proofs.Norm
set_option maxRecDepth 100000
def Zcx (u : Int) : Prop := u ≠ 46 ∧ u ≠ 94 ∧ u ≠ 36 ∧ u ≠ 92 ∧ u ≠ 91 ∧ u ≠ 93 ∧ u ≠ 40 ∧ u ≠ 41 ∧ u ≠ 124 ∧ u ≠ 42 ∧ u ≠ 43 ∧ u ≠ 63 ∧ u ≠ 123 ∧ u ≠ 125
theorem Zmb {P : Int → St → Out (Z8 × Bool)} {us : List Un} {m : Z8 × Bool} {p : Int} (hs : stops us = false) (ha : Z8C P ⟨us, 0, 0, []⟩ = .ok m ⟨[], p, 0, []⟩) : Zc2 P ⟨us, 0, 0, []⟩ = .ok m.1 ⟨[], p, 0, []⟩ := by
 obtain ⟨k, hk⟩ : ∃ k, us.length = k + 1 := by
  cases us with
  | nil => simp [stops] at hs
  | cons x r => exact ⟨r.length, rfl⟩
 unfold Zc2 pCat
 dsimp only
 rw [hk, Zpv hs ha (Zq7 (.inl rfl)), Zqt rfl]
 rfl
theorem ZfJ {x : ByteArray} {us : List Un} {n : Z8} {b : Bool} {p : Int} (hx : (bytes x).length ≤ 256) (he : unis (bytes x) = us) (hs : stops us = false) (hw : wd [40, 63, 105, 41] ⟨us, 0, 0, []⟩ = none)
  (ha : ∀ P, Z8C P ⟨us, 0, 0, []⟩ = .ok (n, b) ⟨[], p, 0, []⟩) : Z89 x = (⟨n, 0, false⟩, ⟨0, 0⟩) := by
 rw [ZkJ hx, he]
 unfold ZfI
 rw [hw]
 dsimp only
 have e32 : pAlt 32 = Zc2 fun p s => Zeb (pAlt 31) p s := rfl
 rw [e32, Zmb hs (ha _)]
 rfl
theorem Zln {x : ByteArray} {u k : Int} (hx : (bytes x).length ≤ 256) (he : unis (bytes x) = [(u, k)]) (h : Zcx u) : Z89 x = (⟨setN [(u, u)], 0, false⟩, ⟨0, 0⟩) := by
 unfold Zcx at h
 refine ZfJ (p := 0 + k) (b := true) hx he ?_ ?_ ?_
 ·show (false || (u == 124) || (u == 41)) = false
  simp
  omega
 ·unfold wd
  simp only [isW]
  rw [if_neg (by omega)]
 ·intro P
  have e : peek [(u, k)] = u := rfl
  unfold Z8C
  dsimp only
  rw [e, if_neg (by omega), if_neg (by omega), if_neg (by omega), if_neg (by omega), if_neg (by omega), if_neg (by omega), if_neg (by omega), if_neg (by omega)]
  rfl
theorem Znc {x : ByteArray} {u : Int} (hx : (bytes x).length ≤ 256) (he : unis (bytes x) = [(92, 1), (u, 1)]) (h0 : 32 < u) (h1 : u < 127) (h2 : ZcS u = false) : Z89 x = (⟨setN [(u, u)], 0, false⟩, ⟨0, 0⟩) := by
 have o : ¬ (48 ≤ u ∧ u ≤ 57) ∧ ¬ (65 ≤ u ∧ u ≤ 90) ∧ ¬ (97 ≤ u ∧ u ≤ 122) := by
  unfold ZcS at h2
  simp only [Bool.or_eq_false_iff, decide_eq_false_iff_not] at h2
  exact ⟨h2.1.1, h2.1.2, h2.2⟩
 refine ZfJ (p := 0 + 1 + 1) (b := true) hx he rfl rfl ?_
 intro P
 have e1 : Z8C P ⟨[(92, 1), (u, 1)], 0, 0, []⟩ = (pEsc 0 ⟨[(u, 1)], 0 + 1, 0, []⟩).bind fun n s1 => .ok (n, n.Kind != 9) s1 := rfl
 have e : peek [(u, 1)] = u := rfl
 have hsh : short u = [] := by
  unfold short
  rw [if_neg (by omega), if_neg (by omega), if_neg (by omega)]
 rw [e1]
 unfold pEsc
 dsimp only
 rw [if_neg (by simp), e, if_neg (by rw [hsh]; simp), if_neg (by omega), if_neg (by omega), if_neg (by omega)]
 unfold Z7v
 rw [if_neg (by omega), if_neg (by omega), if_neg (by omega), if_neg (by omega), if_pos ⟨h0, h1, h2⟩]
 rfl
theorem Zjk (n : Nat) : (encN n).length ≤ 4 := by
 unfold encN
 split
 ·simp
 split
 ·simp
 split
 ·simp
 ·simp
theorem Zpk {n : Nat} {x : ByteArray} (hn : n ≤ 1114111) (hv : n < 55296 ∨ 57344 ≤ n) (hx : bytes x = encB n) : Z2s (n : Int) x = some true := by
 have hl : (encB n).length = (encN n).length := List.length_map ..
 have hl4 := Zjk n
 have b1 : bytes (ByteArray.mk #[92]) = [92] := rfl
 have h12 : Z2t = some true := rfl
 have t11 : Z11 (n : Int) x true = some true := by
  unfold Z11
  rw [h12, if_pos rfl, ite_self, ite_self]
 have key : ZcS (n : Int) = false → Z11 (n : Int) x false = some true := by
  intro ha
  unfold Z11
  rw [h12, if_neg (c := false = true) (by simp)]
  by_cases c1 : (n : Int) ≤ 32
  ·rw [if_pos (Z2v c1)]
  rw [if_neg (Z2e c1)]
  by_cases c2 : (127 : Int) ≤ n
  ·rw [if_pos (Z2v c2)]
  rw [if_neg (Z2e c2)]
  unfold Z3O
  have e1 : (encN n).length = 1 := by
   unfold encN
   rw [if_pos (by omega)]
   rfl
  have eu : unis (bytes (ByteArray.mk #[92] ++ x)) = [(92, 1), ((n : Int), 1)] := by
   have := Zl1 hn hv []
   rw [List.append_nil, ZcA, e1] at this
   rw [ZiI, b1, hx]
   show unis (92 :: encB n) = _
   rw [ZeZ (by decide), this]
   rfl
  rw [Zr6 (by rw [b1, hx]; simp only [List.length_cons, List.length_nil]; omega), Option.bind_some, Z9L, Option.bind_some,
   Znc (by rw [ZiI, List.length_append, b1, hx]; simp only [List.length_cons, List.length_nil]; omega) eu (by omega) (by omega) ha]
  dsimp only
  have hs : (setN [((n : Int), (n : Int))]).Set = [⟨n, n⟩] := rfl
  have hk : (setN [((n : Int), (n : Int))]).Kind = 1 := rfl
  rw [hs, hk, if_pos (Z1C rfl), if_pos (Z1C rfl), if_pos (by simp)]
  show some ((n : Int) == (n : Int)) = _
  rw [Z1C rfl]
 unfold Z2s
 have al : ZcS (n : Int) = (decide (48 ≤ (n : Int) ∧ (n : Int) ≤ 57) || decide (65 ≤ (n : Int) ∧ (n : Int) ≤ 90) || decide (97 ≤ (n : Int) ∧ (n : Int) ≤ 122)) := rfl
 have far : (¬ (97 ≤ (n : Int) ∧ (n : Int) ≤ 122)) → (¬ (48 ≤ (n : Int) ∧ (n : Int) ≤ 57)) → (if (decide (65 ≤ (n : Int))) = true then Z11 (n : Int) x (decide ((n : Int) ≤ 90)) else Z11 (n : Int) x false) = some true := by
  intro k1 k2
  by_cases c1 : (65 : Int) ≤ n
  ·rw [if_pos (Z2v c1)]
   by_cases c2 : (n : Int) ≤ 90
   ·rw [decide_eq_true c2]
    exact t11
   ·rw [decide_eq_false c2]
    exact key (by rw [al, decide_eq_false k2, decide_eq_false k1, decide_eq_false (by omega)]; rfl)
  ·rw [if_neg (Z2e c1)]
   exact key (by rw [al, decide_eq_false k2, decide_eq_false k1, decide_eq_false (by omega)]; rfl)
 by_cases c1 : (48 : Int) ≤ n
 ·rw [if_pos (Z2v c1)]
  by_cases c2 : (n : Int) ≤ 57
  ·rw [if_pos (Z2v c2)]
   exact t11
  rw [if_neg (Z2e c2)]
  by_cases c3 : (97 : Int) ≤ n
  ·rw [if_pos (Z2v c3)]
   by_cases c4 : (n : Int) ≤ 122
   ·rw [if_pos (Z2v c4)]
    exact t11
   ·rw [if_neg (Z2e c4)]
    exact far (by omega) (by omega)
  ·rw [if_neg (Z2e c3)]
   exact far (by omega) (by omega)
 ·rw [if_neg (Z2e c1)]
  by_cases c3 : (97 : Int) ≤ n
  ·omega
  ·rw [if_neg (Z2e c3)]
   exact far (by omega) (by omega)
def Zjf : List (Int × Bool) := [(46, true), (94, true), (36, true), (92, true), (91, true), (93, true), (40, true), (41, true), (124, true), (42, true), (43, true), (63, true), (123, true), (125, true)]
theorem Zph {u : Int} (h : Zcx u) : getM Zjf u = none := by
 unfold Zcx at h
 unfold Zjf
 simp only [getM]
 rw [if_neg (by omega), if_neg (by omega), if_neg (by omega), if_neg (by omega), if_neg (by omega), if_neg (by omega), if_neg (by omega), if_neg (by omega), if_neg (by omega), if_neg (by omega), if_neg (by omega), if_neg (by omega), if_neg (by omega), if_neg (by omega)]
theorem Zpi {u : Int} (h : ¬ Zcx u) : getM Zjf u = some true := by
 have : u = 46 ∨ u = 94 ∨ u = 36 ∨ u = 92 ∨ u = 91 ∨ u = 93 ∨ u = 40 ∨ u = 41 ∨ u = 124 ∨ u = 42 ∨ u = 43 ∨ u = 63 ∨ u = 123 ∨ u = 125 := by
  unfold Zcx at h
  omega
 rcases this with rfl | rfl | rfl | rfl | rfl | rfl | rfl | rfl | rfl | rfl | rfl | rfl | rfl | rfl <;> rfl
theorem Zqd {n : Nat} (hn : n ≤ 1114111) (hv : n < 55296 ∨ 57344 ≤ n) : Z3c (n : Int) = some true := by
 have hl : (encB n).length = (encN n).length := List.length_map ..
 have hl4 := Zjk n
 have he := Zqb (n := n)
 unfold Z3c Z3Z
 rw [Zme hn, Option.bind_some]
 generalize strI ((encN n).map fun (x : Nat) => (x : Int)) = s at he
 rw [Z9L, Option.bind_some]
 unfold Z40
 have r10 := Zpk hn hv he
 have hm : (putM (putM (putM (putM (putM (putM (putM (putM (putM (putM (putM (putM (putM (putM ([] : List (Int × Bool)) 46 true) 94 true) 36 true) 92 true) 91 true) 93 true) 40 true) 41 true) 124 true) 42 true) 43 true) 63 true) 123 true) 125 true) = Zjf := by rfl
 rw [hm]
 by_cases c : Zcx (n : Int)
 ·have eu : unis (bytes s) = [((n : Int), ((encN n).length : Int))] := by
   have := Zl1 hn hv []
   rw [List.append_nil, ZcA] at this
   rw [he, this]
  rw [Zph c, if_pos (by rfl), Zln (by rw [he]; omega) eu c]
  dsimp only
  have hs : (setN [((n : Int), (n : Int))]).Set = [⟨n, n⟩] := rfl
  have hk : (setN [((n : Int), (n : Int))]).Kind = 1 := rfl
  rw [hs, hk, if_neg (Zc4 rfl), if_neg (Zc4 rfl), if_neg (by simp)]
  show (if (((n : Int) != n) = true) then Z1J else (if (((n : Int) != n) = true) then Z1J else _)) = _
  rw [if_neg (Zc4 rfl), if_neg (Zc4 rfl)]
  exact r10
 ·rw [Zpi c, if_neg (by decide)]
  exact r10
theorem parseUnits_val (u : Int) : Z5U u = some true := by
 apply Zaf
 unfold Z4x
 rw [Zl7, Option.bind_some, if_neg (by simp)]
 have hc : Z6V u = some (decide ((0 ≤ u ∧ u ≤ 1114111) ∧ (u < 55296 ∨ 57343 < u))) := by
  apply ZeG
  unfold Z6T
  by_cases c1 : 0 ≤ u <;> by_cases c2 : u ≤ 1114111 <;> by_cases c3 : u < 55296 <;> simp [c1, c2, c3]
 unfold Z3Y
 rw [hc, Option.bind_some]
 by_cases c : (0 ≤ u ∧ u ≤ 1114111) ∧ (u < 55296 ∨ 57343 < u)
 rotate_left
 ·rw [decide_eq_false c, if_pos (by simp)]
 rw [decide_eq_true c, if_neg (by simp)]
 obtain ⟨⟨u0, u1⟩, u2⟩ := c
 obtain ⟨n, rfl⟩ : ∃ n : Nat, u = n := ⟨u.toNat, by omega⟩
 exact Zqd (by omega) (by omega)
end Go.Proofs.YtadodmjdkphddaaDoor.N2
end
section
set_option linter.unusedSimpArgs false
set_option linter.unusedVariables false
namespace Go.Proofs.YtadodmjdkphddaaDoor
open Go Go.Abs Go.RowKit Go.ChangeShapes Go.WideShapes Go.ChangeAt
set_option maxRecDepth 100000 in
theorem Zgv (os : Os) (started : os.Started) (H : Type) (enc : TypeId × Value → H) :
  ReturnsInHanded {} Tryd.checked os 7 .any (fun w args => (Rows.parseUnitsSpec.pre enc Tryd.prog Tryd.f7 [] false w args ∧ laidMetH Tryd.prog ZbZ w) ∧ sizedMet enc Tryd.prog Tryd.f7 (OpenSpec.ofChange Rows.parseUnitsSpec) false w args)
   (Rows.parseUnitsSpec.post enc Tryd.prog Tryd.f7 false true false false) := by
 refine returnsInHanded_of_change_and (C := Tryd.checked) (X := fun w _ => laidMetH Tryd.prog ZbZ w) (fun _ _ _ hh h => h.of_heap hh) own started (by kernel_rfl) Tryd.func7
  (ChangeSpec.witness_shaped (enc := enc) (C := Tryd.checked) (os := os) (X := fun w _ => laidMetH Tryd.prog ZbZ w) false (ZiQ os) #[.int .i64 0] 8 rfl (World.shaped_of_RefB (by kernel_rfl) (by kernel_rfl)) (by kernel_rfl) (by kernel_rfl) (by kernel_rfl) (ZpK os _)) ?_
 intro W base args ds gs before hval0 hW _ _ hL _
 have hval : ∀ (j : Nat) t v, Tryd.f7.params[j]? = some t → args[j]? = some v → Value.okWide Tryd.prog W .any base t v := hval0
 have hW' := hW
 have hlt := fun p hp => hW.lt p hp
 obtain ⟨p, q, hA0, hV, rfl, hfz, hnd⟩ := hW
 have hA : DataW.TrodAll enc Tryd.prog W 0 (fun _ => true) true Tryd.f7.params.toList args.toList ds p := hA0
 rw [Tryd.params7] at hA hval
 obtain ⟨v0, d0, rfl, rfl, h0⟩ := trodAll_one hA
 obtain ⟨rfl, rfl⟩ := trodVars_none hV
 obtain ⟨x0, rfl, rfl, rfl, w0⟩ := open_int Tryd.underlying3 (hval 0 3 v0 rfl rfl) h0
 clear hA0 hval0
 simp only [List.append_nil, List.nil_append] at hW' hlt
 have htab := Zra hL
 obtain ⟨q, hq, ex, rfl⟩ := N2.Zag x0  true (N2.parseUnits_val x0 )
 refine (Znr N2.fspec (Tabs.old htab) hq rfl ?_).mono ?_
 ·intro i x v hx hv
  match i with
  | 0 =>
   simp only [List.getElem?_cons_zero, Option.some.injEq] at hx
   have hv' : Value.int .i64 x0 = v := by simpa using hv
   subst hx; subst hv'
   exact ⟨.p _ _ (.v _ rfl), rfl⟩
  | i + 1 => simp at hx
 ·rintro e W' ⟨v, S', β', rfl, bel, hr⟩
  have := Z3N hr
  subst this
  refine ⟨_, rfl, _, _, _, [], _, [], hW', trodAll_mk1 (shut_bool Tryd.underlying4 _), trodAll_cons_mk (shut_int Tryd.underlying3 w0) (trodAll_mk0), rfl, ?_, fun h => by cases h⟩
  exact bel.frame _
theorem Zh5 : Rows.ParseUnitsSaid :=
 OpenClaim.holds_of_wide 7 Tryd.f7 rfl rfl rfl rfl rfl rfl rfl ⟨rfl, rfl, rfl, rfl, rfl⟩ rfl rfl rfl rfl rfl (by kernel_rfl) Tryd.func7 (by kernel_rfl)
  (of_decide_eq_true (by kernel_rfl)) (by unfold Func.isWrapper; first | (rw [if_pos (by decide +kernel)]; kernel_rfl) | (rw [if_neg (by decide +kernel)]; exact ⟨rfl, rfl⟩))
  (fun os started H enc _ => Zgv os started H enc)
theorem parseUnits_card : Rows.ParseUnitsCardSaid :=
 Claim7.holds_tied_plain_at .later [] [.data, .pinned] true (true, "aa0ed56c3559362fe8994ee982c3505cd6e490b9947e437ca456bdc414569078") false
  Zh5 (fun _ h => by cases h) (by kernel_rfl) (fun _ h => by cases h) parseUnits_row_tie rfl ⟨rfl, rfl⟩ (by kernel_rfl) rfl
  (fun f fn hf hfn => by
   obtain rfl : f = 7 := Option.some.inj ((show Tryd.prog.funcNamed "colander/colanderlaw03.ParseUnits" = some 7 by kernel_rfl).symm.trans hf) |>.symm
   obtain rfl : fn = Tryd.f7 := (Option.some.inj (Tryd.func7.symm.trans hfn)).symm
   exact ⟨by kernel_rfl, fun j t ht => by
    rw [Tryd.params7] at ht
    have hm : t ∈ [3] := by simpa using Array.mem_of_getElem? ht
    have hall : ([3].all fun u => !Tryd.prog.wantsStandIn u) = true := by kernel_rfl
    exact (show Tryd.prog.wantsStandIn t = false by simpa using List.all_eq_true.1 hall t hm)⟩)
  (by kernel_rfl)
#print axioms parseUnits_card
end Go.Proofs.YtadodmjdkphddaaDoor
end
