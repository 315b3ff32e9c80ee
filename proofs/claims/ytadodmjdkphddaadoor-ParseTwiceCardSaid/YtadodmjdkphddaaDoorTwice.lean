/- ParseTwice: true at every input; the input reads as it did. Condition: the tables lie as they are laid, which the card ties. -/
import Derived.Test.YtadodmjdkphddaaDoorPlainB
import Derived.Test.YtadodmjdkphddaaDoorRow
import Derived.Test.YtadodmjdkphddaaDoorCards
import Derived.Test.YtadodmjdkphddaaDoorTie
import Derived.SevenTiedAt

section
set_option linter.unusedSimpArgs false
set_option linter.unusedVariables false
namespace Go.Proofs.YtadodmjdkphddaaDoor.N2
open Go Go.Abs Go.Proofs.Unis Go.Proofs.Norm
set_option maxRecDepth 100000
theorem anchor3_val : Z4S = some true := by
 have e1 : (parseF (ByteArray.mk #[97, 124, 98, 42, 63])) = (⟨⟨3, 0, 0, 0, 0, [], [⟨1, 0, 0, 0, 0, [⟨97, 97⟩], []⟩, ⟨4, 0, -1, 1, 0, [], [⟨1, 0, 0, 0, 0, [⟨98, 98⟩], []⟩]⟩]⟩, 0, false⟩, ⟨0, 0⟩) := by rfl
 have e2 : (parseF (ByteArray.mk #[97, 42, 42])) = (noPat, ⟨23, 2⟩) := by rfl
 have e3 : (parseF (ByteArray.mk #[40, 97])) = (noPat, ⟨20, 0⟩) := by rfl
 have e4 : (parseF (ByteArray.mk #[92, 49])) = (noPat, ⟨26, 0⟩) := by rfl
 apply Z9j
 unfold Z4Q
 rw [parse_val, Option.bind_some, parse_val, Option.bind_some, parse_val, Option.bind_some, parse_val, Option.bind_some, e1, e2, e3, e4]
 rfl
theorem parseTwice_val (x : ByteArray) : Z57 x = some true := by
 apply Z8k
 unfold Z3U
 rw [anchor3_val, Option.bind_some, if_neg (by simp)]
 unfold Z3n
 split
 ·rfl
 unfold Z3m
 have hg : Good (parseF x).1.Root := by
  by_cases h : (parseF x).2.Code = 0
  ·exact parse_good h
  ·have : (parseF x).1 = noPat := by
    have hE : ∀ fold o, (pEnd fold o).2.Code ≠ 0 → (pEnd fold o).1 = noPat := by
     intro fold o ho
     unfold pEnd at ho ⊢
     split
     ·rfl
     ·dsimp only at ho ⊢
      split
      ·rfl
      ·rename_i h1
       rw [if_neg h1] at ho
       split
       ·rfl
       ·rename_i h2
        rw [h2] at ho
        exact absurd rfl ho
    unfold parseF at h ⊢
    split
    ·rfl
    ·rename_i hx
     rw [if_neg hx] at h
     unfold pParse at h ⊢
     split
     ·rename_i h1
      rw [h1] at h
      exact hE _ _ h
     ·rename_i h1
      rw [h1] at h
      exact hE _ _ h
   rw [this]
   exact .none
 rw [parse_val, Option.bind_some, Option.bind_some, if_pos (by simp), if_pos (by simp), if_pos (by simp), same_refl hg]
 rfl
end Go.Proofs.YtadodmjdkphddaaDoor.N2
end
section
set_option linter.unusedSimpArgs false
set_option linter.unusedVariables false
namespace Go.Proofs.YtadodmjdkphddaaDoor
open Go Go.Abs Go.RowKit Go.ChangeShapes Go.WideShapes Go.ChangeAt
set_option maxRecDepth 100000 in
theorem parseTwice_lifted (os : Os) (started : os.Started) (H : Type) (enc : TypeId × Value → H) :
  ReturnsInHanded {} Tryd.checked os 8 .any (fun w args => (Rows.parseTwiceSpec.pre enc Tryd.prog Tryd.f8 [] false w args ∧ laidMetH Tryd.prog laidL w) ∧ sizedMet enc Tryd.prog Tryd.f8 (OpenSpec.ofChange Rows.parseTwiceSpec) false w args)
   (Rows.parseTwiceSpec.post enc Tryd.prog Tryd.f8 false true false false) := by
 refine returnsInHanded_of_change_and (C := Tryd.checked) (X := fun w _ => laidMetH Tryd.prog laidL w) (fun _ _ _ hh h => h.of_heap hh) own started (by kernel_rfl) Tryd.func8
  (ChangeSpec.witness_shaped (enc := enc) (C := Tryd.checked) (os := os) (X := fun w _ => laidMetH Tryd.prog laidL w) false (laidWorld os) #[.string ⟨#[]⟩] 8 rfl (World.shaped_of_RefB (by kernel_rfl) (by kernel_rfl)) (by kernel_rfl) (by kernel_rfl) (by kernel_rfl) (laid_met os _)) ?_
 intro W base args ds gs before hval0 hW _ _ hL _
 have hval : ∀ (j : Nat) t v, Tryd.f8.params[j]? = some t → args[j]? = some v → Value.okWide Tryd.prog W .any base t v := hval0
 have hW' := hW
 have hlt := fun p hp => hW.lt p hp
 obtain ⟨p, q, hA0, hV, rfl, hfz, hnd⟩ := hW
 have hA : DataW.TrodAll enc Tryd.prog W 0 (fun _ => true) true Tryd.f8.params.toList args.toList ds p := hA0
 rw [Tryd.params8] at hA hval
 obtain ⟨v0, d0, rfl, rfl, h0⟩ := trodAll_one hA
 obtain ⟨rfl, rfl⟩ := trodVars_none hV
 obtain ⟨x0, rfl, rfl, rfl, w0⟩ := Go.ChangeMaps.open_string Tryd.underlying9 (hval 0 9 v0 rfl rfl) h0
 clear hA0 hval0
 simp only [List.append_nil, List.nil_append] at hW' hlt
 have htab := tabs_of hL
 obtain ⟨q, hq, ex, rfl⟩ := N2.Z8o x0  true (N2.parseTwice_val x0 )
 refine (calls_old N2.fspec (Tabs.old htab) hq rfl ?_).mono ?_
 ·intro i x v hx hv
  match i with
  | 0 =>
   simp only [List.getElem?_cons_zero, Option.some.injEq] at hx
   have hv' : Value.string x0 = v := by simpa using hv
   subst hx; subst hv'
   exact ⟨.p _ _ (.v _ rfl), rfl⟩
  | i + 1 => simp at hx
 ·rintro e W' ⟨v, S', β', rfl, bel, hr⟩
  have := scal_rel hr
  subst this
  refine ⟨_, rfl, _, _, _, [], _, [], hW', trodAll_mk1 (shut_bool Tryd.underlying4 _), trodAll_cons_mk (Go.ChangeMaps.shut_string Tryd.underlying9 w0) (trodAll_mk0), rfl, ?_, fun h => by cases h⟩
  exact bel.frame _
theorem parseTwice_holds : Rows.ParseTwiceSaid :=
 OpenClaim.holds_of_wide 8 Tryd.f8 rfl rfl rfl rfl rfl rfl rfl ⟨rfl, rfl, rfl, rfl, rfl⟩ rfl rfl rfl rfl rfl (by kernel_rfl) Tryd.func8 (by kernel_rfl)
  (of_decide_eq_true (by kernel_rfl)) (by unfold Func.isWrapper; first | (rw [if_pos (by decide +kernel)]; kernel_rfl) | (rw [if_neg (by decide +kernel)]; exact ⟨rfl, rfl⟩))
  (fun os started H enc _ => parseTwice_lifted os started H enc)
theorem parseTwice_card : Rows.ParseTwiceCardSaid :=
 Claim7.holds_tied_plain_at .later [] [.data, .pinned] true (true, "aa0ed56c3559362fe8994ee982c3505cd6e490b9947e437ca456bdc414569078") false
  parseTwice_holds (fun _ h => by cases h) (by kernel_rfl) (fun _ h => by cases h) parseTwice_row_tie rfl ⟨rfl, rfl⟩ (by kernel_rfl) rfl
  (fun f fn hf hfn => by
   obtain rfl : f = 8 := Option.some.inj ((show Tryd.prog.funcNamed "colander/colanderlaw03.ParseTwice" = some 8 by kernel_rfl).symm.trans hf) |>.symm
   obtain rfl : fn = Tryd.f8 := (Option.some.inj (Tryd.func8.symm.trans hfn)).symm
   exact ⟨by kernel_rfl, fun j t ht => by
    rw [Tryd.params8] at ht
    have hm : t ∈ [9] := by simpa using Array.mem_of_getElem? ht
    have hall : ([9].all fun u => !Tryd.prog.wantsStandIn u) = true := by kernel_rfl
    exact (show Tryd.prog.wantsStandIn t = false by simpa using List.all_eq_true.1 hall t hm)⟩)
  (by kernel_rfl)
#print axioms parseTwice_card
end Go.Proofs.YtadodmjdkphddaaDoor
end
