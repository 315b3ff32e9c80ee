/- ParseWraps: true at every input; the input reads as it did. Condition: the tables lie as they are laid, which the card ties. -/
import Derived.Test.YtadodmjdkphddaaDoorPlainB
import Derived.Test.YtadodmjdkphddaaDoorPlainC
import Derived.Test.YtadodmjdkphddaaDoorRow
import Derived.Test.YtadodmjdkphddaaDoorCards
import Derived.Test.YtadodmjdkphddaaDoorTie
import Derived.SevenTiedAt

section
set_option linter.unusedSimpArgs false
set_option linter.unusedVariables false
namespace Go.Proofs.YtadodmjdkphddaaDoor.N2
open Go Go.Abs Go.Proofs.Unis Go.Proofs.Norm
set_option maxRecDepth 100000
theorem parseWraps_val (x : ByteArray) : Z5a x = some true := by
 apply Z8r
 unfold Z3V
 rw [anchor3_val, Option.bind_some, if_neg (by simp)]
 unfold Z3q
 split
 ·rfl
 rename_i h4
 unfold Z3n Z2J
 rw [parse_val, Option.bind_some]
 by_cases h : (parseF x).2.Code = 0
 ·rw [if_neg (bne_neg h)]
  by_cases hf : (parseF x).1.Fold = false
  ·rw [if_neg (by rw [hf]; simp)]
   obtain ⟨hl, n, s, hr, e⟩ := reads_of h hf
   unfold Z3r
   have l1 : (bytes (ByteArray.mk #[40, 63, 58])).length = 3 := rfl
   have l2 : (bytes (ByteArray.mk #[41])).length = 1 := rfl
   rw [sadd_ok (by rw [l1]; omega), Option.bind_some, sadd_ok (by rw [bytes_add, List.length_append, l1, l2]; omega), Option.bind_some, parse_val, Option.bind_some]
   have eb : bytes (ByteArray.mk #[40, 63, 58] ++ x ++ ByteArray.mk #[41]) = (40 :: 63 :: 58 :: bytes x) ++ 41 :: [] := by rw [bytes_add, bytes_add]; rfl
   have el : (bytes (ByteArray.mk #[40, 63, 58] ++ x ++ ByteArray.mk #[41])).length = (bytes x).length + 4 := by rw [eb]; simp
   by_cases hb : 256 < (bytes (ByteArray.mk #[40, 63, 58] ++ x ++ ByteArray.mk #[41])).length
   ·rw [parseF_big hb, if_pos (by rfl), if_pos (by rfl), if_pos (dc_pos (by rw [size_bytes]; omega))]
   ·rw [parseF_small (by omega), eb, unis_wrap]
    rcases wrap_plain hr with ⟨p, hp⟩ | hp
    ·have hp' : pParse (wrapU (unis (bytes x)) (unis [])) = (noPat, ⟨25, p⟩) := hp
     rw [hp', if_pos (by rfl), if_neg (by simp)]
     rfl
    ·have hp' : pParse (wrapU (unis (bytes x)) (unis [])) = (⟨n, s.gr, false⟩, ⟨0, 0⟩) := hp
     have hs := same_self h
     rw [e] at hs
     rw [hp', if_neg (by simp), e]
     unfold Z3c
     rw [if_pos (by simp), if_pos (by rfl), hs]
     rfl
  ·rw [if_pos (by simpa using hf)]
 ·rw [if_pos (bne_pos h)]
end Go.Proofs.YtadodmjdkphddaaDoor.N2
end
section
set_option linter.unusedSimpArgs false
set_option linter.unusedVariables false
namespace Go.Proofs.YtadodmjdkphddaaDoor
open Go Go.Abs Go.RowKit Go.ChangeShapes Go.WideShapes Go.ChangeAt
set_option maxRecDepth 100000 in
theorem parseWraps_lifted (os : Os) (started : os.Started) (H : Type) (enc : TypeId × Value → H) :
  ReturnsInHanded {} Tryd.checked os 3 .any (fun w args => (Rows.parseWrapsSpec.pre enc Tryd.prog Tryd.f3 [] false w args ∧ laidMetH Tryd.prog laidL w) ∧ sizedMet enc Tryd.prog Tryd.f3 (OpenSpec.ofChange Rows.parseWrapsSpec) false w args)
   (Rows.parseWrapsSpec.post enc Tryd.prog Tryd.f3 false true false false) := by
 refine returnsInHanded_of_change_and (C := Tryd.checked) (X := fun w _ => laidMetH Tryd.prog laidL w) (fun _ _ _ hh h => h.of_heap hh) own started (by kernel_rfl) Tryd.func3
  (ChangeSpec.witness_shaped (enc := enc) (C := Tryd.checked) (os := os) (X := fun w _ => laidMetH Tryd.prog laidL w) false (laidWorld os) #[.string ⟨#[]⟩] 8 rfl (World.shaped_of_RefB (by kernel_rfl) (by kernel_rfl)) (by kernel_rfl) (by kernel_rfl) (by kernel_rfl) (laid_met os _)) ?_
 intro W base args ds gs before hval0 hW _ _ hL _
 have hval : ∀ (j : Nat) t v, Tryd.f3.params[j]? = some t → args[j]? = some v → Value.okWide Tryd.prog W .any base t v := hval0
 have hW' := hW
 have hlt := fun p hp => hW.lt p hp
 obtain ⟨p, q, hA0, hV, rfl, hfz, hnd⟩ := hW
 have hA : DataW.TrodAll enc Tryd.prog W 0 (fun _ => true) true Tryd.f3.params.toList args.toList ds p := hA0
 rw [Tryd.params3] at hA hval
 obtain ⟨v0, d0, rfl, rfl, h0⟩ := trodAll_one hA
 obtain ⟨rfl, rfl⟩ := trodVars_none hV
 obtain ⟨x0, rfl, rfl, rfl, w0⟩ := Go.ChangeMaps.open_string Tryd.underlying9 (hval 0 9 v0 rfl rfl) h0
 clear hA0 hval0
 simp only [List.append_nil, List.nil_append] at hW' hlt
 have htab := tabs_of hL
 obtain ⟨q, hq, ex, rfl⟩ := N2.Z8s x0  true (N2.parseWraps_val x0 )
 refine (calls_old N2.fspec (Tabs.old htab) hq rfl ?_).mono ?_
 ·intro i x v hx hv
  match i with
  | 0 =>
   simp only [List.getElem?_cons_zero, Option.some.injEq] at hx
   have hv' : Value.string x0 = v := by simpa using hv
   subst hx; subst hv'
   exact ⟨.p _ _ (.v _ rfl), rfl⟩
  | i + 1 => simp at hx
 ·rintro e W' ⟨v, S', β', rfl, bel, hr⟩
  have := scal_rel hr
  subst this
  refine ⟨_, rfl, _, _, _, [], _, [], hW', trodAll_mk1 (shut_bool Tryd.underlying4 _), trodAll_cons_mk (Go.ChangeMaps.shut_string Tryd.underlying9 w0) (trodAll_mk0), rfl, ?_, fun h => by cases h⟩
  exact bel.frame _
theorem parseWraps_holds : Rows.ParseWrapsSaid :=
 OpenClaim.holds_of_wide 3 Tryd.f3 rfl rfl rfl rfl rfl rfl rfl ⟨rfl, rfl, rfl, rfl, rfl⟩ rfl rfl rfl rfl rfl (by kernel_rfl) Tryd.func3 (by kernel_rfl)
  (of_decide_eq_true (by kernel_rfl)) (by unfold Func.isWrapper; first | (rw [if_pos (by decide +kernel)]; kernel_rfl) | (rw [if_neg (by decide +kernel)]; exact ⟨rfl, rfl⟩))
  (fun os started H enc _ => parseWraps_lifted os started H enc)
theorem parseWraps_card : Rows.ParseWrapsCardSaid :=
 Claim7.holds_tied_plain_at .later [] [.data, .pinned] true (true, "aa0ed56c3559362fe8994ee982c3505cd6e490b9947e437ca456bdc414569078") false
  parseWraps_holds (fun _ h => by cases h) (by kernel_rfl) (fun _ h => by cases h) parseWraps_row_tie rfl ⟨rfl, rfl⟩ (by kernel_rfl) rfl
  (fun f fn hf hfn => by
   obtain rfl : f = 3 := Option.some.inj ((show Tryd.prog.funcNamed "colander/colanderlaw03.ParseWraps" = some 3 by kernel_rfl).symm.trans hf) |>.symm
   obtain rfl : fn = Tryd.f3 := (Option.some.inj (Tryd.func3.symm.trans hfn)).symm
   exact ⟨by kernel_rfl, fun j t ht => by
    rw [Tryd.params3] at ht
    have hm : t ∈ [9] := by simpa using Array.mem_of_getElem? ht
    have hall : ([9].all fun u => !Tryd.prog.wantsStandIn u) = true := by kernel_rfl
    exact (show Tryd.prog.wantsStandIn t = false by simpa using List.all_eq_true.1 hall t hm)⟩)
  (by kernel_rfl)
#print axioms parseWraps_card
end Go.Proofs.YtadodmjdkphddaaDoor
end
