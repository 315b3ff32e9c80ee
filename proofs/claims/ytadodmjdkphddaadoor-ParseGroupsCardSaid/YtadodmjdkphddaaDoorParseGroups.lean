/- ParseGroups: true at every input; the input reads as it did. Condition: the tables lie as they are laid, which the card ties. -/
import Derived.Test.YtadodmjdkphddaaDoorPlainB
import Derived.Test.YtadodmjdkphddaaDoorPlainC
import Derived.Test.YtadodmjdkphddaaDoorRow
import Derived.Test.YtadodmjdkphddaaDoorCards
import Derived.Test.YtadodmjdkphddaaDoorTie
import Derived.SevenTiedAt

section
set_option linter.unusedSimpArgs false
set_option linter.unusedVariables false
namespace Go.Proofs.YtadodmjdkphddaaDoor.N2
open Go Go.Abs Go.Proofs.Unis Go.Proofs.Norm
set_option maxRecDepth 100000
theorem unis_group (x : List UInt8) : unis ((40 :: x) ++ [41]) = (40, 1) :: (unis x ++ [(41, 1)]) := by
 show unis (40 :: (x ++ [41])) = _
 rw [unis_ascii (by decide), unis_add (fresh_cons (by decide)), unis_ascii (by decide), unis_nil]
 rfl
theorem unis_fold (x : List UInt8) : unis (40 :: 63 :: 105 :: 41 :: x) = (40, 1) :: (63, 1) :: (105, 1) :: (41, 1) :: unis x := by
 rw [unis_ascii (by decide), unis_ascii (by decide), unis_ascii (by decide), unis_ascii (by decide)]
 rfl
theorem parseGroups_val (x : ByteArray) : Z56 x = some true := by
 apply Z8r
 unfold Z3V
 rw [anchor3_val, Option.bind_some, if_neg (by simp)]
 unfold Z3j
 split
 ·rfl
 rename_i h4
 unfold Z3k Z2a
 rw [parse_val, Option.bind_some]
 by_cases h : (parseF x).2.Code = 0
 ·rw [if_neg (bne_neg h)]
  by_cases hf : (parseF x).1.Fold = false
  ·rw [if_neg (by rw [hf]; simp)]
   obtain ⟨hl, n, s, hr, e⟩ := reads_of h hf
   have hs := same_self h
   rw [e] at hs
   have hm := alt_mono 32 _ _ _ hr.alt
   simp only [] at hm
   by_cases hg : 0 < s.gr
   ·rw [e, if_pos (dc_pos hg)]
   have h0 : s.gr = 0 := by omega
   rw [e, if_neg (dc_neg hg)]
   unfold Z3l
   have l1 : (bytes (ByteArray.mk #[40])).length = 1 := rfl
   have l2 : (bytes (ByteArray.mk #[41])).length = 1 := rfl
   have l3 : (bytes (ByteArray.mk #[40, 63, 105, 41])).length = 4 := rfl
   rw [sadd_ok (by rw [l1]; omega), Option.bind_some, sadd_ok (by rw [bytes_add, List.length_append, l1, l2]; omega), Option.bind_some, parse_val, Option.bind_some, sadd_ok (by rw [l3]; omega), Option.bind_some, parse_val, Option.bind_some]
   have eb : bytes (ByteArray.mk #[40] ++ x ++ ByteArray.mk #[41]) = (40 :: bytes x) ++ [41] := by rw [bytes_add, bytes_add]; rfl
   have ec : bytes (ByteArray.mk #[40, 63, 105, 41] ++ x) = 40 :: 63 :: 105 :: 41 :: bytes x := by rw [bytes_add]; rfl
   have elc : (bytes (ByteArray.mk #[40, 63, 105, 41] ++ x)).length = (bytes x).length + 4 := by rw [ec]; simp
   have elb : (bytes (ByteArray.mk #[40] ++ x ++ ByteArray.mk #[41])).length = (bytes x).length + 2 := by rw [eb]; simp
   by_cases hb : 252 < (bytes x).length
   ·rw [if_pos (dc_pos (by rw [size_bytes]; omega)), parseF_big (x := ByteArray.mk #[40, 63, 105, 41] ++ x) (by omega)]
    rfl
   ·rw [if_neg (dc_neg (by rw [size_bytes]; omega)), parseF_small (x := ByteArray.mk #[40, 63, 105, 41] ++ x) (by omega), ec, unis_fold, fold_plain hr, parseF_small (by omega), eb, unis_group]
    unfold Z3a Z1Q
    rw [if_neg (by simp), if_neg (by simp), if_neg (bne_neg h0), hs, Option.bind_some, if_neg (by simp)]
    unfold Z3c
    rcases group_plain hr h0 with ⟨p, hp⟩ | hp
    ·rw [hp, if_pos (by simp)]
     rfl
    ·rw [hp, if_neg (by simp)]
     unfold Z3b
     rw [if_pos (by rfl), if_pos (by rfl), if_pos (by rfl), if_pos (by simp), show lget [n] 0 = some n from rfl, Option.bind_some, hs]
     rfl
  ·rw [if_pos (by simpa using hf)]
 ·rw [if_pos (bne_pos h)]
end Go.Proofs.YtadodmjdkphddaaDoor.N2
end
section
set_option linter.unusedSimpArgs false
set_option linter.unusedVariables false
namespace Go.Proofs.YtadodmjdkphddaaDoor
open Go Go.Abs Go.RowKit Go.ChangeShapes Go.WideShapes Go.ChangeAt
set_option maxRecDepth 100000 in
theorem parseGroups_lifted (os : Os) (started : os.Started) (H : Type) (enc : TypeId × Value → H) :
  ReturnsInHanded {} Tryd.checked os 4 .any (fun w args => (Rows.parseGroupsSpec.pre enc Tryd.prog Tryd.f4 [] false w args ∧ laidMetH Tryd.prog laidL w) ∧ sizedMet enc Tryd.prog Tryd.f4 (OpenSpec.ofChange Rows.parseGroupsSpec) false w args)
   (Rows.parseGroupsSpec.post enc Tryd.prog Tryd.f4 false true false false) := by
 refine returnsInHanded_of_change_and (C := Tryd.checked) (X := fun w _ => laidMetH Tryd.prog laidL w) (fun _ _ _ hh h => h.of_heap hh) own started (by kernel_rfl) Tryd.func4
  (ChangeSpec.witness_shaped (enc := enc) (C := Tryd.checked) (os := os) (X := fun w _ => laidMetH Tryd.prog laidL w) false (laidWorld os) #[.string ⟨#[]⟩] 8 rfl (World.shaped_of_RefB (by kernel_rfl) (by kernel_rfl)) (by kernel_rfl) (by kernel_rfl) (by kernel_rfl) (laid_met os _)) ?_
 intro W base args ds gs before hval0 hW _ _ hL _
 have hval : ∀ (j : Nat) t v, Tryd.f4.params[j]? = some t → args[j]? = some v → Value.okWide Tryd.prog W .any base t v := hval0
 have hW' := hW
 have hlt := fun p hp => hW.lt p hp
 obtain ⟨p, q, hA0, hV, rfl, hfz, hnd⟩ := hW
 have hA : DataW.TrodAll enc Tryd.prog W 0 (fun _ => true) true Tryd.f4.params.toList args.toList ds p := hA0
 rw [Tryd.params4] at hA hval
 obtain ⟨v0, d0, rfl, rfl, h0⟩ := trodAll_one hA
 obtain ⟨rfl, rfl⟩ := trodVars_none hV
 obtain ⟨x0, rfl, rfl, rfl, w0⟩ := Go.ChangeMaps.open_string Tryd.underlying9 (hval 0 9 v0 rfl rfl) h0
 clear hA0 hval0
 simp only [List.append_nil, List.nil_append] at hW' hlt
 have htab := tabs_of hL
 obtain ⟨q, hq, ex, rfl⟩ := N2.Z8q x0  true (N2.parseGroups_val x0 )
 refine (calls_old N2.fspec (Tabs.old htab) hq rfl ?_).mono ?_
 ·intro i x v hx hv
  match i with
  | 0 =>
   simp only [List.getElem?_cons_zero, Option.some.injEq] at hx
   have hv' : Value.string x0 = v := by simpa using hv
   subst hx; subst hv'
   exact ⟨.p _ _ (.v _ rfl), rfl⟩
  | i + 1 => simp at hx
 ·rintro e W' ⟨v, S', β', rfl, bel, hr⟩
  have := scal_rel hr
  subst this
  refine ⟨_, rfl, _, _, _, [], _, [], hW', trodAll_mk1 (shut_bool Tryd.underlying4 _), trodAll_cons_mk (Go.ChangeMaps.shut_string Tryd.underlying9 w0) (trodAll_mk0), rfl, ?_, fun h => by cases h⟩
  exact bel.frame _
theorem parseGroups_holds : Rows.ParseGroupsSaid :=
 OpenClaim.holds_of_wide 4 Tryd.f4 rfl rfl rfl rfl rfl rfl rfl ⟨rfl, rfl, rfl, rfl, rfl⟩ rfl rfl rfl rfl rfl (by kernel_rfl) Tryd.func4 (by kernel_rfl)
  (of_decide_eq_true (by kernel_rfl)) (by unfold Func.isWrapper; first | (rw [if_pos (by decide +kernel)]; kernel_rfl) | (rw [if_neg (by decide +kernel)]; exact ⟨rfl, rfl⟩))
  (fun os started H enc _ => parseGroups_lifted os started H enc)
theorem parseGroups_card : Rows.ParseGroupsCardSaid :=
 Claim7.holds_tied_plain_at .later [] [.data, .pinned] true (true, "aa0ed56c3559362fe8994ee982c3505cd6e490b9947e437ca456bdc414569078") false
  parseGroups_holds (fun _ h => by cases h) (by kernel_rfl) (fun _ h => by cases h) parseGroups_row_tie rfl ⟨rfl, rfl⟩ (by kernel_rfl) rfl
  (fun f fn hf hfn => by
   obtain rfl : f = 4 := Option.some.inj ((show Tryd.prog.funcNamed "colander/colanderlaw03.ParseGroups" = some 4 by kernel_rfl).symm.trans hf) |>.symm
   obtain rfl : fn = Tryd.f4 := (Option.some.inj (Tryd.func4.symm.trans hfn)).symm
   exact ⟨by kernel_rfl, fun j t ht => by
    rw [Tryd.params4] at ht
    have hm : t ∈ [9] := by simpa using Array.mem_of_getElem? ht
    have hall : ([9].all fun u => !Tryd.prog.wantsStandIn u) = true := by kernel_rfl
    exact (show Tryd.prog.wantsStandIn t = false by simpa using List.all_eq_true.1 hall t hm)⟩)
  (by kernel_rfl)
#print axioms parseGroups_card
end Go.Proofs.YtadodmjdkphddaaDoor
end
