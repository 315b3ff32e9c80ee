/- ShapeAlts: true at every input; the input reads as it did. Condition: the tables lie as they are laid, which the card ties. -/
import Derived.Test.YtadodmjdkphddaaDoorPlainC
import Derived.Test.YtadodmjdkphddaaDoorRow
import Derived.Test.YtadodmjdkphddaaDoorCards
import Derived.Test.YtadodmjdkphddaaDoorTie
import Derived.SevenTiedAt

section
set_option linter.unusedSimpArgs false
set_option linter.unusedVariables false
namespace Go.Proofs.YtadodmjdkphddaaDoor.N2
open Go Go.Abs Go.Proofs.Unis Go.Proofs.Norm
set_option maxRecDepth 100000
theorem shapeAlts_val (x y : ByteArray) : Z5T x y = some true := by
 apply Z9D
 unfold Z4G
 rw [anchor4_val, Option.bind_some, if_neg (by simp)]
 unfold Z3T Z3a
 split
 ·rfl
 rename_i hx
 split
 ·rfl
 rename_i hy
 have lx : (bytes x).length ≤ 100 := by simp at hx; rw [size_bytes] at hx; omega
 have ly : (bytes y).length ≤ 100 := by simp at hy; rw [size_bytes] at hy; omega
 unfold Z40 Z1W
 have b1 : bytes (ByteArray.mk #[40, 63, 58]) = [40, 63, 58] := rfl
 have b2 : bytes (ByteArray.mk #[41, 124, 40, 63, 58]) = [41, 124, 40, 63, 58] := rfl
 have b3 : bytes (ByteArray.mk #[41]) = [41] := rfl
 have eb : bytes (ByteArray.mk #[40, 63, 58] ++ x ++ ByteArray.mk #[41, 124, 40, 63, 58] ++ y ++ ByteArray.mk #[41]) = (40 :: 63 :: 58 :: bytes x) ++ 41 :: 124 :: ((40 :: 63 :: 58 :: bytes y) ++ 41 :: []) := by
  rw [bytes_add, bytes_add, bytes_add, bytes_add, b1, b2, b3]
  simp
 have el : (bytes (ByteArray.mk #[40, 63, 58] ++ x ++ ByteArray.mk #[41, 124, 40, 63, 58] ++ y ++ ByteArray.mk #[41])).length ≤ 256 := by rw [eb]; simp only [List.length_append, List.length_cons, List.length_nil]; omega
 have eu : unis ((40 :: 63 :: 58 :: bytes x) ++ 41 :: 124 :: ((40 :: 63 :: 58 :: bytes y) ++ 41 :: [])) = wrapU (unis (bytes x)) ((124, 1) :: wrapU (unis (bytes y)) []) := by rw [unis_wrap, unis_ascii (by decide), unis_wrap, unis_nil]; rfl
 rw [parse_val, Option.bind_some, parse_val, Option.bind_some, sadd_ok (by rw [b1]; simp only [List.length_cons, List.length_nil]; omega), Option.bind_some,
  sadd_ok (by rw [bytes_add, List.length_append, b1, b2]; simp only [List.length_cons, List.length_nil]; omega), Option.bind_some,
  sadd_ok (by rw [bytes_add, bytes_add, List.length_append, List.length_append, b1, b2]; simp only [List.length_cons, List.length_nil]; omega), Option.bind_some,
  sadd_ok (by rw [bytes_add, bytes_add, bytes_add, List.length_append, List.length_append, List.length_append, b1, b2, b3]; simp only [List.length_cons, List.length_nil]; omega), Option.bind_some, parse_val, Option.bind_some, parseF_small el]
 by_cases h1 : (parseF x).2.Code = 0
 rotate_left
 ·rw [if_pos (bne_pos h1)]
 rw [if_neg (bne_neg h1)]
 by_cases h2 : (parseF y).2.Code = 0
 rotate_left
 ·rw [if_pos (bne_pos h2)]
 rw [if_neg (bne_neg h2)]
 by_cases h3 : (pParse (unis (bytes (ByteArray.mk #[40, 63, 58] ++ x ++ ByteArray.mk #[41, 124, 40, 63, 58] ++ y ++ ByteArray.mk #[41])))).2.Code = 0
 rotate_left
 ·rw [if_pos (bne_pos h3)]
 rw [if_neg (bne_neg h3)]
 by_cases f1 : (parseF x).1.Fold = false
 rotate_left
 ·rw [if_pos (by simpa using f1)]
 rw [if_neg (by rw [f1]; simp)]
 by_cases f2 : (parseF y).1.Fold = false
 rotate_left
 ·rw [if_pos (by simpa using f2)]
 rw [if_neg (by rw [f2]; simp)]
 obtain ⟨_, n, s, hr, e⟩ := reads_of h1 f1
 obtain ⟨_, m, s2, hr2, e2⟩ := reads_of h2 f2
 have hg1 := parse_good h1
 have hg2 := parse_good h2
 rw [e] at hg1
 rw [e2] at hg2
 obtain ⟨a, ha⟩ := good_shp hg1
 obtain ⟨b, hb⟩ := good_shp hg2
 have hbad := alt_bad (l := bytes (ByteArray.mk #[40, 63, 58] ++ x ++ ByteArray.mk #[41, 124, 40, 63, 58] ++ y ++ ByteArray.mk #[41])) (by omega)
 rw [eb, eu] at h3 hbad ⊢
 obtain ⟨n', m', q1, q2, q3⟩ := alts_ne hr hr2 hbad h3
 have hc := alt_two (ne_shp q1 ha) (ne_shp q2 hb)
 have oa := shp_ok ha
 have ob := shp_ok hb
 rw [altS_zero oa] at hc
 unfold Z3K
 rw [e, e2, q3, width_shp ha, Option.bind_some, width_shp hb, Option.bind_some, width_shp hc, Option.bind_some]
 obtain ⟨wa, za⟩ := oa
 obtain ⟨wb, zb⟩ := ob
 unfold Wok at wa wb
 have r16 : ∀ w, w = (altS a b).hi → Z2t a.lo b.lo (altS a b).lo (altS a b).hi w ⟨n, s.gr, false⟩ ⟨m, s2.gr, false⟩ (pParse (wrapU (unis (bytes x)) ((124, 1) :: wrapU (unis (bytes y)) []))).1 = some true := by
  intro w hw
  unfold Z2t
  rw [q3, size_shp ha, size_shp hb, size_shp hc, if_pos (beq_pos (show (altS a b).lo = min a.lo b.lo from rfl)), if_pos (beq_pos (show (altS a b).hi = w from hw.symm)), Option.bind_some, Option.bind_some, Option.bind_some, wrap_i64 (n := a.sz + b.sz) (by omega) (by omega), wrap_i64 (n := a.sz + b.sz + 2) (by omega) (by omega)]
  simp only [altS, Option.some.injEq, beq_iff_eq]
  omega
 dsimp only
 unfold Z34
 by_cases c1 : a.hi < 0
 ·rw [if_pos (dc_pos c1)]
  exact r16 _ (by unfold altS; dsimp only; rw [if_pos (.inr c1)])
 by_cases c2 : b.hi < 0
 ·rw [if_neg (dc_neg c1), if_pos (dc_pos c2)]
  exact r16 _ (by unfold altS; dsimp only; rw [if_pos (.inl c2)])
 ·rw [if_neg (dc_neg c1), if_neg (dc_neg c2)]
  exact r16 _ (by unfold altS; dsimp only; rw [if_neg (by omega)])
end Go.Proofs.YtadodmjdkphddaaDoor.N2
end
section
set_option linter.unusedSimpArgs false
set_option linter.unusedVariables false
namespace Go.Proofs.YtadodmjdkphddaaDoor
open Go Go.Abs Go.RowKit Go.ChangeShapes Go.WideShapes Go.ChangeAt
set_option maxRecDepth 100000 in
theorem shapeAlts_lifted (os : Os) (started : os.Started) (H : Type) (enc : TypeId × Value → H) :
  ReturnsInHanded {} Tryd.checked os 13 .any (fun w args => (Rows.shapeAltsSpec.pre enc Tryd.prog Tryd.f13 [] false w args ∧ laidMetH Tryd.prog laidL w) ∧ sizedMet enc Tryd.prog Tryd.f13 (OpenSpec.ofChange Rows.shapeAltsSpec) false w args)
   (Rows.shapeAltsSpec.post enc Tryd.prog Tryd.f13 false true false false) := by
 refine returnsInHanded_of_change_and (C := Tryd.checked) (X := fun w _ => laidMetH Tryd.prog laidL w) (fun _ _ _ hh h => h.of_heap hh) own started (by kernel_rfl) Tryd.func13
  (ChangeSpec.witness_shaped (enc := enc) (C := Tryd.checked) (os := os) (X := fun w _ => laidMetH Tryd.prog laidL w) false (laidWorld os) #[.string ⟨#[]⟩, .string ⟨#[]⟩] 8 rfl (World.shaped_of_RefB (by kernel_rfl) (by kernel_rfl)) (by kernel_rfl) (by kernel_rfl) (by kernel_rfl) (laid_met os _)) ?_
 intro W base args ds gs before hval0 hW _ _ hL _
 have hval : ∀ (j : Nat) t v, Tryd.f13.params[j]? = some t → args[j]? = some v → Value.okWide Tryd.prog W .any base t v := hval0
 have hW' := hW
 have hlt := fun p hp => hW.lt p hp
 obtain ⟨p, q, hA0, hV, rfl, hfz, hnd⟩ := hW
 have hA : DataW.TrodAll enc Tryd.prog W 0 (fun _ => true) true Tryd.f13.params.toList args.toList ds p := hA0
 rw [Tryd.params13] at hA hval
 obtain ⟨v0, v1, d0, d1, p0, p1, rfl, rfl, rfl, h0, h1⟩ := trodAll_two hA
 obtain ⟨rfl, rfl⟩ := trodVars_none hV
 obtain ⟨x0, rfl, rfl, rfl, w0⟩ := Go.ChangeMaps.open_string Tryd.underlying9 (hval 0 9 v0 rfl rfl) h0
 obtain ⟨x1, rfl, rfl, rfl, w1⟩ := Go.ChangeMaps.open_string Tryd.underlying9 (hval 1 9 v1 rfl rfl) h1
 clear hA0 hval0
 simp only [List.append_nil, List.nil_append] at hW' hlt
 have htab := tabs_of hL
 obtain ⟨q, hq, ex, rfl⟩ := N2.Z9C x0 x1  true (N2.shapeAlts_val x0 x1 )
 refine (calls_old N2.fspec (Tabs.old htab) hq rfl ?_).mono ?_
 ·intro i x v hx hv
  match i with
  | 0 =>
   simp only [List.getElem?_cons_zero, Option.some.injEq] at hx
   have hv' : Value.string x0 = v := by simpa using hv
   subst hx; subst hv'
   exact ⟨.p _ _ (.v _ rfl), rfl⟩
  | 1 =>
   simp only [List.getElem?_cons_succ, List.getElem?_cons_zero, Option.some.injEq] at hx
   have hv' : Value.string x1 = v := by simpa using hv
   subst hx; subst hv'
   exact ⟨.p _ _ (.v _ rfl), rfl⟩
  | i + 2 => simp at hx
 ·rintro e W' ⟨v, S', β', rfl, bel, hr⟩
  have := scal_rel hr
  subst this
  refine ⟨_, rfl, _, _, _, [], _, [], hW', trodAll_mk1 (shut_bool Tryd.underlying4 _), trodAll_cons_mk (Go.ChangeMaps.shut_string Tryd.underlying9 w0) (trodAll_cons_mk (Go.ChangeMaps.shut_string Tryd.underlying9 w1) (trodAll_mk0)), rfl, ?_, fun h => by cases h⟩
  exact bel.frame _
theorem shapeAlts_holds : Rows.ShapeAltsSaid :=
 OpenClaim.holds_of_wide 13 Tryd.f13 rfl rfl rfl rfl rfl rfl rfl ⟨rfl, rfl, rfl, rfl, rfl⟩ rfl rfl rfl rfl rfl (by kernel_rfl) Tryd.func13 (by kernel_rfl)
  (of_decide_eq_true (by kernel_rfl)) (by unfold Func.isWrapper; first | (rw [if_pos (by decide +kernel)]; kernel_rfl) | (rw [if_neg (by decide +kernel)]; exact ⟨rfl, rfl⟩))
  (fun os started H enc _ => shapeAlts_lifted os started H enc)
theorem shapeAlts_card : Rows.ShapeAltsCardSaid :=
 Claim7.holds_tied_plain_at .later [] [.data, .pinned] true (true, "aa0ed56c3559362fe8994ee982c3505cd6e490b9947e437ca456bdc414569078") false
  shapeAlts_holds (fun _ h => by cases h) (by kernel_rfl) (fun _ h => by cases h) shapeAlts_row_tie rfl ⟨rfl, rfl⟩ (by kernel_rfl) rfl
  (fun f fn hf hfn => by
   obtain rfl : f = 13 := Option.some.inj ((show Tryd.prog.funcNamed "colander/colanderlaw04.ShapeAlts" = some 13 by kernel_rfl).symm.trans hf) |>.symm
   obtain rfl : fn = Tryd.f13 := (Option.some.inj (Tryd.func13.symm.trans hfn)).symm
   exact ⟨by kernel_rfl, fun j t ht => by
    rw [Tryd.params13] at ht
    have hm : t ∈ [9, 9] := by simpa using Array.mem_of_getElem? ht
    have hall : ([9, 9].all fun u => !Tryd.prog.wantsStandIn u) = true := by kernel_rfl
    exact (show Tryd.prog.wantsStandIn t = false by simpa using List.all_eq_true.1 hall t hm)⟩)
  (by kernel_rfl)
#print axioms shapeAlts_card
end Go.Proofs.YtadodmjdkphddaaDoor
end
