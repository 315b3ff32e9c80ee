/- ShapeBehind: true at every input; the input reads as it did. Condition: the tables lie as they are laid, which the card ties. -/
import Derived.Test.YtadodmjdkphddaaDoorPlainC
import Derived.Test.YtadodmjdkphddaaDoorRow
import Derived.Test.YtadodmjdkphddaaDoorCards
import Derived.Test.YtadodmjdkphddaaDoorTie
import Derived.SevenTiedAt

section
set_option linter.unusedSimpArgs false
set_option linter.unusedVariables false
namespace Go.Proofs.YtadodmjdkphddaaDoor.N2
open Go Go.Abs Go.Proofs.Unis Go.Proofs.Norm
set_option maxRecDepth 100000
theorem shapeBehind_val (x : ByteArray) (k : Int) : Z5s x k = some true := by
 apply Z9f
 unfold Z4b
 rw [anchor4_val, Option.bind_some, if_neg (by simp)]
 unfold Z3s Z2k
 split
 ·rfl
 rename_i hx
 split
 ·rfl
 rename_i hk0
 split
 ·rfl
 rename_i hk3
 have lx : (bytes x).length ≤ 200 := by simp at hx; rw [size_bytes] at hx; omega
 have k0 : 0 ≤ k := by simpa using hk0
 have k3 : k ≤ 3 := by simpa using hk3
 unfold Z3v Z1W
 rw [parse_val, Option.bind_some]
 have main : ∀ (op : ByteArray) (w : List Un) (p1 : Int), lget ([(ByteArray.mk #[40, 63, 61]), (ByteArray.mk #[40, 63, 33]), (ByteArray.mk #[40, 63, 60, 61]), (ByteArray.mk #[40, 63, 60, 33])] : List ByteArray) k = some op → (bytes op).length ≤ 4 →
   unis (bytes op ++ (bytes x ++ [41])) = (40, 1) :: w → pOpen 0 ⟨w, 0 + 1, 0, []⟩ = .ok ⟨7, 0, 0, k, 0, [], []⟩ ⟨unis (bytes x) ++ [(41, 1)], p1, 0, []⟩ → wd [40, 63, 105, 41] ⟨(40, 1) :: w, 0, 0, []⟩ = none →
   ((lget ([(ByteArray.mk #[40, 63, 61]), (ByteArray.mk #[40, 63, 33]), (ByteArray.mk #[40, 63, 60, 61]), (ByteArray.mk #[40, 63, 60, 33])] : List ByteArray) k).bind fun a2 =>
     (sadd a2 x).bind fun a3 =>
     (sadd a3 (ByteArray.mk #[41])).bind fun a4 =>
     (Z50 a4).bind fun r5 =>
     if (((parseF x).2.Code != 0)) = true then some true
     else (if ((r5.2.Code != 0)) = true then some true
     else (if ((parseF x).1.Fold) = true then some true
     else ((Z4Z (parseF x).1).bind fun r6 =>
      if ((r6 != 0)) = true then some true
      else (Z2V k (parseF x).1 r5.1))))) = some true := by
  intro op w p1 hop hol hw o1 o2
  have b3 : bytes (ByteArray.mk #[41]) = [41] := rfl
  have eb : bytes (op ++ x ++ ByteArray.mk #[41]) = bytes op ++ (bytes x ++ [41]) := by rw [bytes_add, bytes_add, b3, List.append_assoc]
  have el : (bytes (op ++ x ++ ByteArray.mk #[41])).length ≤ 256 := by rw [eb]; simp only [List.length_append, List.length_cons, List.length_nil]; omega
  rw [hop, Option.bind_some, sadd_ok (by omega), Option.bind_some, sadd_ok (by rw [bytes_add, List.length_append, b3]; simp only [List.length_cons, List.length_nil]; omega), Option.bind_some, parse_val, Option.bind_some, parseF_small el]
  by_cases h1 : (parseF x).2.Code = 0
  rotate_left
  ·rw [if_pos (bne_pos h1)]
  rw [if_neg (bne_neg h1)]
  have hbad := alt_bad (l := bytes (op ++ x ++ ByteArray.mk #[41])) (by omega)
  rw [eb, hw] at hbad ⊢
  by_cases h3 : (pParse ((40, 1) :: w)).2.Code = 0
  rotate_left
  ·rw [if_pos (bne_pos h3)]
  rw [if_neg (bne_neg h3)]
  by_cases f1 : (parseF x).1.Fold = false
  rotate_left
  ·rw [if_pos (by simpa using f1)]
  rw [if_neg (by rw [f1]; simp)]
  obtain ⟨_, n, s, hr, e⟩ := reads_of h1 f1
  have hg1 := parse_good h1
  rw [e] at hg1
  obtain ⟨v, hv⟩ := good_shp hg1
  rw [e]
  dsimp only
  rw [check_shp hv, Option.bind_some]
  by_cases hch : chkF v = 0
  rotate_left
  ·rw [if_pos (bne_pos hch)]
  rw [if_neg (bne_neg hch)]
  obtain ⟨n', q1, q3⟩ := paren_ne hr o1 o2 hbad h3
  rw [if_neg (by simp)] at q3
  have hc := Shp.look k n' v (ne_shp q1 hv)
  have ov := (shp_ok hv).2
  have hbd : v.bd = true ∧ v.sz ≤ 1997 := by
   unfold chkF at hch
   split at hch
   ·exact absurd hch (by decide)
   rename_i h1
   split at hch
   ·exact absurd hch (by decide)
   ·exact ⟨by simpa using h1, by omega⟩
  have hq : Z4Z (pParse ((40, 1) :: w)).1 = some (chkF ⟨0, 0, min (v.sz + 2) 1048576, lookB k v⟩) := by
   have hq0 : (pParse ((40, 1) :: w)).1 = ⟨(pParse ((40, 1) :: w)).1.Root, (pParse ((40, 1) :: w)).1.Groups, (pParse ((40, 1) :: w)).1.Fold⟩ := rfl
   rw [hq0, q3]
   exact check_shp hc _ _
  unfold Z2V
  rw [width_shp hv, Option.bind_some, hq, Option.bind_some]
  dsimp only
  have r13 : lookB k v = true → Z2c (chkF ⟨0, 0, min (v.sz + 2) 1048576, lookB k v⟩) ⟨n, s.gr, false⟩ = some true := by
   intro hl
   have hz : chkF ⟨0, 0, min (v.sz + 2) 1048576, true⟩ = if 1997 < min (v.sz + 2) 1048576 then 28 else 0 := by unfold chkF; rw [if_neg (by simp)]
   unfold Z2c
   rw [hl, hz]
   by_cases c : 1997 < min (v.sz + 2) 1048576
   ·rw [if_pos c, if_neg (by decide), if_pos (by decide), size_shp hv, Option.bind_some]
    simp only [Option.some.injEq, decide_eq_true_eq]
    omega
   ·rw [if_neg c, if_pos (by decide)]
  have r12 : lookB k v = false → Z2e (chkF ⟨0, 0, min (v.sz + 2) 1048576, lookB k v⟩) = some true := by
   intro hl
   unfold Z2e chkF
   rw [hl]
   rfl
  by_cases c2 : 2 ≤ k
  ·rw [if_pos (dc_pos c2)]
   have hl : lookB k v = (decide (0 ≤ v.hi) && decide (v.hi ≤ 32)) := by unfold lookB; rw [hbd.1, decide_eq_false (show ¬ k < 2 by omega)]; simp
   by_cases c3 : v.hi < 0
   ·rw [if_pos (dc_pos c3)]
    exact r12 (by rw [hl, decide_eq_false (show ¬ 0 ≤ v.hi by omega)]; rfl)
   by_cases c4 : 32 < v.hi
   ·rw [if_neg (dc_neg c3), if_pos (dc_pos c4)]
    exact r12 (by rw [hl, decide_eq_false (show ¬ v.hi ≤ 32 by omega)]; simp)
   ·rw [if_neg (dc_neg c3), if_neg (dc_neg c4)]
    exact r13 (by rw [hl, decide_eq_true (show 0 ≤ v.hi by omega), decide_eq_true (show v.hi ≤ 32 by omega)]; rfl)
  ·rw [if_neg (dc_neg c2)]
   exact r13 (by unfold lookB; rw [hbd.1, decide_eq_true (show k < 2 by omega)]; rfl)
 have e41 : unis [41] = [(41, 1)] := rfl
 have ex : unis (bytes x ++ [41]) = unis (bytes x) ++ [(41, 1)] := by rw [unis_add (fresh_cons (by decide)), e41]
 rcases (show k = 0 ∨ k = 1 ∨ k = 2 ∨ k = 3 by omega) with hk | hk | hk | hk <;> subst hk
 ·exact main (ByteArray.mk #[40, 63, 61]) ((63, 1) :: (61, 1) :: (unis (bytes x) ++ [(41, 1)])) (0 + 1 + (2 : Nat)) rfl (by decide) (by rw [unis_ahead _ _ (by decide), ex]; rfl) rfl rfl
 ·exact main (ByteArray.mk #[40, 63, 33]) ((63, 1) :: (33, 1) :: (unis (bytes x) ++ [(41, 1)])) (0 + 1 + (2 : Nat)) rfl (by decide) (by rw [unis_ahead _ _ (by decide), ex]; rfl) rfl rfl
 ·exact main (ByteArray.mk #[40, 63, 60, 61]) ((63, 1) :: (60, 1) :: (61, 1) :: (unis (bytes x) ++ [(41, 1)])) (0 + 1 + (3 : Nat)) rfl (by decide) (by rw [unis_ahead _ _ (by decide), ex]; rfl) rfl rfl
 ·exact main (ByteArray.mk #[40, 63, 60, 33]) ((63, 1) :: (60, 1) :: (33, 1) :: (unis (bytes x) ++ [(41, 1)])) (0 + 1 + (3 : Nat)) rfl (by decide) (by rw [unis_ahead _ _ (by decide), ex]; rfl) rfl rfl
end Go.Proofs.YtadodmjdkphddaaDoor.N2
end
section
set_option linter.unusedSimpArgs false
set_option linter.unusedVariables false
namespace Go.Proofs.YtadodmjdkphddaaDoor
open Go Go.Abs Go.RowKit Go.ChangeShapes Go.WideShapes Go.ChangeAt
set_option maxRecDepth 100000 in
theorem shapeBehind_lifted (os : Os) (started : os.Started) (H : Type) (enc : TypeId × Value → H) :
  ReturnsInHanded {} Tryd.checked os 11 .any (fun w args => (Rows.shapeBehindSpec.pre enc Tryd.prog Tryd.f11 [] false w args ∧ laidMetH Tryd.prog laidL w) ∧ sizedMet enc Tryd.prog Tryd.f11 (OpenSpec.ofChange Rows.shapeBehindSpec) false w args)
   (Rows.shapeBehindSpec.post enc Tryd.prog Tryd.f11 false true false false) := by
 refine returnsInHanded_of_change_and (C := Tryd.checked) (X := fun w _ => laidMetH Tryd.prog laidL w) (fun _ _ _ hh h => h.of_heap hh) own started (by kernel_rfl) Tryd.func11
  (ChangeSpec.witness_shaped (enc := enc) (C := Tryd.checked) (os := os) (X := fun w _ => laidMetH Tryd.prog laidL w) false (laidWorld os) #[.string ⟨#[]⟩, .int .i64 0] 8 rfl (World.shaped_of_RefB (by kernel_rfl) (by kernel_rfl)) (by kernel_rfl) (by kernel_rfl) (by kernel_rfl) (laid_met os _)) ?_
 intro W base args ds gs before hval0 hW _ _ hL _
 have hval : ∀ (j : Nat) t v, Tryd.f11.params[j]? = some t → args[j]? = some v → Value.okWide Tryd.prog W .any base t v := hval0
 have hW' := hW
 have hlt := fun p hp => hW.lt p hp
 obtain ⟨p, q, hA0, hV, rfl, hfz, hnd⟩ := hW
 have hA : DataW.TrodAll enc Tryd.prog W 0 (fun _ => true) true Tryd.f11.params.toList args.toList ds p := hA0
 rw [Tryd.params11] at hA hval
 obtain ⟨v0, v1, d0, d1, p0, p1, rfl, rfl, rfl, h0, h1⟩ := trodAll_two hA
 obtain ⟨rfl, rfl⟩ := trodVars_none hV
 obtain ⟨x0, rfl, rfl, rfl, w0⟩ := Go.ChangeMaps.open_string Tryd.underlying9 (hval 0 9 v0 rfl rfl) h0
 obtain ⟨x1, rfl, rfl, rfl, w1⟩ := open_int Tryd.underlying3 (hval 1 3 v1 rfl rfl) h1
 clear hA0 hval0
 simp only [List.append_nil, List.nil_append] at hW' hlt
 have htab := tabs_of hL
 obtain ⟨q, hq, ex, rfl⟩ := N2.Z9d x0 x1  true (N2.shapeBehind_val x0 x1 )
 refine (calls_old N2.fspec (Tabs.old htab) hq rfl ?_).mono ?_
 ·intro i x v hx hv
  match i with
  | 0 =>
   simp only [List.getElem?_cons_zero, Option.some.injEq] at hx
   have hv' : Value.string x0 = v := by simpa using hv
   subst hx; subst hv'
   exact ⟨.p _ _ (.v _ rfl), rfl⟩
  | 1 =>
   simp only [List.getElem?_cons_succ, List.getElem?_cons_zero, Option.some.injEq] at hx
   have hv' : Value.int .i64 x1 = v := by simpa using hv
   subst hx; subst hv'
   exact ⟨.p _ _ (.v _ rfl), rfl⟩
  | i + 2 => simp at hx
 ·rintro e W' ⟨v, S', β', rfl, bel, hr⟩
  have := scal_rel hr
  subst this
  refine ⟨_, rfl, _, _, _, [], _, [], hW', trodAll_mk1 (shut_bool Tryd.underlying4 _), trodAll_cons_mk (Go.ChangeMaps.shut_string Tryd.underlying9 w0) (trodAll_cons_mk (shut_int Tryd.underlying3 w1) (trodAll_mk0)), rfl, ?_, fun h => by cases h⟩
  exact bel.frame _
theorem shapeBehind_holds : Rows.ShapeBehindSaid :=
 OpenClaim.holds_of_wide 11 Tryd.f11 rfl rfl rfl rfl rfl rfl rfl ⟨rfl, rfl, rfl, rfl, rfl⟩ rfl rfl rfl rfl rfl (by kernel_rfl) Tryd.func11 (by kernel_rfl)
  (of_decide_eq_true (by kernel_rfl)) (by unfold Func.isWrapper; first | (rw [if_pos (by decide +kernel)]; kernel_rfl) | (rw [if_neg (by decide +kernel)]; exact ⟨rfl, rfl⟩))
  (fun os started H enc _ => shapeBehind_lifted os started H enc)
theorem shapeBehind_card : Rows.ShapeBehindCardSaid :=
 Claim7.holds_tied_plain_at .later [] [.data, .pinned] true (true, "aa0ed56c3559362fe8994ee982c3505cd6e490b9947e437ca456bdc414569078") false
  shapeBehind_holds (fun _ h => by cases h) (by kernel_rfl) (fun _ h => by cases h) shapeBehind_row_tie rfl ⟨rfl, rfl⟩ (by kernel_rfl) rfl
  (fun f fn hf hfn => by
   obtain rfl : f = 11 := Option.some.inj ((show Tryd.prog.funcNamed "colander/colanderlaw04.ShapeBehind" = some 11 by kernel_rfl).symm.trans hf) |>.symm
   obtain rfl : fn = Tryd.f11 := (Option.some.inj (Tryd.func11.symm.trans hfn)).symm
   exact ⟨by kernel_rfl, fun j t ht => by
    rw [Tryd.params11] at ht
    have hm : t ∈ [9, 3] := by simpa using Array.mem_of_getElem? ht
    have hall : ([9, 3].all fun u => !Tryd.prog.wantsStandIn u) = true := by kernel_rfl
    exact (show Tryd.prog.wantsStandIn t = false by simpa using List.all_eq_true.1 hall t hm)⟩)
  (by kernel_rfl)
#print axioms shapeBehind_card
end Go.Proofs.YtadodmjdkphddaaDoor
end
