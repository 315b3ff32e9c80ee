/- ShapeFree: true at every input; the input reads as it did. Condition: the tables lie as they are laid, which the card ties. -/
import Derived.Test.YtadodmjdkphddaaDoorPlainC
import Derived.Test.YtadodmjdkphddaaDoorRow
import Derived.Test.YtadodmjdkphddaaDoorCards
import Derived.Test.YtadodmjdkphddaaDoorTie
import Derived.SevenTiedAt

section
set_option linter.unusedSimpArgs false
set_option linter.unusedVariables false
namespace Go.Proofs.YtadodmjdkphddaaDoor.N2
open Go Go.Abs Go.Proofs.Unis Go.Proofs.Norm
set_option maxRecDepth 100000
theorem shapeFree_val (x : ByteArray) (k : Int) : Z5Q x k = some true := by
 apply Z9D
 unfold Z4C
 rw [anchor4_val, Option.bind_some, if_neg (by simp)]
 unfold Z42 Z2y
 split
 ·rfl
 rename_i hx
 split
 ·rfl
 rename_i hk0
 split
 ·rfl
 rename_i hk3
 have lx : (bytes x).length ≤ 100 := by simp at hx; rw [size_bytes] at hx; omega
 have k0 : 0 ≤ k := by simpa using hk0
 have k3 : k ≤ 3 := by simpa using hk3
 unfold Z40 Z2w
 rw [parse_val, Option.bind_some]
 have main : ∀ (op : ByteArray) (w : List Un) (O : Z3) (p1 g1 : Int), lget ([(ByteArray.mk #[40, 63, 58]), (ByteArray.mk #[40, 63, 62]), (ByteArray.mk #[40]), (ByteArray.mk #[40, 63, 61])] : List ByteArray) k = some op → (bytes op).length ≤ 3 →
   unis (bytes op ++ (bytes x ++ [41])) = (40, 1) :: w → (∀ n s, Reads (unis (bytes x)) n s → pOpen 0 ⟨w, 0 + 1, 0, []⟩ = .ok O ⟨unis (bytes x) ++ [(41, 1)], p1, g1, []⟩ ∧ wd [40, 63, 105, 41] ⟨(40, 1) :: w, 0, 0, []⟩ = none) →
   (∀ n v, Shp n v → Shp (if O.Kind = 0 then n else { O with Kids := [n] }) ⟨if k = 3 then 0 else v.lo, if k = 3 then 0 else v.hi, min (v.sz + if k = 0 then 0 else 2) 1048576, if k = 3 then lookB 0 v else v.bd⟩) →
   ((lget ([(ByteArray.mk #[40, 63, 58]), (ByteArray.mk #[40, 63, 62]), (ByteArray.mk #[40]), (ByteArray.mk #[40, 63, 61])] : List ByteArray) k).bind fun a2 =>
     (sadd a2 x).bind fun a3 =>
     (sadd a3 (ByteArray.mk #[41])).bind fun a4 =>
     (Z50 a4).bind fun r5 =>
     if (((parseF x).2.Code != 0)) = true then some true
     else (if ((r5.2.Code != 0)) = true then some true
     else (if ((parseF x).1.Fold) = true then some true
     else (Z38 k (parseF x).1 r5.1)))) = some true := by
  intro op w O p1 g1 hop hol hw hO hS
  have b3 : bytes (ByteArray.mk #[41]) = [41] := rfl
  have eb : bytes (op ++ x ++ ByteArray.mk #[41]) = bytes op ++ (bytes x ++ [41]) := by rw [bytes_add, bytes_add, b3, List.append_assoc]
  have el : (bytes (op ++ x ++ ByteArray.mk #[41])).length ≤ 256 := by rw [eb]; simp only [List.length_append, List.length_cons, List.length_nil]; omega
  rw [hop, Option.bind_some, sadd_ok (by omega), Option.bind_some, sadd_ok (by rw [bytes_add, List.length_append, b3]; simp only [List.length_cons, List.length_nil]; omega), Option.bind_some, parse_val, Option.bind_some, parseF_small el]
  by_cases h1 : (parseF x).2.Code = 0
  rotate_left
  ·rw [if_pos (bne_pos h1)]
  rw [if_neg (bne_neg h1)]
  have hbad := alt_bad (l := bytes (op ++ x ++ ByteArray.mk #[41])) (by omega)
  rw [eb, hw] at hbad ⊢
  by_cases h3 : (pParse ((40, 1) :: w)).2.Code = 0
  rotate_left
  ·rw [if_pos (bne_pos h3)]
  rw [if_neg (bne_neg h3)]
  by_cases f1 : (parseF x).1.Fold = false
  rotate_left
  ·rw [if_pos (by simpa using f1)]
  rw [if_neg (by rw [f1]; simp)]
  obtain ⟨_, n, s, hr, e⟩ := reads_of h1 f1
  have hg1 := parse_good h1
  rw [e] at hg1
  obtain ⟨v, hv⟩ := good_shp hg1
  obtain ⟨o1, o2⟩ := hO n s hr
  obtain ⟨n', q1, q3⟩ := paren_ne hr o1 o2 hbad h3
  have hc := hS n' v (ne_shp q1 hv)
  have ov := shp_ok hv
  obtain ⟨wv, zv⟩ := ov
  unfold Wok at wv
  rw [e]
  unfold Z38
  rw [q3, width_shp hv, Option.bind_some, width_shp hc, Option.bind_some]
  dsimp only
  have r16 : ∀ a b c, a = (if k = 3 then 0 else v.lo) → b = (if k = 3 then 0 else v.hi) → c = (if k = 0 then 0 else 2) → Z2p a b (if k = 3 then 0 else v.lo) (if k = 3 then 0 else v.hi) c ⟨n, s.gr, false⟩ (pParse ((40, 1) :: w)).1 = some true := by
   intro a b c ha hb hcc
   unfold Z2p
   rw [if_pos (beq_pos ha), if_pos (beq_pos hb), q3, size_shp hc, Option.bind_some, size_shp hv, Option.bind_some, hcc]
   split
   ·rw [wrap_i64 (by omega) (by omega)]; simp
   ·rw [wrap_i64 (by omega) (by omega)]; simp
  unfold Z30
  by_cases c0 : k = 0
  ·rw [if_pos (beq_pos c0), if_neg (beq_neg (show ¬ k = 3 by omega))]
   exact r16 _ _ _ (by rw [if_neg (by omega)]) (by rw [if_neg (by omega)]) (by rw [if_pos c0])
  ·rw [if_neg (beq_neg c0)]
   by_cases c3 : k = 3
   ·rw [if_pos (beq_pos c3)]
    exact r16 _ _ _ (by rw [if_pos c3]) (by rw [if_pos c3]) (by rw [if_neg c0])
   ·rw [if_neg (beq_neg c3)]
    exact r16 _ _ _ (by rw [if_neg c3]) (by rw [if_neg c3]) (by rw [if_neg c0])
 have e41 : unis [41] = [(41, 1)] := rfl
 have ex : unis (bytes x ++ [41]) = unis (bytes x) ++ [(41, 1)] := by rw [unis_add (fresh_cons (by decide)), e41]
 rcases (show k = 0 ∨ k = 1 ∨ k = 2 ∨ k = 3 by omega) with hk | hk | hk | hk <;> subst hk
 ·refine main (ByteArray.mk #[40, 63, 58]) ((63, 1) :: (58, 1) :: (unis (bytes x) ++ [(41, 1)])) nd0 (0 + 1 + (2 : Nat)) 0 rfl (by decide) ?_ (fun n s h => ⟨rfl, rfl⟩) ?_
  ·rw [unis_ahead _ _ (by decide), ex]; rfl
  ·intro n v hv
   have ov := (shp_ok hv).2
   have e : (⟨if (0 : Int) = 3 then 0 else v.lo, if (0 : Int) = 3 then 0 else v.hi, min (v.sz + if (0 : Int) = 0 then 0 else 2) 1048576, if (0 : Int) = 3 then lookB 0 v else v.bd⟩ : Sh) = v := by
    obtain ⟨lo, hi, sz, bd⟩ := v
    simp only [] at ov
    simp
    omega
   rw [e]
   exact hv
 ·refine main (ByteArray.mk #[40, 63, 62]) ((63, 1) :: (62, 1) :: (unis (bytes x) ++ [(41, 1)])) ⟨8, 0, 0, 0, 0, [], []⟩ (0 + 1 + (2 : Nat)) 0 rfl (by decide) ?_ (fun n s h => ⟨rfl, rfl⟩) ?_
  ·rw [unis_ahead _ _ (by decide), ex]; rfl
  ·intro n v hv
   rw [if_neg (by decide)]
   exact .atomic n v hv
 ·refine main (ByteArray.mk #[40]) (unis (bytes x) ++ [(41, 1)]) ⟨5, 0, 0, 0, 1, [], []⟩ (0 + 1) 1 rfl (by decide) ?_ (fun n s h => ⟨open_group h.head, fold_no h.head⟩) ?_
  ·rw [unis_ahead _ _ (by decide), ex]; rfl
  ·intro n v hv
   rw [if_neg (by decide)]
   exact .group 1 n v hv
 ·refine main (ByteArray.mk #[40, 63, 61]) ((63, 1) :: (61, 1) :: (unis (bytes x) ++ [(41, 1)])) ⟨7, 0, 0, 0, 0, [], []⟩ (0 + 1 + (2 : Nat)) 0 rfl (by decide) ?_ (fun n s h => ⟨rfl, rfl⟩) ?_
  ·rw [unis_ahead _ _ (by decide), ex]; rfl
  ·intro n v hv
   rw [if_neg (by decide)]
   exact .look 0 n v hv
end Go.Proofs.YtadodmjdkphddaaDoor.N2
end
section
set_option linter.unusedSimpArgs false
set_option linter.unusedVariables false
namespace Go.Proofs.YtadodmjdkphddaaDoor
open Go Go.Abs Go.RowKit Go.ChangeShapes Go.WideShapes Go.ChangeAt
set_option maxRecDepth 100000 in
theorem shapeFree_lifted (os : Os) (started : os.Started) (H : Type) (enc : TypeId × Value → H) :
  ReturnsInHanded {} Tryd.checked os 14 .any (fun w args => (Rows.shapeFreeSpec.pre enc Tryd.prog Tryd.f14 [] false w args ∧ laidMetH Tryd.prog laidL w) ∧ sizedMet enc Tryd.prog Tryd.f14 (OpenSpec.ofChange Rows.shapeFreeSpec) false w args)
   (Rows.shapeFreeSpec.post enc Tryd.prog Tryd.f14 false true false false) := by
 refine returnsInHanded_of_change_and (C := Tryd.checked) (X := fun w _ => laidMetH Tryd.prog laidL w) (fun _ _ _ hh h => h.of_heap hh) own started (by kernel_rfl) Tryd.func14
  (ChangeSpec.witness_shaped (enc := enc) (C := Tryd.checked) (os := os) (X := fun w _ => laidMetH Tryd.prog laidL w) false (laidWorld os) #[.string ⟨#[]⟩, .int .i64 0] 8 rfl (World.shaped_of_RefB (by kernel_rfl) (by kernel_rfl)) (by kernel_rfl) (by kernel_rfl) (by kernel_rfl) (laid_met os _)) ?_
 intro W base args ds gs before hval0 hW _ _ hL _
 have hval : ∀ (j : Nat) t v, Tryd.f14.params[j]? = some t → args[j]? = some v → Value.okWide Tryd.prog W .any base t v := hval0
 have hW' := hW
 have hlt := fun p hp => hW.lt p hp
 obtain ⟨p, q, hA0, hV, rfl, hfz, hnd⟩ := hW
 have hA : DataW.TrodAll enc Tryd.prog W 0 (fun _ => true) true Tryd.f14.params.toList args.toList ds p := hA0
 rw [Tryd.params14] at hA hval
 obtain ⟨v0, v1, d0, d1, p0, p1, rfl, rfl, rfl, h0, h1⟩ := trodAll_two hA
 obtain ⟨rfl, rfl⟩ := trodVars_none hV
 obtain ⟨x0, rfl, rfl, rfl, w0⟩ := Go.ChangeMaps.open_string Tryd.underlying9 (hval 0 9 v0 rfl rfl) h0
 obtain ⟨x1, rfl, rfl, rfl, w1⟩ := open_int Tryd.underlying3 (hval 1 3 v1 rfl rfl) h1
 clear hA0 hval0
 simp only [List.append_nil, List.nil_append] at hW' hlt
 have htab := tabs_of hL
 obtain ⟨q, hq, ex, rfl⟩ := N2.Z9H x0 x1  true (N2.shapeFree_val x0 x1 )
 refine (calls_old N2.fspec (Tabs.old htab) hq rfl ?_).mono ?_
 ·intro i x v hx hv
  match i with
  | 0 =>
   simp only [List.getElem?_cons_zero, Option.some.injEq] at hx
   have hv' : Value.string x0 = v := by simpa using hv
   subst hx; subst hv'
   exact ⟨.p _ _ (.v _ rfl), rfl⟩
  | 1 =>
   simp only [List.getElem?_cons_succ, List.getElem?_cons_zero, Option.some.injEq] at hx
   have hv' : Value.int .i64 x1 = v := by simpa using hv
   subst hx; subst hv'
   exact ⟨.p _ _ (.v _ rfl), rfl⟩
  | i + 2 => simp at hx
 ·rintro e W' ⟨v, S', β', rfl, bel, hr⟩
  have := scal_rel hr
  subst this
  refine ⟨_, rfl, _, _, _, [], _, [], hW', trodAll_mk1 (shut_bool Tryd.underlying4 _), trodAll_cons_mk (Go.ChangeMaps.shut_string Tryd.underlying9 w0) (trodAll_cons_mk (shut_int Tryd.underlying3 w1) (trodAll_mk0)), rfl, ?_, fun h => by cases h⟩
  exact bel.frame _
theorem shapeFree_holds : Rows.ShapeFreeSaid :=
 OpenClaim.holds_of_wide 14 Tryd.f14 rfl rfl rfl rfl rfl rfl rfl ⟨rfl, rfl, rfl, rfl, rfl⟩ rfl rfl rfl rfl rfl (by kernel_rfl) Tryd.func14 (by kernel_rfl)
  (of_decide_eq_true (by kernel_rfl)) (by unfold Func.isWrapper; first | (rw [if_pos (by decide +kernel)]; kernel_rfl) | (rw [if_neg (by decide +kernel)]; exact ⟨rfl, rfl⟩))
  (fun os started H enc _ => shapeFree_lifted os started H enc)
theorem shapeFree_card : Rows.ShapeFreeCardSaid :=
 Claim7.holds_tied_plain_at .later [] [.data, .pinned] true (true, "aa0ed56c3559362fe8994ee982c3505cd6e490b9947e437ca456bdc414569078") false
  shapeFree_holds (fun _ h => by cases h) (by kernel_rfl) (fun _ h => by cases h) shapeFree_row_tie rfl ⟨rfl, rfl⟩ (by kernel_rfl) rfl
  (fun f fn hf hfn => by
   obtain rfl : f = 14 := Option.some.inj ((show Tryd.prog.funcNamed "colander/colanderlaw04.ShapeFree" = some 14 by kernel_rfl).symm.trans hf) |>.symm
   obtain rfl : fn = Tryd.f14 := (Option.some.inj (Tryd.func14.symm.trans hfn)).symm
   exact ⟨by kernel_rfl, fun j t ht => by
    rw [Tryd.params14] at ht
    have hm : t ∈ [9, 3] := by simpa using Array.mem_of_getElem? ht
    have hall : ([9, 3].all fun u => !Tryd.prog.wantsStandIn u) = true := by kernel_rfl
    exact (show Tryd.prog.wantsStandIn t = false by simpa using List.all_eq_true.1 hall t hm)⟩)
  (by kernel_rfl)
#print axioms shapeFree_card
end Go.Proofs.YtadodmjdkphddaaDoor
end
