/- ShapeOrders: true at every input; the input reads as it did. Condition: the tables lie as they are laid, which the card ties. -/
import Derived.Test.YtadodmjdkphddaaDoorPlainB
import Derived.Test.YtadodmjdkphddaaDoorRow
import Derived.Test.YtadodmjdkphddaaDoorCards
import Derived.Test.YtadodmjdkphddaaDoorTie
import Derived.SevenTiedAt

section
set_option linter.unusedSimpArgs false
set_option linter.unusedVariables false
namespace Go.Proofs.YtadodmjdkphddaaDoor.N2
open Go Go.Abs Go.Proofs.Unis Go.Proofs.Norm
set_option maxRecDepth 100000
theorem orders_r5 (x : ByteArray) : Z2W x = some true := by
 unfold Z2W
 rw [parse_val, Option.bind_some]
 by_cases h : (parseF x).2.Code = 0
 ·rw [if_neg (bne_neg h)]
  obtain ⟨lo, hi, e, w⟩ := width_ok (parse_good h)
  obtain ⟨v, e2, v0, v1⟩ := size_ok (parse_good h)
  unfold Wok at w
  unfold Z3s
  rw [e, Option.bind_some, e2, Option.bind_some]
  dsimp only
  rw [if_pos (dc_pos w.1), if_pos (dc_pos w.2.1), if_pos (dc_pos w.2.2.1), if_pos (dc_pos w.2.2.2.1), if_pos (dc_pos v0)]
  by_cases c : hi < 0
  ·rw [if_pos (dc_pos c)]
   simp [v1]
  ·rw [if_neg (dc_neg c), if_pos (dc_pos (show lo ≤ hi by omega))]
   simp [v1]
 ·rw [if_pos (bne_pos h)]
theorem shapeOrders_val (x : ByteArray) : Z5j x = some true := by
 apply Z92
 unfold Z49
 rw [anchor4_val, Option.bind_some, if_neg (by simp)]
 unfold Z3w
 split
 ·rfl
 ·exact orders_r5 x
end Go.Proofs.YtadodmjdkphddaaDoor.N2
end
section
set_option linter.unusedSimpArgs false
set_option linter.unusedVariables false
namespace Go.Proofs.YtadodmjdkphddaaDoor
open Go Go.Abs Go.RowKit Go.ChangeShapes Go.WideShapes Go.ChangeAt
set_option maxRecDepth 100000 in
theorem shapeOrders_lifted (os : Os) (started : os.Started) (H : Type) (enc : TypeId × Value → H) :
  ReturnsInHanded {} Tryd.checked os 9 .any (fun w args => (Rows.shapeOrdersSpec.pre enc Tryd.prog Tryd.f9 [] false w args ∧ laidMetH Tryd.prog laidL w) ∧ sizedMet enc Tryd.prog Tryd.f9 (OpenSpec.ofChange Rows.shapeOrdersSpec) false w args)
   (Rows.shapeOrdersSpec.post enc Tryd.prog Tryd.f9 false true false false) := by
 refine returnsInHanded_of_change_and (C := Tryd.checked) (X := fun w _ => laidMetH Tryd.prog laidL w) (fun _ _ _ hh h => h.of_heap hh) own started (by kernel_rfl) Tryd.func9
  (ChangeSpec.witness_shaped (enc := enc) (C := Tryd.checked) (os := os) (X := fun w _ => laidMetH Tryd.prog laidL w) false (laidWorld os) #[.string ⟨#[]⟩] 8 rfl (World.shaped_of_RefB (by kernel_rfl) (by kernel_rfl)) (by kernel_rfl) (by kernel_rfl) (by kernel_rfl) (laid_met os _)) ?_
 intro W base args ds gs before hval0 hW _ _ hL _
 have hval : ∀ (j : Nat) t v, Tryd.f9.params[j]? = some t → args[j]? = some v → Value.okWide Tryd.prog W .any base t v := hval0
 have hW' := hW
 have hlt := fun p hp => hW.lt p hp
 obtain ⟨p, q, hA0, hV, rfl, hfz, hnd⟩ := hW
 have hA : DataW.TrodAll enc Tryd.prog W 0 (fun _ => true) true Tryd.f9.params.toList args.toList ds p := hA0
 rw [Tryd.params9] at hA hval
 obtain ⟨v0, d0, rfl, rfl, h0⟩ := trodAll_one hA
 obtain ⟨rfl, rfl⟩ := trodVars_none hV
 obtain ⟨x0, rfl, rfl, rfl, w0⟩ := Go.ChangeMaps.open_string Tryd.underlying9 (hval 0 9 v0 rfl rfl) h0
 clear hA0 hval0
 simp only [List.append_nil, List.nil_append] at hW' hlt
 have htab := tabs_of hL
 obtain ⟨q, hq, ex, rfl⟩ := N2.Z97 x0  true (N2.shapeOrders_val x0 )
 refine (calls_old N2.fspec (Tabs.old htab) hq rfl ?_).mono ?_
 ·intro i x v hx hv
  match i with
  | 0 =>
   simp only [List.getElem?_cons_zero, Option.some.injEq] at hx
   have hv' : Value.string x0 = v := by simpa using hv
   subst hx; subst hv'
   exact ⟨.p _ _ (.v _ rfl), rfl⟩
  | i + 1 => simp at hx
 ·rintro e W' ⟨v, S', β', rfl, bel, hr⟩
  have := scal_rel hr
  subst this
  refine ⟨_, rfl, _, _, _, [], _, [], hW', trodAll_mk1 (shut_bool Tryd.underlying4 _), trodAll_cons_mk (Go.ChangeMaps.shut_string Tryd.underlying9 w0) (trodAll_mk0), rfl, ?_, fun h => by cases h⟩
  exact bel.frame _
theorem shapeOrders_holds : Rows.ShapeOrdersSaid :=
 OpenClaim.holds_of_wide 9 Tryd.f9 rfl rfl rfl rfl rfl rfl rfl ⟨rfl, rfl, rfl, rfl, rfl⟩ rfl rfl rfl rfl rfl (by kernel_rfl) Tryd.func9 (by kernel_rfl)
  (of_decide_eq_true (by kernel_rfl)) (by unfold Func.isWrapper; first | (rw [if_pos (by decide +kernel)]; kernel_rfl) | (rw [if_neg (by decide +kernel)]; exact ⟨rfl, rfl⟩))
  (fun os started H enc _ => shapeOrders_lifted os started H enc)
theorem shapeOrders_card : Rows.ShapeOrdersCardSaid :=
 Claim7.holds_tied_plain_at .later [] [.data, .pinned] true (true, "aa0ed56c3559362fe8994ee982c3505cd6e490b9947e437ca456bdc414569078") false
  shapeOrders_holds (fun _ h => by cases h) (by kernel_rfl) (fun _ h => by cases h) shapeOrders_row_tie rfl ⟨rfl, rfl⟩ (by kernel_rfl) rfl
  (fun f fn hf hfn => by
   obtain rfl : f = 9 := Option.some.inj ((show Tryd.prog.funcNamed "colander/colanderlaw04.ShapeOrders" = some 9 by kernel_rfl).symm.trans hf) |>.symm
   obtain rfl : fn = Tryd.f9 := (Option.some.inj (Tryd.func9.symm.trans hfn)).symm
   exact ⟨by kernel_rfl, fun j t ht => by
    rw [Tryd.params9] at ht
    have hm : t ∈ [9] := by simpa using Array.mem_of_getElem? ht
    have hall : ([9].all fun u => !Tryd.prog.wantsStandIn u) = true := by kernel_rfl
    exact (show Tryd.prog.wantsStandIn t = false by simpa using List.all_eq_true.1 hall t hm)⟩)
  (by kernel_rfl)
#print axioms shapeOrders_card
end Go.Proofs.YtadodmjdkphddaaDoor
end
