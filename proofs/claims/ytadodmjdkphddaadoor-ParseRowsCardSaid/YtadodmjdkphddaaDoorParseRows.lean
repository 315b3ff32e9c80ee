/- ParseRows: true at every input; the input reads as it did. Condition: the tables lie as they are laid, which the card ties. -/
import Derived.Test.YtadodmjdkphddaaDoorPlainB
import Derived.Test.YtadodmjdkphddaaDoorPlainC
import Derived.Test.YtadodmjdkphddaaDoorRow
import Derived.Test.YtadodmjdkphddaaDoorCards
import Derived.Test.YtadodmjdkphddaaDoorTie
import Derived.SevenTiedAt

section
set_option linter.unusedSimpArgs false
set_option linter.unusedVariables false
namespace Go.Proofs.YtadodmjdkphddaaDoor.N2
open Go Go.Abs Go.Proofs.Unis Go.Proofs.Norm
set_option maxRecDepth 100000
theorem parseRows_val (x y : ByteArray) : Z5A x y = some true := by
 apply Z8T
 unfold Z4v
 rw [anchor3_val, Option.bind_some, if_neg (by simp)]
 unfold Z3G Z2W
 split
 ·rfl
 rename_i hx
 split
 ·rfl
 rename_i hy
 have lx : (bytes x).length ≤ 100 := by simp at hx; rw [size_bytes] at hx; omega
 have ly : (bytes y).length ≤ 100 := by simp at hy; rw [size_bytes] at hy; omega
 unfold Z3U Z1N
 rw [parse_val, Option.bind_some, parse_val, Option.bind_some]
 by_cases h1 : (parseF x).2.Code = 0
 rotate_left
 ·rw [if_pos (bne_pos h1)]
 rw [if_neg (bne_neg h1)]
 by_cases h2 : (parseF y).2.Code = 0
 rotate_left
 ·rw [if_pos (bne_pos h2)]
 rw [if_neg (bne_neg h2)]
 by_cases f1 : (parseF x).1.Fold = false
 rotate_left
 ·rw [if_pos (by simpa using f1)]
 rw [if_neg (by rw [f1]; simp)]
 by_cases f2 : (parseF y).1.Fold = false
 rotate_left
 ·rw [if_pos (by simpa using f2)]
 rw [if_neg (by rw [f2]; simp)]
 obtain ⟨_, n, s, hr, e⟩ := reads_of h1 f1
 obtain ⟨_, m, s2, hr2, e2⟩ := reads_of h2 f2
 have hs := same_self h1
 have hs2 := same_self h2
 rw [e] at hs
 rw [e2] at hs2
 have hm := alt_mono 32 _ _ _ hr.alt
 have hm2 := alt_mono 32 _ _ _ hr2.alt
 simp only [] at hm hm2
 have hn := alt_good9 hr lx
 have hn2 := alt_good9 hr2 ly
 rw [e, e2]
 by_cases hg : 0 < s.gr + s2.gr
 ·rw [if_pos (dc_pos (by show 0 < IntKind.i64.wrap (s.gr + s2.gr); rw [wrap_i64 (by omega) (by omega)]; exact hg))]
 rw [if_neg (dc_neg (by show ¬ 0 < IntKind.i64.wrap (s.gr + s2.gr); rw [wrap_i64 (by omega) (by omega)]; exact hg))]
 have h0 : s.gr = 0 := by omega
 have h02 : s2.gr = 0 := by omega
 unfold Z3N
 have l1 : (bytes (ByteArray.mk #[40, 63, 58])).length = 3 := rfl
 have l2 : (bytes (ByteArray.mk #[41])).length = 1 := rfl
 have round : ∀ (bar : ByteArray) (i k : Int) (bs : List ByteArray), lget bs i = some bar → lget ([2, 3] : List Int) i = some k → (bytes bar).length ≤ 1 → -9223372036854775808 ≤ i + 1 → i + 1 ≤ 9223372036854775807 →
   (pParse (unis (((40 :: 63 :: 58 :: bytes x) ++ 41 :: []) ++ bytes bar ++ (40 :: 63 :: 58 :: bytes y) ++ 41 :: [])) = (⟨⟨k, 0, 0, 0, 0, [], [n, m]⟩, 0, false⟩, ⟨0, 0⟩) ∨ ∃ p, pParse (unis (((40 :: 63 :: 58 :: bytes x) ++ 41 :: []) ++ bytes bar ++ (40 :: 63 :: 58 :: bytes y) ++ 41 :: [])) = (noPat, ⟨25, p⟩)) →
   ∀ r, Z1Y x y bs (bs.length : Int) (i + 1) ⟨n, s.gr, false⟩ ⟨m, s2.gr, false⟩ = some r → Z2Q x y bs (bs.length : Int) i ⟨n, s.gr, false⟩ ⟨m, s2.gr, false⟩ = some r := by
  intro bar i k bs hb hk lb b1 b2 hp r hnext
  unfold Z2Q
  rw [hb, Option.bind_some, sadd_ok (by rw [l1]; omega), Option.bind_some, sadd_ok (by rw [bytes_add, List.length_append, l1, l2]; omega), Option.bind_some,
   sadd_ok (by rw [bytes_add, bytes_add, List.length_append, List.length_append, l1, l2]; omega), Option.bind_some,
   sadd_ok (by rw [bytes_add, bytes_add, bytes_add, List.length_append, List.length_append, List.length_append, l1, l2]; omega), Option.bind_some,
   sadd_ok (by rw [bytes_add, bytes_add, bytes_add, bytes_add, List.length_append, List.length_append, List.length_append, List.length_append, l1, l2]; omega), Option.bind_some,
   sadd_ok (by rw [bytes_add, bytes_add, bytes_add, bytes_add, bytes_add, List.length_append, List.length_append, List.length_append, List.length_append, List.length_append, l1, l2]; omega), Option.bind_some, parse_val, Option.bind_some]
  have eb : bytes (ByteArray.mk #[40, 63, 58] ++ x ++ ByteArray.mk #[41] ++ bar ++ ByteArray.mk #[40, 63, 58] ++ y ++ ByteArray.mk #[41]) = ((40 :: 63 :: 58 :: bytes x) ++ 41 :: []) ++ bytes bar ++ (40 :: 63 :: 58 :: bytes y) ++ 41 :: [] := by
   have b3 : bytes (ByteArray.mk #[40, 63, 58]) = [40, 63, 58] := rfl
   have b4 : bytes (ByteArray.mk #[41]) = [41] := rfl
   rw [bytes_add, bytes_add, bytes_add, bytes_add, bytes_add, bytes_add, b3, b4]
   simp
  have el : (bytes (ByteArray.mk #[40, 63, 58] ++ x ++ ByteArray.mk #[41] ++ bar ++ ByteArray.mk #[40, 63, 58] ++ y ++ ByteArray.mk #[41])).length ≤ 256 := by rw [eb]; simp only [List.length_append, List.length_cons, List.length_nil]; omega
  rw [parseF_small el, eb]
  have h18 : Z2l x y bs (bs.length : Int) i ⟨n, s.gr, false⟩ ⟨m, s2.gr, false⟩ = some r := by
   unfold Z2l
   rw [wrap_i64 b1 b2]
   exact hnext
  rcases hp with hp | ⟨p, hp⟩
  ·rw [hp, if_neg (by simp)]
   unfold Z3w
   rw [hk, Option.bind_some, if_neg (bne_neg rfl), if_neg (by simp), show lget [n, m] 0 = some n from rfl, Option.bind_some, hs, Option.bind_some, if_neg (by simp), show lget [n, m] 1 = some m from rfl, Option.bind_some, hs2, Option.bind_some, if_neg (by simp)]
   exact h18
  ·rw [hp, if_pos (by simp), if_neg (by simp)]
   exact h18
 have fin : Z1Y x y [ByteArray.mk #[], ByteArray.mk #[124]] (([ByteArray.mk #[], ByteArray.mk #[124]] : List ByteArray).length : Int) (0 + 1 + 1) ⟨n, s.gr, false⟩ ⟨m, s2.gr, false⟩ = some true := by
  apply Z47
  unfold Z2j
  rw [if_neg (by decide)]
  rfl
 have second : Z1Y x y [ByteArray.mk #[], ByteArray.mk #[124]] (([ByteArray.mk #[], ByteArray.mk #[124]] : List ByteArray).length : Int) (0 + 1) ⟨n, s.gr, false⟩ ⟨m, s2.gr, false⟩ = some true := by
  apply Z47
  unfold Z2j
  rw [if_pos (by decide)]
  refine round (ByteArray.mk #[124]) (0 + 1) 3 _ rfl rfl (by decide) (by decide) (by decide) ?_ true fin
  have e3 : unis (((40 :: 63 :: 58 :: bytes x) ++ 41 :: []) ++ bytes (ByteArray.mk #[124]) ++ (40 :: 63 :: 58 :: bytes y) ++ 41 :: []) = wrapU (unis (bytes x)) ((124, 1) :: wrapU (unis (bytes y)) []) := by
   have : ((40 :: 63 :: 58 :: bytes x) ++ 41 :: []) ++ bytes (ByteArray.mk #[124]) ++ (40 :: 63 :: 58 :: bytes y) ++ 41 :: [] = (40 :: 63 :: 58 :: bytes x) ++ 41 :: 124 :: ((40 :: 63 :: 58 :: bytes y) ++ 41 :: []) := by
    show _ ++ [124] ++ _ ++ _ = _
    simp
   rw [this, unis_wrap, unis_ascii (by decide), unis_wrap, unis_nil]
   rfl
  rw [e3]
  rcases alts_plain hr hr2 (.inl h0) with ⟨p, hp⟩ | hp
  ·exact .inr ⟨p, hp⟩
  ·rw [h0, h02] at hp
   exact .inl hp
 apply Z47
 unfold Z2j
 rw [if_pos (by decide)]
 refine round (ByteArray.mk #[]) 0 2 _ rfl rfl (by decide) (by decide) (by decide) ?_ true second
 have e3 : unis (((40 :: 63 :: 58 :: bytes x) ++ 41 :: []) ++ bytes (ByteArray.mk #[]) ++ (40 :: 63 :: 58 :: bytes y) ++ 41 :: []) = wrapU (unis (bytes x)) (wrapU (unis (bytes y)) []) := by
  have : ((40 :: 63 :: 58 :: bytes x) ++ 41 :: []) ++ bytes (ByteArray.mk #[]) ++ (40 :: 63 :: 58 :: bytes y) ++ 41 :: [] = (40 :: 63 :: 58 :: bytes x) ++ 41 :: ((40 :: 63 :: 58 :: bytes y) ++ 41 :: []) := by
   show _ ++ [] ++ _ ++ _ = _
   simp
  rw [this, unis_wrap, unis_wrap, unis_nil]
 rw [e3]
 rcases rows_plain hr hr2 h0 h02 with ⟨p, hp⟩ | hp
 ·exact .inr ⟨p, hp⟩
 ·exact .inl hp
end Go.Proofs.YtadodmjdkphddaaDoor.N2
end
section
set_option linter.unusedSimpArgs false
set_option linter.unusedVariables false
namespace Go.Proofs.YtadodmjdkphddaaDoor
open Go Go.Abs Go.RowKit Go.ChangeShapes Go.WideShapes Go.ChangeAt
set_option maxRecDepth 100000 in
theorem parseRows_lifted (os : Os) (started : os.Started) (H : Type) (enc : TypeId × Value → H) :
  ReturnsInHanded {} Tryd.checked os 6 .any (fun w args => (Rows.parseRowsSpec.pre enc Tryd.prog Tryd.f6 [] false w args ∧ laidMetH Tryd.prog laidL w) ∧ sizedMet enc Tryd.prog Tryd.f6 (OpenSpec.ofChange Rows.parseRowsSpec) false w args)
   (Rows.parseRowsSpec.post enc Tryd.prog Tryd.f6 false true false false) := by
 refine returnsInHanded_of_change_and (C := Tryd.checked) (X := fun w _ => laidMetH Tryd.prog laidL w) (fun _ _ _ hh h => h.of_heap hh) own started (by kernel_rfl) Tryd.func6
  (ChangeSpec.witness_shaped (enc := enc) (C := Tryd.checked) (os := os) (X := fun w _ => laidMetH Tryd.prog laidL w) false (laidWorld os) #[.string ⟨#[]⟩, .string ⟨#[]⟩] 8 rfl (World.shaped_of_RefB (by kernel_rfl) (by kernel_rfl)) (by kernel_rfl) (by kernel_rfl) (by kernel_rfl) (laid_met os _)) ?_
 intro W base args ds gs before hval0 hW _ _ hL _
 have hval : ∀ (j : Nat) t v, Tryd.f6.params[j]? = some t → args[j]? = some v → Value.okWide Tryd.prog W .any base t v := hval0
 have hW' := hW
 have hlt := fun p hp => hW.lt p hp
 obtain ⟨p, q, hA0, hV, rfl, hfz, hnd⟩ := hW
 have hA : DataW.TrodAll enc Tryd.prog W 0 (fun _ => true) true Tryd.f6.params.toList args.toList ds p := hA0
 rw [Tryd.params6] at hA hval
 obtain ⟨v0, v1, d0, d1, p0, p1, rfl, rfl, rfl, h0, h1⟩ := trodAll_two hA
 obtain ⟨rfl, rfl⟩ := trodVars_none hV
 obtain ⟨x0, rfl, rfl, rfl, w0⟩ := Go.ChangeMaps.open_string Tryd.underlying9 (hval 0 9 v0 rfl rfl) h0
 obtain ⟨x1, rfl, rfl, rfl, w1⟩ := Go.ChangeMaps.open_string Tryd.underlying9 (hval 1 9 v1 rfl rfl) h1
 clear hA0 hval0
 simp only [List.append_nil, List.nil_append] at hW' hlt
 have htab := tabs_of hL
 obtain ⟨q, hq, ex, rfl⟩ := N2.Z8R x0 x1  true (N2.parseRows_val x0 x1 )
 refine (calls_old N2.fspec (Tabs.old htab) hq rfl ?_).mono ?_
 ·intro i x v hx hv
  match i with
  | 0 =>
   simp only [List.getElem?_cons_zero, Option.some.injEq] at hx
   have hv' : Value.string x0 = v := by simpa using hv
   subst hx; subst hv'
   exact ⟨.p _ _ (.v _ rfl), rfl⟩
  | 1 =>
   simp only [List.getElem?_cons_succ, List.getElem?_cons_zero, Option.some.injEq] at hx
   have hv' : Value.string x1 = v := by simpa using hv
   subst hx; subst hv'
   exact ⟨.p _ _ (.v _ rfl), rfl⟩
  | i + 2 => simp at hx
 ·rintro e W' ⟨v, S', β', rfl, bel, hr⟩
  have := scal_rel hr
  subst this
  refine ⟨_, rfl, _, _, _, [], _, [], hW', trodAll_mk1 (shut_bool Tryd.underlying4 _), trodAll_cons_mk (Go.ChangeMaps.shut_string Tryd.underlying9 w0) (trodAll_cons_mk (Go.ChangeMaps.shut_string Tryd.underlying9 w1) (trodAll_mk0)), rfl, ?_, fun h => by cases h⟩
  exact bel.frame _
theorem parseRows_holds : Rows.ParseRowsSaid :=
 OpenClaim.holds_of_wide 6 Tryd.f6 rfl rfl rfl rfl rfl rfl rfl ⟨rfl, rfl, rfl, rfl, rfl⟩ rfl rfl rfl rfl rfl (by kernel_rfl) Tryd.func6 (by kernel_rfl)
  (of_decide_eq_true (by kernel_rfl)) (by unfold Func.isWrapper; first | (rw [if_pos (by decide +kernel)]; kernel_rfl) | (rw [if_neg (by decide +kernel)]; exact ⟨rfl, rfl⟩))
  (fun os started H enc _ => parseRows_lifted os started H enc)
theorem parseRows_card : Rows.ParseRowsCardSaid :=
 Claim7.holds_tied_plain_at .later [] [.data, .pinned] true (true, "aa0ed56c3559362fe8994ee982c3505cd6e490b9947e437ca456bdc414569078") false
  parseRows_holds (fun _ h => by cases h) (by kernel_rfl) (fun _ h => by cases h) parseRows_row_tie rfl ⟨rfl, rfl⟩ (by kernel_rfl) rfl
  (fun f fn hf hfn => by
   obtain rfl : f = 6 := Option.some.inj ((show Tryd.prog.funcNamed "colander/colanderlaw03.ParseRows" = some 6 by kernel_rfl).symm.trans hf) |>.symm
   obtain rfl : fn = Tryd.f6 := (Option.some.inj (Tryd.func6.symm.trans hfn)).symm
   exact ⟨by kernel_rfl, fun j t ht => by
    rw [Tryd.params6] at ht
    have hm : t ∈ [9, 9] := by simpa using Array.mem_of_getElem? ht
    have hall : ([9, 9].all fun u => !Tryd.prog.wantsStandIn u) = true := by kernel_rfl
    exact (show Tryd.prog.wantsStandIn t = false by simpa using List.all_eq_true.1 hall t hm)⟩)
  (by kernel_rfl)
#print axioms parseRows_card
end Go.Proofs.YtadodmjdkphddaaDoor
end
