/- ProgFolds: true at every input; the input reads as it did. Condition: the tables lie as they are laid, which the card ties. -/
import Derived.Test.YtocikhhkicahoaaDoorCodeB
import Derived.Test.YtocikhhkicahoaaDoorRow
import Derived.Test.YtocikhhkicahoaaDoorCards
import Derived.Test.YtocikhhkicahoaaDoorTie
import Derived.SevenTiedAt

set_option linter.unusedSimpArgs false
set_option linter.unusedVariables false
set_option linter.defProp false
section
namespace Go.Proofs.YtocikhhkicahoaaDoor.N2
open Go Go.Abs Go.Proofs.Unis Go.Proofs.Norm
set_option maxRecDepth 100000
theorem ZCY (x : List UInt8) : unis (40 :: 63 :: 105 :: 41 :: x) = (40, 1) :: (63, 1) :: (105, 1) :: (41, 1) :: unis x := by
 rw [Zfw (by decide), Zfw (by decide), Zfw (by decide), Zfw (by decide)]
 rfl
theorem ZfT {a b : Int} (h : a ≠ b) : (a != b) = true := by simpa using h
theorem Zck {a b : Int} (h : a = b) : ¬ ((a != b) = true) := by simpa using h
theorem Zzs (p : Cp) : whole (mapP Z3K p) = (whole p).map Z3K := by
 simp only [whole, Z8S, Zgu, ZdH, Zbu.mvL, mapP]
 simp [Z3K, sv, mt]
theorem ZyZ (L : List Zo) (hl : L.length ≤ 1000000) (hI : ∀ i ∈ L, InsF i) : ∀ (m i : Nat), i + m = L.length → Z4n (L.map Z3K) L (L.length : Int) (i : Int) = some true := by
 intro m
 induction m with
 | zero =>
  intro i h
  apply Z9v
  unfold Z4m
  rw [if_neg (Z25 (by omega))]
  rfl
 | succ m ih =>
  intro i h
  have hil : i < L.length := by omega
  obtain ⟨h1, h2, h3⟩ := hI L[i] (ZlZ hil)
  have e2 := ih (i + 1) (by omega)
  apply Z9v
  unfold Z4m Z5H
  rw [if_pos (Z2j (by omega)), Z3X, Z3X, q8_, q4_ hil, ZW, Z8w, ZW]
  generalize L[i] = x at *
  obtain ⟨s, hs, hs2, hs3⟩ : ∃ s, Z6H x.Set = some (s, 0) ∧ s = (Z3K x).Set ∧ s.length ≤ 1000000 := by
   by_cases ho : x.Op = 1
   ·obtain ⟨l, hn, e⟩ := h1 ho
    refine ⟨_, by rw [e]; exact ZoW hn, by simp only [Z3K]; rw [if_pos ho, e, ZxD], ?_⟩
    have := ZbE (ZmY hn)
    rw [Zax]; omega
   ·refine ⟨[], ?_, by simp only [Z3K]; rw [if_neg ho, h2 ho], by simp⟩
    rw [h2 ho]
    exact ZoW (l := []) trivial
  rw [hs, ZW, if_neg (by simp)]
  dsimp only
  rw [hs2, ZEh _ (hs2 ▸ hs3), ZW, if_neg (by simp), if_neg (Zck (show x.Op = (Z3K x).Op from rfl)), if_neg (Zck (show x.A = (Z3K x).A from rfl)), if_neg (Zck (show x.C = (Z3K x).C from rfl)), if_neg (Zck (show x.D = (Z3K x).D from rfl))]
  unfold Z5I Z3h
  rw [wrap_i64 (n := (i : Int) + 1) (by omega) (by omega)]
  by_cases h5 : x.Op = 5
  ·have hb : (Z3K x).B = 1 := by simp only [Z3K]; rw [if_pos h5]
   rw [if_pos (Z29 h5), if_neg (Zck (h3 h5)), if_neg (Zck hb), if_neg (Zck h5)]
   exact e2
  ·have hb : x.B = (Z3K x).B := by simp only [Z3K]; rw [if_neg h5]
   rw [if_neg (Z28 h5), if_pos (ZfT h5), if_neg (Zck hb)]
   exact e2
theorem progFolds_val (x : ByteArray) : Z99 x = some true := by
 apply ZfV
 unfold Z71
 rw [ZxH, ZW, if_neg (by simp)]
 unfold Z61
 split
 ·rfl
 rename_i hsz
 have hsz' : (bytes x).length ≤ 250 := by have q := Zzq x; simp only [decide_eq_true_eq] at hsz; omega
 unfold Z62
 have l3 : (bytes (ByteArray.mk #[40, 63, 105, 41])).length = 4 := rfl
 have ec : bytes (ByteArray.mk #[40, 63, 105, 41] ++ x) = 40 :: 63 :: 105 :: 41 :: bytes x := by rw [ZzH]; rfl
 have elc : (bytes (ByteArray.mk #[40, 63, 105, 41] ++ x)).length = (bytes x).length + 4 := by rw [ec]; simp
 have eP : Z4h (ByteArray.mk #[40, 63, 105, 41] ++ x) = Z7Y ((40, 1) :: (63, 1) :: (105, 1) :: (41, 1) :: unis (bytes x)) := by rw [Znn (by omega), ec, ZCY]
 obtain ⟨l2, f2, e2, hm2⟩ := Zz9 (ByteArray.mk #[40, 63, 105, 41] ++ x)
 by_cases h : (Z4h x).2.Code = 0
 ·by_cases hf : (Z4h x).1.Fold = false
  ·obtain ⟨hl, n, s, hr, e⟩ := ZEc h hf
   obtain ⟨v, p, hv, hp, hs, hc⟩ := ZlN h
   rw [e] at hv hp
   have eQ := eP.trans (ZyX hr)
   have hp2 := ZF5 hp
   rcases hc with ⟨hc, hm⟩ | ⟨hc, hlen, hm⟩
   ·have hm3 := ZiI (x := ByteArray.mk #[40, 63, 105, 41] ++ x) (by rw [eQ]) (by rw [eQ]; exact Zox hv hc s.gr true)
    rw [hm, ZW, Zod (by rw [l3]; omega), ZW, hm3, ZW]
    dsimp only
    rw [if_neg (by simp), if_neg (by simp), if_pos (ZfT hc)]
    unfold Z30
    rw [if_pos (by simp)]
   ·have hm3 := ZiI (x := ByteArray.mk #[40, 63, 105, 41] ++ x) (by rw [eQ]) (by rw [eQ]; exact (ZhX hv hc hp2 (by rw [ZcJ]; exact hs) s.gr).2)
    rw [hm, ZW, Zod (by rw [l3]; omega), ZW, hm3, ZW]
    dsimp only
    rw [if_neg (by simp), if_neg (by simp), if_neg (by simp)]
    unfold Z63
    rw [if_neg (by simp), Zzs, Zax, if_neg (by simp)]
    unfold Z5G
    exact ZyZ (whole p) (by rw [ZD5]; omega) (ZFP hp) (whole p).length 0 (by omega)
  ·obtain ⟨v, p, hv, hp, hs, hc⟩ := ZlN h
   have hbad : (Z4h (ByteArray.mk #[40, 63, 105, 41] ++ x)).2.Code ≠ 0 := by
    rw [eP]
    have hf' : (Z4h x).1.Fold = true := by simpa using hf
    rw [Znn (by omega)] at hf' h
    generalize unis (bytes x) = us at hf' h
    cases hw : wd [40, 63, 105, 41] (⟨us, 0, 0, []⟩ : St) with
    | none =>
     have e : Z7Y us = pEnd false (pAlt 32 ⟨us, 0, 0, []⟩) := by unfold Z7Y; rw [hw]
     rw [e] at hf'
     exfalso
     revert hf'
     unfold pEnd
     split
     ·simp [ZgJ]
     ·split
      ·simp [ZgJ]
      ·split
       ·simp [ZgJ]
       ·simp
    | some s1 =>
     unfold wd at hw
     split at hw
     ·rename_i t ht
      obtain ⟨a, b, c, d, rfl⟩ := ZDF ht
      have e : Z7Y ((40, 1) :: (63, 1) :: (105, 1) :: (41, 1) :: (40, a) :: (63, b) :: (105, c) :: (41, d) :: t) = pEnd true (pAlt 32 ⟨(40, a) :: (63, b) :: (105, c) :: (41, d) :: t, 0 + (4 : Nat), 0, []⟩) := rfl
      rw [e, ZyY]
      simp [pEnd]
     ·simp at hw
   rw [show Z2l (ByteArray.mk #[40, 63, 105, 41] ++ x) = _ from ZlM hbad] at hm2
   cases hm2
   obtain ⟨l1, e1, hm1⟩ : ∃ l e, Z2l x = some (l, 0, e) := by
    rcases hc with ⟨_, hm⟩ | ⟨_, _, hm⟩
    ·exact ⟨_, _, hm⟩
    ·exact ⟨_, _, hm⟩
   rw [hm1, ZW, Zod (by rw [l3]; omega), ZW, ZlM hbad, ZW]
   dsimp only
   rw [if_neg (by simp), if_pos (ZfT hbad)]
   unfold Z30
   split
   ·rfl
   ·rw [if_neg (by simp)]
    rw [ZfT hbad]
 ·rw [ZlM h, ZW, Zod (by rw [l3]; omega), ZW, hm2, ZW]
  dsimp only
  rw [if_pos (ZfT h)]
  unfold Z30
  split
  ·rfl
  ·rw [if_pos (ZfT h)]
end Go.Proofs.YtocikhhkicahoaaDoor.N2
end
section
namespace Go.Proofs.YtocikhhkicahoaaDoor
open Go Go.Abs Go.RowKit Go.ChangeShapes Go.WideShapes Go.ChangeAt
set_option maxRecDepth 100000 in
theorem Zpj (os : Os) (started : os.Started) (H : Type) (enc : TypeId × Value → H) :
  ReturnsInHanded {} Tryd.checked os 4 .any (fun w args => (Rows.progFoldsSpec.pre enc Tryd.prog Tryd.f4 [] false w args ∧ laidMetH Tryd.prog Zip w) ∧ sizedMet enc Tryd.prog Tryd.f4 (OpenSpec.ofChange Rows.progFoldsSpec) false w args)
   (Rows.progFoldsSpec.post enc Tryd.prog Tryd.f4 false true false false) := by
 refine returnsInHanded_of_change_and (C := Tryd.checked) (X := fun w _ => laidMetH Tryd.prog Zip w) (fun _ _ _ hh h => h.of_heap hh) own started (by kernel_rfl) Tryd.func4
  (ChangeSpec.witness_shaped (enc := enc) (C := Tryd.checked) (os := os) (X := fun w _ => laidMetH Tryd.prog Zip w) false (Zsw os) #[.string ⟨#[]⟩] 8 rfl (World.shaped_of_RefB (by kernel_rfl) (by kernel_rfl)) (by kernel_rfl) (by kernel_rfl) (by kernel_rfl) (ZDI os _)) ?_
 intro W base args ds gs before hval0 hW _ hsz0 hL _
 have hval : ∀ (j : Nat) t v, Tryd.f4.params[j]? = some t → args[j]? = some v → Value.okWide Tryd.prog W .any base t v := hval0
 have hW' := hW
 have hlt := fun p hp => hW.lt p hp
 obtain ⟨p, q, hA0, hV, rfl, hfz, hnd⟩ := hW
 have hA : DataW.TrodAll enc Tryd.prog W 0 (fun _ => true) true Tryd.f4.params.toList args.toList ds p := hA0
 rw [Tryd.params4] at hA hval
 obtain ⟨v0, d0, rfl, rfl, h0⟩ := trodAll_one hA
 obtain ⟨rfl, rfl⟩ := trodVars_none hV
 obtain ⟨x0, rfl, rfl, rfl, w0⟩ := Go.ChangeMaps.open_string Tryd.underlying9 (hval 0 9 v0 rfl rfl) h0
 clear hA0 hval0
 simp only [Zjh, ZbJ] at hW' hlt
 have htab := ZFI hL
 obtain ⟨q, hq, ex, rfl⟩ := N2.ZfW x0  true (N2.progFolds_val x0 )
 refine (ZzI N2.fspec (Tabs.old htab) hq rfl ?_).mono ?_
 ·intro i x v hx hv
  match i with
  | 0 =>
   simp only [ZdE, q1_] at hx
   have hv' : Value.string x0 = v := by simpa using hv
   subst hx; subst hv'
   exact ⟨.p _ _ (.v _ rfl), rfl⟩
  | i + 1 => simp at hx
 ·rintro e W' ⟨v, S', β', rfl, bel, hr⟩
  have := Z4Z hr
  subst this
  refine ⟨_, rfl, _, _, _, [], _, [], hW', trodAll_mk1 (shut_bool Tryd.underlying4 _), trodAll_cons_mk (Go.ChangeMaps.shut_string Tryd.underlying9 w0) (trodAll_mk0), rfl, ?_, fun h => by cases h⟩
  exact bel.frame _
theorem Zrh : Rows.ProgFoldsSaid :=
 OpenClaim.holds_of_wide 4 Tryd.f4 rfl rfl rfl rfl rfl rfl rfl ⟨rfl, rfl, rfl, rfl, rfl⟩ rfl rfl rfl rfl rfl (by kernel_rfl) Tryd.func4 (by kernel_rfl)
  (of_decide_eq_true (by kernel_rfl)) (by unfold Func.isWrapper; first | (rw [if_pos (by decide +kernel)]; kernel_rfl) | (rw [if_neg (by decide +kernel)]; exact ⟨rfl, rfl⟩))
  (fun os started H enc _ => Zpj os started H enc)
theorem progFolds_card : Rows.ProgFoldsCardSaid :=
 Claim7.holds_tied_plain_at .later [] [.data, .pinned] true (true, "e07b5c6b66d562b60017c6efe40723018a2d94e29c465ada8e23d3efa3048f54") false
  Zrh (fun _ h => by cases h) (by kernel_rfl) (fun _ h => by cases h) progFolds_row_tie rfl ⟨rfl, rfl⟩ (by kernel_rfl) rfl
  (fun f fn hf hfn => by
   obtain rfl : f = 4 := Option.some.inj ((show Tryd.prog.funcNamed "colander/colanderlaw05.ProgFolds" = some 4 by kernel_rfl).symm.trans hf) |>.symm
   obtain rfl : fn = Tryd.f4 := (Option.some.inj (Tryd.func4.symm.trans hfn)).symm
   exact ⟨by kernel_rfl, fun j t ht => by
    rw [Tryd.params4] at ht
    have hm : t ∈ [9] := by simpa using Zw2 ht
    have hall : ([9].all fun u => !Tryd.prog.wantsStandIn u) = true := by kernel_rfl
    exact (show Tryd.prog.wantsStandIn t = false by simpa using Z8y.1 hall t hm)⟩)
  (by kernel_rfl)
#print axioms progFolds_card
end Go.Proofs.YtocikhhkicahoaaDoor
end
