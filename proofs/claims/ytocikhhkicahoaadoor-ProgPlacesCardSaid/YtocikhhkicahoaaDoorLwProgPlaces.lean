/- ProgPlaces: true at every input; the input reads as it did. Condition: the tables lie as they are laid, which the card ties. -/
import Derived.Test.YtocikhhkicahoaaDoorCodeB
import Derived.Test.YtocikhhkicahoaaDoorRow
import Derived.Test.YtocikhhkicahoaaDoorCards
import Derived.Test.YtocikhhkicahoaaDoorTie
import Derived.SevenTiedAt

set_option linter.unusedSimpArgs false
set_option linter.unusedVariables false
set_option linter.defProp false
section
namespace Go.Proofs.YtocikhhkicahoaaDoor.N2
open Go Go.Abs Go.Proofs.Unis Go.Proofs.Norm
set_option maxRecDepth 100000
theorem ZCb {g : Int} {p : Cp} (h : Rc p) (hg : 0 ≤ g) (hI : ∀ i ∈ p.1, InsG g i) : ∀ (i : Nat) x, (whole p)[i]? = some x → (i + 1 = (whole p).length ∧ x = mt) ∨ (i + 1 < (whole p).length ∧ Loc (p.1.length + 1 : Nat) (whole p) i x ∧ InsG g x) := by
 intro i x hx
 have hlen := Zsf p
 have sv' : ∀ a, 0 ≤ a ∧ a ≤ 1 → InsG g (sv a) := fun a h => ⟨by simp [sv], fun _ => ⟨h.1, by show a < 2 * g + 2; omega⟩, by simp [sv]⟩
 have hS : Seg (p.1.length + 1 : Nat) (whole p) 1 (mvL 1 0 p.1) := Zbz (u := [sv 0]) (w := [sv 1, mt]) h.1 rfl (by simp) rfl (by omega) rfl
 have hx' := hx
 unfold whole at hx'
 cases i with
 | zero =>
  simp at hx'
  subst hx'
  exact .inr ⟨by omega, ZeC (by simp [sv]), sv' 0 (by omega)⟩
 | succ i =>
  rw [ZiQ] at hx'
  by_cases hi : i < (mvL 1 0 p.1).length
  ·rw [ZiO hi] at hx'
   have := hS i x hx'
   rw [Z1p] at hi
   refine .inr ⟨by omega, by rwa [show 1 + i = i + 1 by omega] at this, ?_⟩
   exact (Zwy g).mvL hI x (q7_ hx')
  ·rw [Zei (by omega)] at hx'
   rw [Z1p] at hi hx'
   cases hj : i - p.1.length with
   | zero =>
    rw [hj] at hx'
    simp at hx'
    subst hx'
    exact .inr ⟨by omega, ZeC (by simp [sv]), sv' 1 (by omega)⟩
   | succ j =>
    rw [hj] at hx'
    cases j with
    | zero =>
     simp at hx'
     subst hx'
     exact .inl ⟨by omega, rfl⟩
    | succ j => simp at hx'
theorem Zwe {g : Int} {W : List Zm} {n : Int} {b : ZZ} (hb : b.Groups = g) (hg : 0 ≤ g ∧ g ≤ 1000) (hn : n + 1 < W.length) (hl : W.length ≤ 100000)
  (hW : ∀ (i : Nat) x, W[i]? = some x → (i + 1 = W.length ∧ x = mt) ∨ (i + 1 < W.length ∧ Loc n W i x ∧ InsG g x)) :
  ∀ (m i : Nat), i + m = W.length → Z4e W (marks (W.take i) : Int) W (W.length : Int) (i : Int) b = some true := by
 intro m
 induction m with
 | zero =>
  intro i h
  apply Z96
  unfold Z4a Z5r
  rw [if_neg (Z2a (by omega)), Zs0 W (by omega), q0_, Zvm (by omega)]
  simp
 | succ m ih =>
  intro i h
  have hil : i < W.length := by omega
  have hmk : marks (W.take (i + 1)) = marks (W.take i) + if W[i].Op = 10 then 1 else 0 := by
   rw [ZyD hil, Z9a]
   by_cases h10 : W[i].Op = 10
   ·rw [if_pos h10]; simp [marks, h10]
   ·rw [if_neg h10]; simp [marks, h10]
  have hml : marks (W.take i) ≤ 100000 := by
   have := List.countP_le_length (p := fun i : Zm => i.Op == 10) (l := W.take i)
   rw [List.length_take] at this
   unfold marks
   omega
  have nx : ∀ (ok : Bool) (k : Int), ok = true → k = (marks (W.take (i + 1)) : Int) → ZS W k ok W (W.length : Int) (i : Int) b = some true := by
   rintro ok k rfl rfl
   unfold ZS Z5q
   rw [if_neg (by simp), wrap_i64 (n := (i : Int) + 1) (by omega) (by omega)]
   exact ih (i + 1) (by omega)
  apply Z96
  unfold Z4a Z5p
  rw [if_pos (Z1Q (by omega)), Z44, q4_ hil, q0_]
  have hx := hW i W[i] (q4_ hil)
  have hWg : ∀ (j : Int) (k : Nat) (y : Zm), j = k → W[k]? = some y → lget W j = some y := by
   rintro j k y rfl hy
   rw [Z44]; exact hy
  generalize W[i] = x at *
  rcases hx with ⟨hi, rfl⟩ | ⟨hi, ⟨h0, h2, h3, h7, h10, h11⟩, g1, g4, g5⟩
  ·rw [if_pos (by rfl), wrap_i64 (by omega) (by omega)]
   exact nx _ _ (Z1L (by omega)) (by rw [hmk]; rfl)
  rw [if_neg (Z1R h0)]
  by_cases c1 : x.Op = 1
  ·obtain ⟨l, hl1, hl2⟩ := g1 c1
   rw [if_pos (Z1L c1), hl2, Z9q hl1, q0_]
   exact nx _ _ rfl (by rw [hmk, if_neg (by omega)]; rfl)
  rw [if_neg (Z1R c1)]
  by_cases c2 : x.Op = 2
  ·have q := h2 c2
   rw [if_pos (Z1L c2), if_pos (Z1Q q.1)]
   exact nx _ _ (Z1Q (by omega)) (by rw [hmk, if_neg (by omega)]; rfl)
  rw [if_neg (Z1R c2)]
  by_cases c3 : x.Op = 3
  ·have q := h3 c3
   rw [if_pos (Z1L c3), if_pos (Z1Q q.1), if_pos (Z1Q q.2.1), if_pos (Z1Q (by omega)), if_pos (Z1Q (by omega)), wrap_i64 (by omega) (by omega)]
   exact nx _ _ (Z1L q.2.2.2.2) (by rw [hmk, if_neg (by omega)]; rfl)
  rw [if_neg (Z1R c3)]
  by_cases c4 : x.Op = 4
  ·have q := g4 c4
   rw [if_pos (Z1L c4), if_pos (Z1Q q.1), hb, wrap_i64 (n := 2 * g) (by omega) (by omega), wrap_i64 (by omega) (by omega)]
   exact nx _ _ (Z1Q q.2) (by rw [hmk, if_neg (by omega)]; rfl)
  rw [if_neg (Z1R c4)]
  by_cases c5 : x.Op = 5
  ·have q := g5 c5
   rw [if_pos (Z1L c5), if_pos (Z1Q q.1), hb]
   exact nx _ _ (Z1Q q.2) (by rw [hmk, if_neg (by omega)]; rfl)
  rw [if_neg (Z1R c5)]
  by_cases c7 : x.Op = 7
  ·obtain ⟨q1, q2, j, y, q3, q4, q5⟩ := h7 (.inl c7)
   rw [if_pos (Z1L c7), if_pos (Z1L c7), wrap_i64 (n := (i : Int) + 1) (by omega) (by omega), if_pos (Z1Q q1), if_pos (Z1Q (by omega)), wrap_i64 (n := x.B - 1) (by omega) (by omega), hWg (x.B - 1) j y (by omega) q4, q0_]
   exact nx _ _ (Z1L q5) (by rw [hmk, if_neg (by omega)]; rfl)
  rw [if_neg (Z1R c7)]
  by_cases c8 : x.Op = 8
  ·obtain ⟨q1, q2, j, y, q3, q4, q5⟩ := h7 (.inr c8)
   rw [if_pos (Z1L c8), wrap_i64 (n := (i : Int) + 1) (by omega) (by omega), if_pos (Z1Q q1), if_pos (Z1Q (by omega)), wrap_i64 (n := x.B - 1) (by omega) (by omega), hWg (x.B - 1) j y (by omega) q4, q0_]
   exact nx _ _ (Z1L q5) (by rw [hmk, if_neg (by omega)]; rfl)
  rw [if_neg (Z1R c8)]
  by_cases c10 : x.Op = 10
  ·rw [if_pos (Z1L c10), wrap_i64 (n := (marks (W.take i) : Int) + 1) (by omega) (by omega)]
   exact nx _ _ (Z1L (h10 c10)) (by rw [hmk, if_pos c10]; rfl)
  rw [if_neg (Z1R c10)]
  by_cases c11 : x.Op = 11
  ·obtain ⟨q1, q2, y, j, z, q3, q4, q5, q6, q7⟩ := h11 c11
   rw [if_pos (Z1L c11), if_pos (Z1Q q2), wrap_i64 (n := (i : Int) + 1) (by omega) (by omega), hWg ((i : Int) + 1) (i + 1) y (by omega) q3, q0_, if_pos (Z1L q4), q0_, hWg y.A j z q5 q6, q0_]
   exact nx _ _ (Z1L q7) (by rw [hmk, if_neg (by omega)]; rfl)
  rw [if_neg (Z1R c11)]
  exact nx _ _ rfl (by rw [hmk, if_neg c10]; rfl)
theorem ZBq {x : ByteArray} (h : (Z4j x).2.Code = 0) : (Z4j x).1.Groups ≤ 1000 := by
 unfold Z4j at h ⊢
 split at h
 ·simp at h
 rename_i hx
 rw [if_neg hx]
 have hx' : (bytes x).length ≤ 256 := by
  change ¬ 256 < (bytes x).length at hx
  omega
 change (ZaX (unis (bytes x))).2.Code = 0 at h
 show (ZaX (unis (bytes x))).1.Groups ≤ 1000
 generalize bytes x = l at hx' h ⊢
 have hat : At l ⟨unis l, 0, 0, []⟩ := ⟨0, by omega, rfl, rfl⟩
 have hi : Inv l ⟨unis l, 0, 0, []⟩ := ⟨hat, by simp, by simp, by have := hat.len; simp only [] at this; simp; omega⟩
 have key : ∀ (fold : Bool) (s : St), Inv l s → (pEnd fold (pAlt 32 s)).2.Code = 0 → (pEnd fold (pAlt 32 s)).1.Groups ≤ 1000 := by
  intro fold s hs hc
  have ha := Znj (l := l) (by omega) 32 0 (by omega) (by omega) s hs
  have hb : ∀ c p, pAlt 32 s = .bad c p → c ≠ 0 := by
   intro c p hp
   rw [hp] at ha
   exact ha.1
  obtain ⟨n, s2, e, _, hf, e2⟩ := Zs5 hc hb
  rw [e] at ha
  have := (ha.2.inv hs).g9
  rw [e2]
  show s2.gr ≤ 1000
  omega
 unfold ZaX at h ⊢
 split at h
 ·rename_i s1 hw
  exact key true s1 (((Z2u wFo hat (by omega) hw).2.1.mv hi).inv hi) h
 ·exact key false _ hi h
theorem progPlaces_val (x : ByteArray) : Z8C x = some true := by
 apply Zfn
 unfold Z6x
 rw [Zx2, q0_, if_neg (by simp)]
 unfold Z5M
 split
 ·rfl
 unfold Z5N Z4p
 by_cases h : (Z4j x).2.Code = 0
 ·obtain ⟨v, p, hv, hp, hs, hc⟩ := Zyr h
  rcases hc with ⟨hc, hm⟩ | ⟨hc, hlen, hm⟩
  ·rw [hm, q0_]
   dsimp only
   rw [if_neg (by simp), if_pos (by simpa using hc)]
   rfl
  ·rw [hm, q0_]
   dsimp only
   rw [if_neg (by simp), if_neg (by simp)]
   unfold Z5O Z5o
   have hw := Zsf p
   rw [ZmS, q0_, ZvI hv, q0_, wrap_i64 (n := v.sz + 3) (by omega) (by omega), if_neg (by simp; omega), wrap_i64 (by omega) (by omega)]
   have hl : lget (whole p) ((whole p).length - 1 : Int) = some mt := by
    have e : whole p = (sv 0 :: (mvL 1 0 p.1 ++ [sv 1])) ++ mt :: [] := by simp [whole]
    have := ZiL (sv 0 :: (mvL 1 0 p.1 ++ [sv 1])) mt [] (i := ((whole p).length : Int) - 1) (by simp [whole, Z1p]; omega)
    rwa [← e] at this
   rw [hl, q0_, if_neg (by simp [mt])]
   obtain ⟨hg0, R, hgr, hR⟩ := ZD6 h
   have hg9 : (Z4j x).1.Groups ≤ 1000 := ZBq h
   have := Zwe (g := (Z4j x).1.Groups) (W := whole p) (n := ((p.1.length + 1 : Nat) : Int)) rfl ⟨hg0, hg9⟩ (by omega) (by omega) (ZCb (ZHb hp) hg0 (ZHa hR hp hgr)) (whole p).length 0 (by omega)
   exact this
 ·rw [ZCS h, q0_]
  dsimp only
  rw [if_pos (by simpa using h)]
  rfl
end Go.Proofs.YtocikhhkicahoaaDoor.N2
end
section
namespace Go.Proofs.YtocikhhkicahoaaDoor
open Go Go.Abs Go.RowKit Go.ChangeShapes Go.WideShapes Go.ChangeAt
set_option maxRecDepth 100000 in
theorem ZnV (os : Os) (started : os.Started) (H : Type) (enc : TypeId × Value → H) :
  ReturnsInHanded {} Tryd.checked os 3 .any (fun w args => (Rows.progPlacesSpec.pre enc Tryd.prog Tryd.f3 [] false w args ∧ laidMetH Tryd.prog Zi1 w) ∧ sizedMet enc Tryd.prog Tryd.f3 (OpenSpec.ofChange Rows.progPlacesSpec) false w args)
   (Rows.progPlacesSpec.post enc Tryd.prog Tryd.f3 false true false false) := by
 refine returnsInHanded_of_change_and (C := Tryd.checked) (X := fun w _ => laidMetH Tryd.prog Zi1 w) (fun _ _ _ hh h => h.of_heap hh) own started (by kernel_rfl) Tryd.func3
  (ChangeSpec.witness_shaped (enc := enc) (C := Tryd.checked) (os := os) (X := fun w _ => laidMetH Tryd.prog Zi1 w) false (ZrY os) #[.string ⟨#[]⟩] 8 rfl (World.shaped_of_RefB (by kernel_rfl) (by kernel_rfl)) (by kernel_rfl) (by kernel_rfl) (by kernel_rfl) (ZCM os _)) ?_
 intro W base args ds gs before hval0 hW _ hsz0 hL _
 have hval : ∀ (j : Nat) t v, Tryd.f3.params[j]? = some t → args[j]? = some v → Value.okWide Tryd.prog W .any base t v := hval0
 have hW' := hW
 have hlt := fun p hp => hW.lt p hp
 obtain ⟨p, q, hA0, hV, rfl, hfz, hnd⟩ := hW
 have hA : DataW.TrodAll enc Tryd.prog W 0 (fun _ => true) true Tryd.f3.params.toList args.toList ds p := hA0
 rw [Tryd.params3] at hA hval
 obtain ⟨v0, d0, rfl, rfl, h0⟩ := trodAll_one hA
 obtain ⟨rfl, rfl⟩ := trodVars_none hV
 obtain ⟨x0, rfl, rfl, rfl, w0⟩ := Go.ChangeMaps.open_string Tryd.underlying9 (hval 0 9 v0 rfl rfl) h0
 clear hA0 hval0
 simp only [ZjR, Zdx] at hW' hlt
 have htab := ZEB hL
 obtain ⟨q, hq, ex, rfl⟩ := N2.Zfo x0  true (N2.progPlaces_val x0 )
 refine (ZyY N2.fspec (Tabs.old htab) hq rfl ?_).mono ?_
 ·intro i x v hx hv
  match i with
  | 0 =>
   simp only [Zdw, q1_] at hx
   have hv' : Value.string x0 = v := by simpa using hv
   subst hx; subst hv'
   exact ⟨.p _ _ (.v _ rfl), rfl⟩
  | i + 1 => simp at hx
 ·rintro e W' ⟨v, S', β', rfl, bel, hr⟩
  have := Z4Z hr
  subst this
  refine ⟨_, rfl, _, _, _, [], _, [], hW', trodAll_mk1 (shut_bool Tryd.underlying4 _), trodAll_cons_mk (Go.ChangeMaps.shut_string Tryd.underlying9 w0) (trodAll_mk0), rfl, ?_, fun h => by cases h⟩
  exact bel.frame _
theorem ZoI : Rows.ProgPlacesSaid :=
 OpenClaim.holds_of_wide 3 Tryd.f3 rfl rfl rfl rfl rfl rfl rfl ⟨rfl, rfl, rfl, rfl, rfl⟩ rfl rfl rfl rfl rfl (by kernel_rfl) Tryd.func3 (by kernel_rfl)
  (of_decide_eq_true (by kernel_rfl)) (by unfold Func.isWrapper; first | (rw [if_pos (by decide +kernel)]; kernel_rfl) | (rw [if_neg (by decide +kernel)]; exact ⟨rfl, rfl⟩))
  (fun os started H enc _ => ZnV os started H enc)
theorem progPlaces_card : Rows.ProgPlacesCardSaid :=
 Claim7.holds_tied_plain_at .later [] [.data, .pinned] true (true, "e07b5c6b66d562b60017c6efe40723018a2d94e29c465ada8e23d3efa3048f54") false
  ZoI (fun _ h => by cases h) (by kernel_rfl) (fun _ h => by cases h) progPlaces_row_tie rfl ⟨rfl, rfl⟩ (by kernel_rfl) rfl
  (fun f fn hf hfn => by
   obtain rfl : f = 3 := Option.some.inj ((show Tryd.prog.funcNamed "colander/colanderlaw05.ProgPlaces" = some 3 by kernel_rfl).symm.trans hf) |>.symm
   obtain rfl : fn = Tryd.f3 := (Option.some.inj (Tryd.func3.symm.trans hfn)).symm
   exact ⟨by kernel_rfl, fun j t ht => by
    rw [Tryd.params3] at ht
    have hm : t ∈ [9] := by simpa using Zvp ht
    have hall : ([9].all fun u => !Tryd.prog.wantsStandIn u) = true := by kernel_rfl
    exact (show Tryd.prog.wantsStandIn t = false by simpa using Z8j.1 hall t hm)⟩)
  (by kernel_rfl)
#print axioms progPlaces_card
end Go.Proofs.YtocikhhkicahoaaDoor
end
