/- ShapeDeep: true at every input; the input reads as it did. Condition: the tables lie as they are laid, which the card ties. -/
import Derived.Test.YtadodmjdkphddaaDoorPlainC
import Derived.Test.YtadodmjdkphddaaDoorRow
import Derived.Test.YtadodmjdkphddaaDoorCards
import Derived.Test.YtadodmjdkphddaaDoorTie
import Derived.SevenTiedAt

section
set_option linter.unusedSimpArgs false
set_option linter.unusedVariables false
namespace Go.Proofs.YtadodmjdkphddaaDoor.N2
open Go Go.Abs Go.Proofs.Unis Go.Proofs.Norm
set_option maxRecDepth 100000
def dig2 (k : Int) : List UInt8 := [UInt8.ofNat (48 + k.toNat / 10), UInt8.ofNat (48 + k.toNat % 10)]
theorem strI_dig {k : Int} (h0 : 0 ≤ k) (h1 : k ≤ 64) : bytes (strI [(IntKind.u8.wrap (IntKind.i64.wrap (48 + (IntKind.i64.wrap (Int.tdiv k 10))))), (IntKind.u8.wrap (IntKind.i64.wrap (48 + (Int.tmod k 10))))]) = dig2 k := by
 obtain ⟨n, rfl⟩ : ∃ n : Nat, k = n := ⟨k.toNat, by omega⟩
 have hn : n ≤ 64 := by omega
 have : ∀ m : Fin 65, bytes (strI [(IntKind.u8.wrap (IntKind.i64.wrap (48 + (IntKind.i64.wrap (Int.tdiv (m.val : Int) 10))))), (IntKind.u8.wrap (IntKind.i64.wrap (48 + (Int.tmod (m.val : Int) 10))))]) = dig2 (m.val : Int) := by decide
 exact this ⟨n, by omega⟩
theorem dig_units {k : Int} (h0 : 0 ≤ k) (h1 : k ≤ 64) (l : List UInt8) : unis (dig2 k ++ l) = (48 + k / 10, 1) :: (48 + k % 10, 1) :: unis l := by
 obtain ⟨n, rfl⟩ : ∃ n : Nat, k = n := ⟨k.toNat, by omega⟩
 have hn : n ≤ 64 := by omega
 have a1 : (UInt8.ofNat (48 + n / 10)).toNat = 48 + n / 10 := by rw [UInt8.toNat_ofNat']; omega
 have a2 : (UInt8.ofNat (48 + n % 10)).toNat = 48 + n % 10 := by rw [UInt8.toNat_ofNat']; omega
 show unis (UInt8.ofNat (48 + n / 10) :: UInt8.ofNat (48 + n % 10) :: l) = _
 rw [unis_ascii (by omega), unis_ascii (by omega), a1, a2]
 congr 2
def Deep (us : List Un) (i : Nat) (n : Z3) : Prop := ∀ (d : Nat) (t : List Un) (pos : Int), i ≤ d → Tail t → ∃ pos', pAlt d ⟨us ++ t, pos, 0, []⟩ = .ok n ⟨t, pos', 0, []⟩
theorem stops_tail {t : List Un} (h : Tail t) : stops t = true := by
 rcases h with rfl | ⟨n, v, rfl⟩ <;> rfl
theorem pk_tail {t : List Un} (h : Tail t) {c : Int} (h1 : c ≠ 41) (pos gr : Int) (rf : List Zq) : wd [c] ⟨t, pos, gr, rf⟩ = none := by
 unfold wd
 rcases h with rfl | ⟨n, v, rfl⟩
 ·rfl
 ·simp only [isW]
  rw [if_neg (fun e => h1 e.symm)]
theorem alt1_one {P : Int → St → Out (Z3 × Bool)} {us t : List Un} {pos p1 p2 : Int} {m : Z3 × Bool} {n : Z3} {s1 : St} (hs : stops us = false) (ha : pAtom P ⟨us, pos, 0, []⟩ = .ok m s1) (hr : pRep m.1 m.2 s1 = .ok n ⟨t, p2, 0, []⟩) (ht : Tail t) :
  pAlt1 P ⟨us, pos, 0, []⟩ = .ok n ⟨t, p2, 0, []⟩ := by
 unfold pAlt1 pCat
 obtain ⟨k, hk⟩ : ∃ k, us.length = k + 1 := by
  cases us with
  | nil => simp [stops] at hs
  | cons x r => exact ⟨r.length, rfl⟩
 dsimp only
 rw [hk, cat_step hs ha hr, cat_end (stops_tail ht)]
 dsimp only [Out.bind]
 unfold pAltL
 rw [pk_tail ht (by decide)]
 rfl
theorem deep_a : Deep [(97, 1)] 0 (setN [(97, 97)]) := by
 intro d t pos _ ht
 have ha : ∀ P : Int → St → Out (Z3 × Bool), pAtom P ⟨(97, 1) :: t, pos, 0, []⟩ = .ok (setN [(97, 97)], true) ⟨t, pos + 1, 0, []⟩ := fun P => rfl
 have hr : pRep (setN [(97, 97)]) true ⟨t, pos + 1, 0, []⟩ = .ok (setN [(97, 97)]) ⟨t, pos + 1, 0, []⟩ := by
  apply rep_none
  rcases ht with rfl | ⟨n, v, rfl⟩
  ·exact .inl rfl
  ·exact .inr (by show (41 : Int) ≠ 42 ∧ (41 : Int) ≠ 43 ∧ (41 : Int) ≠ 63 ∧ (41 : Int) ≠ 123; decide)
 refine ⟨pos + 1, ?_⟩
 cases d with
 | zero => exact alt1_one rfl (ha _) hr ht (p1 := 0)
 | succ d => exact alt1_one rfl (ha _) hr ht (p1 := 0)
theorem num_two {a b : Int} (ha : 48 ≤ a ∧ a ≤ 57) (hb : 48 ≤ b ∧ b ≤ 57) (us : List Un) (pos gr : Int) (rf : List Zq) : pNum ⟨(a, 1) :: (b, 1) :: us, pos, gr, rf⟩ = (10 * (a - 48) + b - 48, ⟨us, pos + 1 + 1, gr, rf⟩) := by
 unfold pNum
 have d1 : digit a = true := digit_range.2 ha
 have d2 : digit b = true := digit_range.2 hb
 show (if digit a = true then (if digit b = true then _ else _) else _) = _
 rw [if_pos d1, if_pos d2]
 rfl
theorem deep_rep {us : List Un} {i : Nat} {n : Z3} {k : Int} (h : Deep us i n) (h0 : 0 ≤ k) (h1 : k ≤ 64) :
  Deep ((40, 1) :: (63, 1) :: (58, 1) :: (us ++ [(41, 1), (123, 1), (48 + k / 10, 1), (48 + k % 10, 1), (125, 1)])) (i + 1) ⟨4, k, k, 0, 0, [], [n]⟩ := by
 intro d t pos hd ht
 obtain ⟨d, rfl⟩ : ∃ e, d = e + 1 := ⟨d - 1, by omega⟩
 have e1 : ((40, 1) :: (63, 1) :: (58, 1) :: (us ++ [(41, 1), (123, 1), (48 + k / 10, 1), (48 + k % 10, 1), (125, 1)]) : List Un) ++ t = (40, 1) :: (63, 1) :: (58, 1) :: (us ++ (41, 1) :: (123, 1) :: (48 + k / 10, 1) :: (48 + k % 10, 1) :: (125, 1) :: t) := by simp
 rw [e1]
 obtain ⟨p1, hp⟩ := h d ((41, 1) :: (123, 1) :: (48 + k / 10, 1) :: (48 + k % 10, 1) :: (125, 1) :: t) (pos + 1 + (2 : Nat)) (by omega) (.inr ⟨1, _, rfl⟩)
 have ha := atom_wrap d (us ++ (41, 1) :: (123, 1) :: (48 + k / 10, 1) :: (48 + k % 10, 1) :: (125, 1) :: t) pos 0 []
 rw [inP_ok hp rfl] at ha
 dsimp only at ha
 have hr : ∃ p2, pRep n true ⟨(123, 1) :: (48 + k / 10, 1) :: (48 + k % 10, 1) :: (125, 1) :: t, p1 + (1 : Nat), 0, []⟩ = .ok ⟨4, k, k, 0, 0, [], [n]⟩ ⟨t, p2, 0, []⟩ := by
  have w1 : wd [123] ⟨(123, 1) :: (48 + k / 10, 1) :: (48 + k % 10, 1) :: (125, 1) :: t, p1 + (1 : Nat), 0, []⟩ = some ⟨(48 + k / 10, 1) :: (48 + k % 10, 1) :: (125, 1) :: t, p1 + (1 : Nat) + (1 : Nat), 0, []⟩ := rfl
  have hn := num_two (a := 48 + k / 10) (b := 48 + k % 10) (by omega) (by omega) ((125, 1) :: t) (p1 + (1 : Nat) + (1 : Nat)) 0 []
  have hv : 10 * (48 + k / 10 - 48) + (48 + k % 10) - 48 = k := by omega
  rw [hv] at hn
  have hc : pCounts (p1 + (1 : Nat)) ⟨(48 + k / 10, 1) :: (48 + k % 10, 1) :: (125, 1) :: t, p1 + (1 : Nat) + (1 : Nat), 0, []⟩ = .ok (k, k) ⟨t, p1 + (1 : Nat) + (1 : Nat) + 1 + 1 + (1 : Nat), 0, []⟩ := by
   unfold pCounts
   rw [hn]
   rw [show wd [44] ⟨(125, 1) :: t, p1 + (1 : Nat) + (1 : Nat) + 1 + 1, 0, []⟩ = none from rfl]
   dsimp only
   unfold pFin
   rw [if_neg (by omega)]
   rfl
  refine ⟨p1 + (1 : Nat) + (1 : Nat) + 1 + 1 + (1 : Nat), ?_⟩
  unfold pRep
  rw [show wd [42] ⟨(123, 1) :: (48 + k / 10, 1) :: (48 + k % 10, 1) :: (125, 1) :: t, p1 + (1 : Nat), 0, []⟩ = none from rfl, show wd [43] ⟨(123, 1) :: (48 + k / 10, 1) :: (48 + k % 10, 1) :: (125, 1) :: t, p1 + (1 : Nat), 0, []⟩ = none from rfl,
   show wd [63] ⟨(123, 1) :: (48 + k / 10, 1) :: (48 + k % 10, 1) :: (125, 1) :: t, p1 + (1 : Nat), 0, []⟩ = none from rfl, w1]
  dsimp only
  rw [hc]
  dsimp only [Out.bind]
  unfold pQuant
  rw [if_neg (by decide), pk_tail ht (by decide), pk_tail ht (by decide)]
 obtain ⟨p2, hr⟩ := hr
 exact ⟨p2, alt1_one (p1 := 0) rfl ha hr ht⟩
def ShW (v : Sh) (w : Int) : Prop := v.lo = w ∧ v.sz = w ∧ (v.hi = w ∨ v.hi < 0) ∧ v.bd = true
theorem shw_rep {v : Sh} {w k : Int} (hv : v.Ok) (h : ShW v w) (h0 : 0 ≤ k) (h1 : k ≤ 64) : ShW ⟨min (v.lo * k) 1048576, timesF v.hi k, repZ k k 0 v.sz, v.bd⟩ (min (w * k) 1048576) := by
 obtain ⟨q1, q2, q3, q4⟩ := h
 obtain ⟨hw, hz⟩ := hv
 unfold Wok at hw
 have hb := mul_bound (a := w) (b := k) (x := 1048576) (y := 64) (by omega) (by omega)
 refine ⟨by rw [q1], ?_, ?_, q4⟩
 ·show repZ k k 0 v.sz = _
  unfold repZ
  rw [if_neg (by omega), if_neg (by omega), q2, Int.sub_self, Int.zero_mul, Int.mul_comm]
  omega
 ·show timesF v.hi k = _ ∨ timesF v.hi k < 0
  unfold timesF
  by_cases c1 : v.hi = 0 ∨ k = 0
  ·rw [if_pos c1]
   left
   have : w * k = 0 := by
    rcases c1 with c | c
    ·have : w = 0 := by omega
     rw [this, Int.zero_mul]
    ·rw [c, Int.mul_zero]
   omega
  rw [if_neg c1]
  by_cases c2 : v.hi < 0 ∨ k < 0
  ·rw [if_pos c2]; right; omega
  rw [if_neg c2]
  have e : v.hi = w := by omega
  rw [e]
  split
  ·right; omega
  ·left; omega
theorem deep_end {x : ByteArray} {i : Nat} {n : Z3} {v : Sh} {w : Int} (hi : i ≤ 25) (hl : (bytes x).length ≤ 256) (hd : Deep (unis (bytes x)) i n) (hf : wd [40, 63, 105, 41] ⟨unis (bytes x), 0, 0, []⟩ = none) (hs : Shp n v) (hw : ShW v w) : Z2X x w = some true := by
 obtain ⟨p, hp⟩ := hd 32 [] 0 (by omega) (.inl rfl)
 rw [List.append_nil] at hp
 have hq : parseF x = (⟨n, 0, false⟩, ⟨0, 0⟩) := by
  rw [parseF_small hl]
  unfold pParse
  rw [hf]
  dsimp only
  rw [hp]
  rfl
 obtain ⟨q1, q2, q3, q4⟩ := hw
 unfold Z2X
 rw [parse_val, Option.bind_some, hq, if_neg (by simp)]
 unfold Z3H
 rw [width_shp hs, Option.bind_some, size_shp hs, Option.bind_some, if_neg (bne_neg q2)]
 unfold Z3F
 rw [check_shp hs, Option.bind_some]
 have hc : ((chkF v == 28) == decide (1997 < w)) = true := by
  unfold chkF
  rw [q4, if_neg (by simp), q2]
  by_cases c : 1997 < w
  ·rw [if_pos c, decide_eq_true c]; rfl
  ·rw [if_neg c, decide_eq_false c]; rfl
 dsimp only
 rw [if_pos hc, if_pos (beq_pos q1)]
 rcases q3 with c | c
 ·rw [if_pos (beq_pos c)]
 ·by_cases c2 : v.hi = w
  ·rw [if_pos (beq_pos c2)]
  ·rw [if_neg (beq_neg c2), decide_eq_true c]
theorem deep_loop (L : List Int) (hL : L.length ≤ 25) : ∀ (m i : Nat) (x : ByteArray) (n : Z3) (v : Sh) (w : Int), i + m = L.length → (bytes x).length = 1 + 8 * i → Deep (unis (bytes x)) i n → wd [40, 63, 105, 41] ⟨unis (bytes x), 0, 0, []⟩ = none → Shp n v → ShW v w →
  Z38 x w L (L.length : Int) (i : Int) = some true := by
 intro m
 induction m with
 | zero =>
  intro i x n v w h hl hd hf hs hw
  apply Z6c
  unfold Z33
  rw [if_neg (dc_neg (by omega))]
  exact deep_end (by omega) (by omega) hd hf hs hw
 | succ m ih =>
  intro i x n v w h hl hd hf hs hw
  have hil : i < L.length := by omega
  apply Z6c
  unfold Z33 Z44 Z2W
  rw [if_pos (dc_pos (by omega)), lget_nat, List.getElem?_eq_getElem hil, Option.bind_some]
  generalize L[i] = k
  by_cases c1 : k < 0
  ·rw [if_pos (dc_pos c1)]
  by_cases c2 : 64 < k
  ·rw [if_neg (dc_neg c1), if_pos (dc_pos c2)]
  rw [if_neg (dc_neg c1), if_neg (dc_neg c2)]
  unfold Z3L
  have b1 : bytes (ByteArray.mk #[40, 63, 58]) = [40, 63, 58] := rfl
  have b2 : bytes (ByteArray.mk #[41, 123]) = [41, 123] := rfl
  have b3 : bytes (ByteArray.mk #[125]) = [125] := rfl
  have hsd := strI_dig (k := k) (by omega) (by omega)
  generalize hz : strI [(IntKind.u8.wrap (IntKind.i64.wrap (48 + (IntKind.i64.wrap (Int.tdiv k 10))))), (IntKind.u8.wrap (IntKind.i64.wrap (48 + (Int.tmod k 10))))] = z at hsd
  have eb : bytes (ByteArray.mk #[40, 63, 58] ++ x ++ ByteArray.mk #[41, 123] ++ z ++ ByteArray.mk #[125]) = [40, 63, 58] ++ (bytes x ++ (41 :: 123 :: (dig2 k ++ [125]))) := by
   rw [bytes_add, bytes_add, bytes_add, bytes_add, b1, b2, b3, hsd]
   simp
  have ld : (dig2 k).length = 2 := rfl
  have lz : (bytes z).length = 2 := by rw [hsd]; rfl
  rw [sadd_ok (by rw [b1]; simp only [List.length_cons, List.length_nil]; omega), Option.bind_some, sadd_ok (by rw [bytes_add, List.length_append, b1, b2]; simp only [List.length_cons, List.length_nil]; omega), Option.bind_some,
   sadd_ok (by rw [bytes_add, bytes_add, List.length_append, List.length_append, b1, b2, lz]; simp only [List.length_cons, List.length_nil]; omega), Option.bind_some,
   sadd_ok (by rw [bytes_add, bytes_add, bytes_add, List.length_append, List.length_append, List.length_append, b1, b2, b3, lz]; simp only [List.length_cons, List.length_nil]; omega), Option.bind_some]
  unfold Z3E
  have ok := shp_ok hs
  have hww := hw
  obtain ⟨q1, q2, q3, q4⟩ := hww
  obtain ⟨ow, oz⟩ := ok
  have hb := mul_bound (a := w) (b := k) (x := 1048576) (y := 64) (by omega) (by omega)
  rw [wrap_i64 (n := w * k) (by omega) (by omega), wrap_i64 (n := (i : Int) + 1) (by omega) (by omega)]
  have eu : unis (bytes (ByteArray.mk #[40, 63, 58] ++ x ++ ByteArray.mk #[41, 123] ++ z ++ ByteArray.mk #[125])) = (40, 1) :: (63, 1) :: (58, 1) :: (unis (bytes x) ++ [(41, 1), (123, 1), (48 + k / 10, 1), (48 + k % 10, 1), (125, 1)]) := by
   rw [eb, unis_ahead _ _ (by decide), unis_add (fresh_cons (by decide)), unis_ascii (by decide), unis_ascii (by decide), dig_units (by omega) (by omega), unis_ascii (by decide), unis_nil]
   rfl
  refine ih (i + 1) _ ⟨4, k, k, 0, 0, [], [n]⟩ _ _ (by omega) ?_ ?_ ?_ (.rep k k 0 n v (by omega) (by omega) hs) (shw_rep ⟨ow, oz⟩ hw (by omega) (by omega))
  ·rw [eb]
   simp only [List.length_append, List.length_cons, List.length_nil, ld]
   omega
  ·rw [eu]
   exact deep_rep hd (by omega) (by omega)
  ·rw [eu]
   rfl
theorem shapeDeep_val (L : List Int) : Z5P L = some true := by
 apply Z9E
 unfold Z4F
 rw [anchor4_val, Option.bind_some, if_neg (by simp)]
 unfold Z41
 by_cases h : 25 < (L.length : Int)
 ·rw [if_pos (dc_pos h)]
 ·rw [if_neg (dc_neg h)]
  unfold Z3U
  exact deep_loop L (by omega) L.length 0 _ (setN [(97, 97)]) ⟨1, 1, 1, true⟩ 1 (by omega) rfl deep_a rfl (.set [(97, 97)]) ⟨rfl, rfl, .inl rfl, rfl⟩
end Go.Proofs.YtadodmjdkphddaaDoor.N2
end
section
set_option linter.unusedSimpArgs false
set_option linter.unusedVariables false
namespace Go.Proofs.YtadodmjdkphddaaDoor
open Go Go.Abs Go.RowKit Go.ChangeShapes Go.WideShapes Go.ChangeAt
set_option maxRecDepth 100000 in
theorem shapeDeep_lifted (os : Os) (started : os.Started) (H : Type) (enc : TypeId × Value → H) :
  ReturnsInHanded {} Tryd.checked os 12 .any (fun w args => (Rows.shapeDeepSpec.pre enc Tryd.prog Tryd.f12 [] false w args ∧ laidMetH Tryd.prog laidL w) ∧ sizedMet enc Tryd.prog Tryd.f12 (OpenSpec.ofChange Rows.shapeDeepSpec) false w args)
   (Rows.shapeDeepSpec.post enc Tryd.prog Tryd.f12 false true false false) := by
 refine returnsInHanded_of_change_and (C := Tryd.checked) (X := fun w _ => laidMetH Tryd.prog laidL w) (fun _ _ _ hh h => h.of_heap hh) own started (by kernel_rfl) Tryd.func12
  (ChangeSpec.witness_shaped (enc := enc) (C := Tryd.checked) (os := os) (X := fun w _ => laidMetH Tryd.prog laidL w) false (laidWorld os) #[.slice none 0 0] 8 rfl (World.shaped_of_RefB (by kernel_rfl) (by kernel_rfl)) (by kernel_rfl) (by kernel_rfl) (by kernel_rfl) (laid_met os _)) ?_
 intro W base args ds gs before hval0 hW _ _ hL _
 have hval : ∀ (j : Nat) t v, Tryd.f12.params[j]? = some t → args[j]? = some v → Value.okWide Tryd.prog W .any base t v := hval0
 have hW' := hW
 have hlt := fun p hp => hW.lt p hp
 obtain ⟨p, q, hA0, hV, rfl, hfz, hnd⟩ := hW
 have hA : DataW.TrodAll enc Tryd.prog W 0 (fun _ => true) true Tryd.f12.params.toList args.toList ds p := hA0
 rw [Tryd.params12] at hA hval
 obtain ⟨v0, d0, rfl, rfl, h0⟩ := trodAll_one hA
 obtain ⟨rfl, rfl⟩ := trodVars_none hV
 obtain ⟨x0, w0, r0⟩ := row_ints (hval 0 46 v0 rfl rfl) h0
 clear hA0 hval0
 simp only [List.append_nil, List.nil_append] at hW' hlt
 have htab := tabs_of hL
 obtain ⟨q, hq, ex, rfl⟩ := N2.Z9I x0 .sh true (N2.shapeDeep_val x0 )
 refine (calls_old N2.fspec (Tabs.old htab) hq rfl ?_).mono ?_
 ·intro i x v hx hv
  match i with
  | 0 =>
   simp only [List.getElem?_cons_zero, Option.some.injEq] at hx
   have hv' : v0 = v := by simpa using hv
   subst hx; subst hv'
   exact ⟨.p _ _ r0, rfl⟩
  | i + 1 => simp at hx
 ·rintro e W' ⟨v, S', β', rfl, bel, hr⟩
  have := scal_rel hr
  subst this
  refine ⟨_, rfl, _, _, _, [], _, [], hW', trodAll_mk1 (shut_bool Tryd.underlying4 _), trodAll_cons_mk (Below.trod laidOut (by kernel_rfl) (of_decide_eq_true (by kernel_rfl)) h0 bel (fun x hx => hlt x (by simp [hx]))) (trodAll_mk0), rfl, ?_, fun h => by cases h⟩
  exact bel.frame _
theorem shapeDeep_holds : Rows.ShapeDeepSaid :=
 OpenClaim.holds_of_wide 12 Tryd.f12 rfl rfl rfl rfl rfl rfl rfl ⟨rfl, rfl, rfl, rfl, rfl⟩ rfl rfl rfl rfl rfl (by kernel_rfl) Tryd.func12 (by kernel_rfl)
  (of_decide_eq_true (by kernel_rfl)) (by unfold Func.isWrapper; first | (rw [if_pos (by decide +kernel)]; kernel_rfl) | (rw [if_neg (by decide +kernel)]; exact ⟨rfl, rfl⟩))
  (fun os started H enc _ => shapeDeep_lifted os started H enc)
theorem shapeDeep_card : Rows.ShapeDeepCardSaid :=
 Claim7.holds_tied_plain_at .later [] [.data, .pinned] true (true, "aa0ed56c3559362fe8994ee982c3505cd6e490b9947e437ca456bdc414569078") false
  shapeDeep_holds (fun _ h => by cases h) (by kernel_rfl) (fun _ h => by cases h) shapeDeep_row_tie rfl ⟨rfl, rfl⟩ (by kernel_rfl) rfl
  (fun f fn hf hfn => by
   obtain rfl : f = 12 := Option.some.inj ((show Tryd.prog.funcNamed "colander/colanderlaw04.ShapeDeep" = some 12 by kernel_rfl).symm.trans hf) |>.symm
   obtain rfl : fn = Tryd.f12 := (Option.some.inj (Tryd.func12.symm.trans hfn)).symm
   exact ⟨by kernel_rfl, fun j t ht => by
    rw [Tryd.params12] at ht
    have hm : t ∈ [46] := by simpa using Array.mem_of_getElem? ht
    have hall : ([46].all fun u => !Tryd.prog.wantsStandIn u) = true := by kernel_rfl
    exact (show Tryd.prog.wantsStandIn t = false by simpa using List.all_eq_true.1 hall t hm)⟩)
  (by kernel_rfl)
#print axioms shapeDeep_card
end Go.Proofs.YtadodmjdkphddaaDoor
end
