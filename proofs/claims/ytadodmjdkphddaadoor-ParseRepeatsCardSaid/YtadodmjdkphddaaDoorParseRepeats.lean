/- ParseRepeats: true at every input; the input reads as it did. Condition: the tables lie as they are laid, which the card ties. -/
import Derived.Test.YtadodmjdkphddaaDoorPlainC
import Derived.Test.YtadodmjdkphddaaDoorPlainB
import Derived.Test.YtadodmjdkphddaaDoorRow
import Derived.Test.YtadodmjdkphddaaDoorCards
import Derived.Test.YtadodmjdkphddaaDoorTie
import Derived.SevenTiedAt

section
set_option linter.unusedSimpArgs false
set_option linter.unusedVariables false
namespace Go.Proofs.YtadodmjdkphddaaDoor.N2
open Go Go.Abs Go.Proofs.Unis Go.Proofs.Norm
set_option maxRecDepth 100000
theorem same_one (r : Z7) : Z3N [r] [r] = some true := by
 apply Z9w
 unfold Z4K Z49
 rw [if_neg (bne_neg rfl)]
 apply Z64
 unfold Z3a Z48 Z44
 have e : lget [r] 0 = some r := rfl
 rw [if_pos (dc_pos (by simp)), e, Option.bind_some, Option.bind_some, if_neg (by simp), wrap_i64 (by decide) (by decide)]
 apply Z64
 unfold Z3a Z4c
 rw [if_neg (dc_neg (by simp))]
def digB (k : Int) : List UInt8 := [UInt8.ofNat (48 + k.toNat / 10), UInt8.ofNat (48 + k.toNat % 10)]
theorem two_val {k : Int} (h0 : 0 ≤ k) (h1 : k ≤ 99) : ∃ z, Z4A k = some z ∧ bytes z = digB k := by
 refine ⟨_, Zas _ rfl, ?_⟩
 obtain ⟨n, rfl⟩ : ∃ n : Nat, k = n := ⟨k.toNat, by omega⟩
 have hn : n ≤ 99 := by omega
 have : ∀ m : Fin 100, bytes (strI [(IntKind.u8.wrap (IntKind.i64.wrap (48 + (IntKind.i64.wrap (Int.tdiv (m.val : Int) 10))))), (IntKind.u8.wrap (IntKind.i64.wrap (48 + (Int.tmod (m.val : Int) 10))))]) = digB (m.val : Int) := by decide
 exact this ⟨n, by omega⟩
theorem digB_units {k : Int} (h0 : 0 ≤ k) (h1 : k ≤ 99) (l : List UInt8) : unis (digB k ++ l) = (48 + k / 10, 1) :: (48 + k % 10, 1) :: unis l := by
 obtain ⟨n, rfl⟩ : ∃ n : Nat, k = n := ⟨k.toNat, by omega⟩
 have hn : n ≤ 99 := by omega
 have a1 : (UInt8.ofNat (48 + n / 10)).toNat = 48 + n / 10 := by rw [UInt8.toNat_ofNat']; omega
 have a2 : (UInt8.ofNat (48 + n % 10)).toNat = 48 + n % 10 := by rw [UInt8.toNat_ofNat']; omega
 show unis (UInt8.ofNat (48 + n / 10) :: UInt8.ofNat (48 + n % 10) :: l) = _
 rw [unis_ascii (by omega), unis_ascii (by omega), a1, a2]
 congr 2
theorem num2 {k : Int} (h0 : 0 ≤ k) (h1 : k ≤ 99) (us : List Un) (pos gr : Int) (rf : List Zq) : pNum ⟨(48 + k / 10, 1) :: (48 + k % 10, 1) :: us, pos, gr, rf⟩ = (k, ⟨us, pos + 1 + 1, gr, rf⟩) := by
 have d1 : digit (48 + k / 10) = true := digit_range.2 (by omega)
 have d2 : digit (48 + k % 10) = true := digit_range.2 (by omega)
 have hv : 10 * (48 + k / 10 - 48) + (48 + k % 10) - 48 = k := by omega
 unfold pNum
 show (if digit (48 + k / 10) = true then (if digit (48 + k % 10) = true then _ else _) else _) = _
 rw [if_pos d1, if_pos d2]
 show (10 * (48 + k / 10 - 48) + (48 + k % 10) - 48, _) = _
 rw [hv]
 rfl
def cntU (lo hi : Int) (t : List Un) : List Un := (123, 1) :: (48 + lo / 10, 1) :: (48 + lo % 10, 1) :: (44, 1) :: ((if 0 ≤ hi then [(48 + hi / 10, 1), (48 + hi % 10, 1)] else []) ++ (125, 1) :: t)
def offC (lo hi : Int) : Prop := 64 < lo ∨ 64 < hi ∨ (0 ≤ hi ∧ hi < lo)
instance (lo hi : Int) : Decidable (offC lo hi) := by unfold offC; exact inferInstance
theorem counts_reps {lo hi : Int} (h0 : 0 ≤ lo) (h1 : lo ≤ 99) (h2 : -1 ≤ hi) (h3 : hi ≤ 99) (t : List Un) (p pos : Int) :
  (offC lo hi → pCounts p ⟨(cntU lo hi t).tail, pos, 0, []⟩ = .bad 23 p) ∧
  (¬ offC lo hi → ∃ pos', pCounts p ⟨(cntU lo hi t).tail, pos, 0, []⟩ = .ok (lo, hi) ⟨t, pos', 0, []⟩) := by
 have e0 : (cntU lo hi t).tail = (48 + lo / 10, 1) :: (48 + lo % 10, 1) :: (44, 1) :: ((if 0 ≤ hi then [(48 + hi / 10, 1), (48 + hi % 10, 1)] else []) ++ (125, 1) :: t) := rfl
 rw [e0]
 unfold pCounts
 rw [num2 h0 h1]
 dsimp only
 rw [show ∀ (us : List Un) (q : Int), wd [44] ⟨(44, 1) :: us, q, 0, []⟩ = some ⟨us, q + (1 : Nat), 0, []⟩ from fun _ _ => rfl]
 dsimp only
 by_cases c : 0 ≤ hi
 ·rw [if_pos c]
  have e1 : ([(48 + hi / 10, 1), (48 + hi % 10, 1)] ++ (125, 1) :: t : List Un) = (48 + hi / 10, 1) :: (48 + hi % 10, 1) :: (125, 1) :: t := rfl
  rw [e1, num2 c h3]
  dsimp only
  rw [if_neg (by omega)]
  unfold pFin offC
  refine ⟨fun h => by rw [if_pos (by omega)], fun h => ?_⟩
  rw [if_neg (by omega)]
  exact ⟨_, rfl⟩
 ·rw [if_neg c, List.nil_append]
  obtain rfl : hi = -1 := by omega
  rw [show ∀ (q : Int), pNum ⟨(125, 1) :: t, q, 0, []⟩ = (-1, ⟨(125, 1) :: t, q, 0, []⟩) from fun _ => rfl]
  dsimp only
  rw [if_pos ⟨by decide, h0⟩]
  rw [show ∀ (q : Int), wd [125] ⟨(125, 1) :: t, q, 0, []⟩ = some ⟨t, q + (1 : Nat), 0, []⟩ from fun _ => rfl]
  dsimp only
  unfold offC
  refine ⟨fun h => by rw [if_neg (by omega)], fun h => ?_⟩
  rw [if_pos (by omega)]
  exact ⟨_, rfl⟩
def modU (m : Int) : List Un := if m = 1 then [(63, 1)] else if m = 2 then [(43, 1)] else []
theorem rep_reps {lo hi m : Int} (h0 : 0 ≤ lo) (h1 : lo ≤ 99) (h2 : -1 ≤ hi) (h3 : hi ≤ 99) (hm : m = 0 ∨ m = 1 ∨ m = 2) (kid : Z8) (p : Int) :
  (offC lo hi → pRep kid true ⟨cntU lo hi (modU m), p, 0, []⟩ = .bad 23 p) ∧
  (¬ offC lo hi → ∃ pos', pRep kid true ⟨cntU lo hi (modU m), p, 0, []⟩ = .ok ⟨4, lo, hi, m, 0, [], [kid]⟩ ⟨[], pos', 0, []⟩) := by
 obtain ⟨k1, k2⟩ := counts_reps h0 h1 h2 h3 (modU m) p (p + (1 : Nat))
 have w : wd [42] ⟨cntU lo hi (modU m), p, 0, []⟩ = none ∧ wd [43] ⟨cntU lo hi (modU m), p, 0, []⟩ = none ∧ wd [63] ⟨cntU lo hi (modU m), p, 0, []⟩ = none ∧ wd [123] ⟨cntU lo hi (modU m), p, 0, []⟩ = some ⟨(cntU lo hi (modU m)).tail, p + (1 : Nat), 0, []⟩ := ⟨rfl, rfl, rfl, rfl⟩
 unfold pRep
 rw [w.1, w.2.1, w.2.2.1, w.2.2.2]
 dsimp only
 refine ⟨fun h => by rw [k1 h]; rfl, fun h => ?_⟩
 obtain ⟨q, hq⟩ := k2 h
 rw [hq]
 dsimp only [Out.bind]
 unfold pQuant
 rw [if_neg (by decide)]
 rcases hm with rfl | rfl | rfl
 ·exact ⟨q, rfl⟩
 ·exact ⟨_, rfl⟩
 ·exact ⟨_, rfl⟩
def selfC (u : Int) : Prop := alnum u = true ∨ 128 ≤ u
theorem self_off {u : Int} (h : selfC u) : u ≠ 46 ∧ u ≠ 94 ∧ u ≠ 36 ∧ u ≠ 92 ∧ u ≠ 91 ∧ u ≠ 40 ∧ u ≠ 42 ∧ u ≠ 43 ∧ u ≠ 63 ∧ u ≠ 123 ∧ u ≠ 93 ∧ u ≠ 125 ∧ u ≠ 124 ∧ u ≠ 41 := by
 have : (48 ≤ u ∧ u ≤ 57) ∨ (65 ≤ u ∧ u ≤ 90) ∨ (97 ≤ u ∧ u ≤ 122) ∨ 128 ≤ u := by
  rcases h with h | h
  ·unfold alnum at h
   simp only [Bool.or_eq_true, decide_eq_true_eq] at h
   omega
  ·omega
 omega
theorem atom_self {P : Int → St → Out (Z8 × Bool)} {u k : Int} (h : selfC u) (t : List Un) (pos : Int) : pAtom P ⟨(u, k) :: t, pos, 0, []⟩ = .ok (setN [(u, u)], true) ⟨t, pos + k, 0, []⟩ := by
 have o := self_off h
 unfold pAtom
 have e : peek ((u, k) :: t) = u := rfl
 dsimp only
 rw [e, if_neg (by omega), if_neg (by omega), if_neg (by omega), if_neg (by omega), if_neg (by omega), if_neg (by omega), if_neg (by omega), if_neg (by omega)]
 rfl
theorem alt_reps {lo hi m u k : Int} (hu : selfC u) (h0 : 0 ≤ lo) (h1 : lo ≤ 99) (h2 : -1 ≤ hi) (h3 : hi ≤ 99) (hm : m = 0 ∨ m = 1 ∨ m = 2) (P : Int → St → Out (Z8 × Bool)) :
  (offC lo hi → pAlt1 P ⟨(u, k) :: cntU lo hi (modU m), 0, 0, []⟩ = .bad 23 (0 + k)) ∧
  (¬ offC lo hi → ∃ pos', pAlt1 P ⟨(u, k) :: cntU lo hi (modU m), 0, 0, []⟩ = .ok ⟨4, lo, hi, m, 0, [], [setN [(u, u)]]⟩ ⟨[], pos', 0, []⟩) := by
 have o := self_off hu
 obtain ⟨k1, k2⟩ := rep_reps h0 h1 h2 h3 hm (setN [(u, u)]) (0 + k)
 have hs : stops ((u, k) :: cntU lo hi (modU m)) = false := by
  show (false || (u == 124) || (u == 41)) = false
  simp
  omega
 have ha := atom_self (P := P) (k := k) hu (cntU lo hi (modU m)) 0
 unfold pAlt1 pCat
 dsimp only
 rw [List.length_cons]
 refine ⟨fun h => ?_, fun h => ?_⟩
 ·rw [pCatL, if_neg (by simp [hs]), ha]
  dsimp only [Out.bind]
  rw [k1 h]
 ·obtain ⟨q, hq⟩ := k2 h
  refine ⟨q, ?_⟩
  rw [cat_step hs ha hq, cat_end rfl]
  dsimp only [Out.bind]
  rfl
theorem parse_reps {x : ByteArray} {lo hi m u k : Int} (hx : (bytes x).length ≤ 256) (hu : selfC u) (h0 : 0 ≤ lo) (h1 : lo ≤ 99) (h2 : -1 ≤ hi) (h3 : hi ≤ 99) (hm : m = 0 ∨ m = 1 ∨ m = 2) (he : unis (bytes x) = (u, k) :: cntU lo hi (modU m)) :
  (offC lo hi → parseF x = (noPat, ⟨23, k⟩)) ∧ (¬ offC lo hi → parseF x = (⟨⟨4, lo, hi, m, 0, [], [setN [(u, u)]]⟩, 0, false⟩, ⟨0, 0⟩)) := by
 have o := self_off hu
 have hw : wd [40, 63, 105, 41] ⟨(u, k) :: cntU lo hi (modU m), 0, 0, []⟩ = none := by
  unfold wd
  simp only [isW]
  rw [if_neg (by omega)]
 rw [parseF_small hx, he]
 unfold pParse
 rw [hw]
 dsimp only
 obtain ⟨k1, k2⟩ := alt_reps (k := k) hu h0 h1 h2 h3 hm (fun p s => pParen (pAlt 31) p s)
 have e32 : pAlt 32 = pAlt1 fun p s => pParen (pAlt 31) p s := rfl
 rw [e32]
 refine ⟨fun h => ?_, fun h => ?_⟩
 ·rw [k1 h, Int.zero_add]
  rfl
 ·obtain ⟨q, hq⟩ := k2 h
  rw [hq]
  rfl
def modB (m : Int) : List UInt8 := if m = 1 then [63] else if m = 2 then [43] else []
theorem reps_r8 {n : Nat} {lo hi m : Int} {x : ByteArray} (hn : n ≤ 1114111) (hv : n < 55296 ∨ 57344 ≤ n) (hu : selfC n) (h0 : 0 ≤ lo) (h1 : lo ≤ 99) (h2 : -1 ≤ hi) (h3 : hi ≤ 99) (hm : m = 0 ∨ m = 1 ∨ m = 2)
  (hx : bytes x = encB n ++ (123 :: (digB lo ++ (44 :: (if 0 ≤ hi then digB hi else []))))) : Z24 (n : Int) lo hi m x = some true := by
 have hl : (encB n).length = (encN n).length := List.length_map ..
 have hl4 : (encN n).length ≤ 4 := by
  unfold encN
  split
  ·simp
  split
  ·simp
  split
  ·simp
  ·simp
 have hlx : (bytes x).length ≤ 20 := by
  rw [hx]
  simp only [List.length_append, List.length_cons, hl]
  have a1 : (digB lo).length = 2 := rfl
  have a2 : (if 0 ≤ hi then digB hi else []).length ≤ 2 := by
   split
   ·exact Nat.le_refl 2
   ·simp
  omega
 obtain ⟨y, hy, hy1, hy2⟩ : ∃ y, lget ([(ByteArray.mk #[]), (ByteArray.mk #[63]), (ByteArray.mk #[43])] : List ByteArray) m = some y ∧ bytes y = modB m ∧ unis (modB m) = modU m := by
  rcases hm with rfl | rfl | rfl
  ·exact ⟨_, rfl, rfl, rfl⟩
  ·exact ⟨_, rfl, rfl, by rw [show modB 1 = [63] from rfl, unis_ascii (by decide), unis_nil]; rfl⟩
  ·exact ⟨_, rfl, rfl, by rw [show modB 2 = [43] from rfl, unis_ascii (by decide), unis_nil]; rfl⟩
 have hlm : (modB m).length ≤ 1 := by rcases hm with rfl | rfl | rfl <;> decide
 have b1 : bytes (ByteArray.mk #[125]) = [125] := rfl
 unfold Z24
 rw [hy, Option.bind_some, sadd_ok (by rw [b1, hy1]; simp only [List.length_cons, List.length_nil]; omega), Option.bind_some,
  sadd_ok (by rw [bytes_add, List.length_append, b1, hy1]; simp only [List.length_cons, List.length_nil]; omega), Option.bind_some, parse_val, Option.bind_some]
 have eb : bytes (x ++ (ByteArray.mk #[125] ++ y)) = encB n ++ (123 :: (digB lo ++ (44 :: ((if 0 ≤ hi then digB hi else []) ++ 125 :: modB m)))) := by
  rw [bytes_add, bytes_add, b1, hy1, hx]
  simp
 have eh : unis ((if 0 ≤ hi then digB hi else []) ++ 125 :: modB m) = (if 0 ≤ hi then [(48 + hi / 10, 1), (48 + hi % 10, 1)] else []) ++ (125, 1) :: modU m := by
  have e5 : unis (125 :: modB m) = (125, 1) :: modU m := by rw [unis_ascii (by decide), hy2]; rfl
  by_cases c : 0 ≤ hi
  ·rw [if_pos c, if_pos c, digB_units c h3, e5]
   rfl
  ·rw [if_neg c, if_neg c, List.nil_append, List.nil_append, e5]
 have eu : unis (bytes (x ++ (ByteArray.mk #[125] ++ y))) = ((n : Int), ((encN n).length : Int)) :: cntU lo hi (modU m) := by
  rw [eb, unis_enc hn hv, unis_ascii (by decide), digB_units h0 h1, unis_ascii (by decide), eh]
  rfl
 have hp := parse_reps (x := x ++ (ByteArray.mk #[125] ++ y)) (by rw [bytes_add, bytes_add, List.length_append, List.length_append, b1, hy1]; simp only [List.length_cons, List.length_nil]; omega) hu h0 h1 h2 h3 hm eu
 have hoff : offC lo hi → Z1I (n : Int) (parseF (x ++ (ByteArray.mk #[125] ++ y))).2 = some true := by
  intro h
  rw [hp.1 h]
  unfold Z1I
  rw [if_pos (beq_pos rfl), bytesI_val hn, Option.bind_some, List.length_map]
  exact congrArg some (beq_pos rfl)
 have hon : ¬ offC lo hi → Z21 (n : Int) lo hi m (parseF (x ++ (ByteArray.mk #[125] ++ y))).1 (parseF (x ++ (ByteArray.mk #[125] ++ y))).2 = some true := by
  intro h
  rw [hp.2 h]
  unfold Z21
  dsimp only
  rw [if_pos (beq_pos rfl), if_pos (beq_pos rfl), if_pos (beq_pos rfl), if_pos (beq_pos rfl), if_pos (beq_pos rfl), if_pos (by simp)]
  show (Z3N [⟨n, n⟩] [⟨n, n⟩]).bind _ = _
  rw [same_one]
  rfl
 by_cases c1 : 64 < lo
 ·rw [if_pos (dc_pos c1)]
  exact hoff (.inl c1)
 rw [if_neg (dc_neg c1)]
 by_cases c2 : 64 < hi
 ·rw [if_pos (dc_pos c2)]
  exact hoff (.inr (.inl c2))
 rw [if_neg (dc_neg c2)]
 by_cases c3 : 0 ≤ hi
 ·rw [if_pos (dc_pos c3)]
  by_cases c4 : hi < lo
  ·rw [if_pos (dc_pos c4)]
   exact hoff (.inr (.inr ⟨c3, c4⟩))
  ·rw [if_neg (dc_neg c4)]
   exact hon (by unfold offC; omega)
 ·rw [if_neg (dc_neg c3)]
  exact hon (by unfold offC; omega)
theorem reps_r5 {n : Nat} {lo hi m : Int} (hn : n ≤ 1114111) (hv : n < 55296 ∨ 57344 ≤ n) (hu : selfC n) (h0 : 0 ≤ lo) (h1 : lo ≤ 99) (h2 : -1 ≤ hi) (h3 : hi ≤ 99) (hm : m = 0 ∨ m = 1 ∨ m = 2) : Z1N (n : Int) lo hi m = some true := by
 have hl : (encB n).length = (encN n).length := List.length_map ..
 have hl4 : (encN n).length ≤ 4 := by
  unfold encN
  split
  ·simp
  split
  ·simp
  split
  ·simp
  ·simp
 obtain ⟨z, hz, hzb⟩ := two_val h0 h1
 have lz : (digB lo).length = 2 := rfl
 have b1 : bytes (ByteArray.mk #[123]) = [123] := rfl
 have b2 : bytes (ByteArray.mk #[44]) = [44] := rfl
 have he := strI_enc (n := n)
 unfold Z1N
 rw [bytesI_val hn, Option.bind_some]
 generalize strI ((encN n).map fun (x : Nat) => (x : Int)) = s at he
 rw [sadd_ok (by rw [he, b1]; simp only [List.length_cons, List.length_nil]; omega), Option.bind_some, hz, Option.bind_some,
  sadd_ok (by rw [bytes_add, he, b1, hzb]; simp only [List.length_append, List.length_cons, List.length_nil]; omega), Option.bind_some,
  sadd_ok (by rw [bytes_add, bytes_add, he, b1, b2, hzb]; simp only [List.length_append, List.length_cons, List.length_nil]; omega), Option.bind_some]
 have eb : bytes (s ++ ByteArray.mk #[123] ++ z ++ ByteArray.mk #[44]) = encB n ++ (123 :: (digB lo ++ [44])) := by
  rw [bytes_add, bytes_add, bytes_add, he, b1, b2, hzb]
  simp
 by_cases c : 0 ≤ hi
 ·obtain ⟨w, hw, hwb⟩ := two_val c h3
  have lw : (digB hi).length = 2 := rfl
  rw [if_pos (dc_pos c), hw, Option.bind_some, sadd_ok (by rw [eb, hwb]; simp only [List.length_append, List.length_cons, List.length_nil]; omega), Option.bind_some]
  refine reps_r8 hn hv hu h0 h1 h2 h3 hm ?_
  rw [bytes_add, eb, hwb, if_pos c]
  simp
 ·rw [if_neg (dc_neg c)]
  refine reps_r8 hn hv hu h0 h1 h2 h3 hm ?_
  rw [eb, if_neg c]
theorem parseRepeats_val (u lo hi m : Int) : Z4D u lo hi m = some true := by
 apply Z82
 unfold Z3y
 rw [anchor3_val, Option.bind_some, if_neg (by simp)]
 unfold Z31 ZY
 have hc : Z5L u = some (decide ((0 ≤ u ∧ u ≤ 1114111) ∧ (u < 55296 ∨ 57343 < u))) := by
  apply Zbg
  unfold Z5M
  by_cases c1 : 0 ≤ u <;> by_cases c2 : u ≤ 1114111 <;> by_cases c3 : u < 55296 <;> simp [c1, c2, c3]
 rw [hc, Option.bind_some]
 by_cases c : (0 ≤ u ∧ u ≤ 1114111) ∧ (u < 55296 ∨ 57343 < u)
 rotate_left
 ·rw [decide_eq_false c, if_pos (by simp)]
 rw [decide_eq_true c, if_neg (by simp)]
 obtain ⟨⟨u0, u1⟩, u2⟩ := c
 obtain ⟨n, rfl⟩ : ∃ n : Nat, u = n := ⟨u.toNat, by omega⟩
 have rest : selfC n → (if (decide (lo < 0)) = true then some true else if (decide (99 < lo)) = true then some true else if (decide (hi < (-1))) = true then some true else if (decide (99 < hi)) = true then some true else if (decide (m < 0)) = true then some true else if (decide (2 < m)) = true then some true else Z1N (n : Int) lo hi m) = some true := by
  intro hs
  by_cases k1 : lo < 0
  ·rw [if_pos (dc_pos k1)]
  rw [if_neg (dc_neg k1)]
  by_cases k2 : 99 < lo
  ·rw [if_pos (dc_pos k2)]
  rw [if_neg (dc_neg k2)]
  by_cases k3 : hi < -1
  ·rw [if_pos (dc_pos k3)]
  rw [if_neg (dc_neg k3)]
  by_cases k4 : 99 < hi
  ·rw [if_pos (dc_pos k4)]
  rw [if_neg (dc_neg k4)]
  by_cases k5 : m < 0
  ·rw [if_pos (dc_pos k5)]
  rw [if_neg (dc_neg k5)]
  by_cases k6 : 2 < m
  ·rw [if_pos (dc_pos k6)]
  rw [if_neg (dc_neg k6)]
  exact reps_r5 (by omega) (by omega) hs (by omega) (by omega) (by omega) (by omega) (by omega)
 by_cases c1 : (n : Int) < 128
 ·rw [if_pos (dc_pos c1), alnum_val, Option.bind_some]
  cases c2 : alnum (n : Int) with
  | false => rw [if_pos (by simp)]
  | true =>
   rw [if_neg (by simp)]
   exact rest (.inl c2)
 ·rw [if_neg (dc_neg c1)]
  exact rest (.inr (by omega))
end Go.Proofs.YtadodmjdkphddaaDoor.N2
end
section
set_option linter.unusedSimpArgs false
set_option linter.unusedVariables false
namespace Go.Proofs.YtadodmjdkphddaaDoor
open Go Go.Abs Go.RowKit Go.ChangeShapes Go.WideShapes Go.ChangeAt
set_option maxRecDepth 100000 in
theorem parseRepeats_lifted (os : Os) (started : os.Started) (H : Type) (enc : TypeId × Value → H) :
  ReturnsInHanded {} Tryd.checked os 5 .any (fun w args => (Rows.parseRepeatsSpec.pre enc Tryd.prog Tryd.f5 [] false w args ∧ laidMetH Tryd.prog laidL w) ∧ sizedMet enc Tryd.prog Tryd.f5 (OpenSpec.ofChange Rows.parseRepeatsSpec) false w args)
   (Rows.parseRepeatsSpec.post enc Tryd.prog Tryd.f5 false true false false) := by
 refine returnsInHanded_of_change_and (C := Tryd.checked) (X := fun w _ => laidMetH Tryd.prog laidL w) (fun _ _ _ hh h => h.of_heap hh) own started (by kernel_rfl) Tryd.func5
  (ChangeSpec.witness_shaped (enc := enc) (C := Tryd.checked) (os := os) (X := fun w _ => laidMetH Tryd.prog laidL w) false (laidWorld os) #[.int .i64 0, .int .i64 0, .int .i64 0, .int .i64 0] 8 rfl (World.shaped_of_RefB (by kernel_rfl) (by kernel_rfl)) (by kernel_rfl) (by kernel_rfl) (by kernel_rfl) (laid_met os _)) ?_
 intro W base args ds gs before hval0 hW _ _ hL _
 have hval : ∀ (j : Nat) t v, Tryd.f5.params[j]? = some t → args[j]? = some v → Value.okWide Tryd.prog W .any base t v := hval0
 have hW' := hW
 have hlt := fun p hp => hW.lt p hp
 obtain ⟨p, q, hA0, hV, rfl, hfz, hnd⟩ := hW
 have hA : DataW.TrodAll enc Tryd.prog W 0 (fun _ => true) true Tryd.f5.params.toList args.toList ds p := hA0
 rw [Tryd.params5] at hA hval
 obtain ⟨v0, v1, v2, v3, d0, d1, d2, d3, p0, p1, p2, p3, rfl, rfl, rfl, h0, h1, h2, h3⟩ := trodAll_four hA
 obtain ⟨rfl, rfl⟩ := trodVars_none hV
 obtain ⟨x0, rfl, rfl, rfl, w0⟩ := open_int Tryd.underlying3 (hval 0 3 v0 rfl rfl) h0
 obtain ⟨x1, rfl, rfl, rfl, w1⟩ := open_int Tryd.underlying3 (hval 1 3 v1 rfl rfl) h1
 obtain ⟨x2, rfl, rfl, rfl, w2⟩ := open_int Tryd.underlying3 (hval 2 3 v2 rfl rfl) h2
 obtain ⟨x3, rfl, rfl, rfl, w3⟩ := open_int Tryd.underlying3 (hval 3 3 v3 rfl rfl) h3
 clear hA0 hval0
 simp only [List.append_nil, List.nil_append] at hW' hlt
 have htab := tabs_of hL
 obtain ⟨q, hq, ex, rfl⟩ := N2.Z85 x0 x1 x2 x3  true (N2.parseRepeats_val x0 x1 x2 x3 )
 refine (calls_old N2.fspec (Tabs.old htab) hq rfl ?_).mono ?_
 ·intro i x v hx hv
  match i with
  | 0 =>
   simp only [List.getElem?_cons_zero, Option.some.injEq] at hx
   have hv' : Value.int .i64 x0 = v := by simpa using hv
   subst hx; subst hv'
   exact ⟨.p _ _ (.v _ rfl), rfl⟩
  | 1 =>
   simp only [List.getElem?_cons_succ, List.getElem?_cons_zero, Option.some.injEq] at hx
   have hv' : Value.int .i64 x1 = v := by simpa using hv
   subst hx; subst hv'
   exact ⟨.p _ _ (.v _ rfl), rfl⟩
  | 2 =>
   simp only [List.getElem?_cons_succ, List.getElem?_cons_zero, Option.some.injEq] at hx
   have hv' : Value.int .i64 x2 = v := by simpa using hv
   subst hx; subst hv'
   exact ⟨.p _ _ (.v _ rfl), rfl⟩
  | 3 =>
   simp only [List.getElem?_cons_succ, List.getElem?_cons_zero, Option.some.injEq] at hx
   have hv' : Value.int .i64 x3 = v := by simpa using hv
   subst hx; subst hv'
   exact ⟨.p _ _ (.v _ rfl), rfl⟩
  | i + 4 => simp at hx
 ·rintro e W' ⟨v, S', β', rfl, bel, hr⟩
  have := scal_rel hr
  subst this
  refine ⟨_, rfl, _, _, _, [], _, [], hW', trodAll_mk1 (shut_bool Tryd.underlying4 _), trodAll_cons_mk (shut_int Tryd.underlying3 w0) (trodAll_cons_mk (shut_int Tryd.underlying3 w1) (trodAll_cons_mk (shut_int Tryd.underlying3 w2) (trodAll_cons_mk (shut_int Tryd.underlying3 w3) (trodAll_mk0)))), rfl, ?_, fun h => by cases h⟩
  exact bel.frame _
theorem parseRepeats_holds : Rows.ParseRepeatsSaid :=
 OpenClaim.holds_of_wide 5 Tryd.f5 rfl rfl rfl rfl rfl rfl rfl ⟨rfl, rfl, rfl, rfl, rfl⟩ rfl rfl rfl rfl rfl (by kernel_rfl) Tryd.func5 (by kernel_rfl)
  (of_decide_eq_true (by kernel_rfl)) (by unfold Func.isWrapper; first | (rw [if_pos (by decide +kernel)]; kernel_rfl) | (rw [if_neg (by decide +kernel)]; exact ⟨rfl, rfl⟩))
  (fun os started H enc _ => parseRepeats_lifted os started H enc)
theorem parseRepeats_card : Rows.ParseRepeatsCardSaid :=
 Claim7.holds_tied_plain_at .later [] [.data, .pinned] true (true, "aa0ed56c3559362fe8994ee982c3505cd6e490b9947e437ca456bdc414569078") false
  parseRepeats_holds (fun _ h => by cases h) (by kernel_rfl) (fun _ h => by cases h) parseRepeats_row_tie rfl ⟨rfl, rfl⟩ (by kernel_rfl) rfl
  (fun f fn hf hfn => by
   obtain rfl : f = 5 := Option.some.inj ((show Tryd.prog.funcNamed "colander/colanderlaw03.ParseRepeats" = some 5 by kernel_rfl).symm.trans hf) |>.symm
   obtain rfl : fn = Tryd.f5 := (Option.some.inj (Tryd.func5.symm.trans hfn)).symm
   exact ⟨by kernel_rfl, fun j t ht => by
    rw [Tryd.params5] at ht
    have hm : t ∈ [3, 3, 3, 3] := by simpa using Array.mem_of_getElem? ht
    have hall : ([3, 3, 3, 3].all fun u => !Tryd.prog.wantsStandIn u) = true := by kernel_rfl
    exact (show Tryd.prog.wantsStandIn t = false by simpa using List.all_eq_true.1 hall t hm)⟩)
  (by kernel_rfl)
#print axioms parseRepeats_card
end Go.Proofs.YtadodmjdkphddaaDoor
end
