/- ProgOnes: true at every input; the input reads as it did. Condition: the tables lie as they are laid, which the card ties. -/
import Derived.Test.YtocikhhkicahoaaDoorCodeC
import Derived.Test.YtocikhhkicahoaaDoorRow
import Derived.Test.YtocikhhkicahoaaDoorCards
import Derived.Test.YtocikhhkicahoaaDoorTie
import Derived.SevenTiedAt

set_option linter.unusedSimpArgs false
set_option linter.unusedVariables false
set_option linter.defProp false
section
namespace Go.Proofs.YtocikhhkicahoaaDoor.N2
open Go Go.Abs Go.Proofs.Unis Go.Proofs.Norm
set_option maxRecDepth 100000
def ascB (a : Int) : List R2 → Bool
 | [] => true
 | r :: t => (decide (0 ≤ r.1) && decide (r.1 ≤ r.2) && decide (r.2 ≤ 1114367)) && decide (a + 2 ≤ r.1) && ascB r.2 t
theorem ZsJ : ∀ (l : List R2) (a : Int), ascB a l = true ↔ AscF a l
 | [], _ => by simp [ascB, AscF]
 | r :: t, a => by
  simp only [ascB, AscF, Z4j, decide_eq_true_eq, ZsJ t r.2]
  constructor
  ·rintro ⟨⟨⟨⟨h1, h2⟩, h3⟩, h4⟩, h5⟩; exact ⟨⟨h1, h2, h3⟩, h4, h5⟩
  ·rintro ⟨⟨h1, h2, h3⟩, h4, h5⟩; exact ⟨⟨⟨⟨h1, h2⟩, h3⟩, h4⟩, h5⟩
theorem Zyu (L : List R2) (hl : L.length ≤ 1000000) : ∀ (d i : Nat) (a : Int), i + d = L.length → -2 ≤ a → a ≤ 1114367 → Z5A a (L.map ofR) (L.length : Int) (i : Int) = some (ascB a (L.drop i)) := by
 intro d
 induction d with
 | zero =>
  intro i a h _ _
  apply Z7t
  unfold Z4q
  rw [if_neg (by simp; omega), Zeb (by omega)]
  rfl
 | succ d ih =>
  intro i a h ha ha2
  have hi : i < L.length := by omega
  rw [Zfa hi]
  apply Z7t
  unfold Z4q Z6F Z6G
  rw [if_pos (by simp; omega), ZkB hi, ZV, Zna, ZV, wrap_i64 (n := a + 2) (by omega) (by omega)]
  by_cases h1 : 0 ≤ L[i].1 ∧ L[i].1 ≤ L[i].2 ∧ L[i].2 ≤ 1114367
  ·rw [decide_eq_true h1, if_neg (by simp)]
   have e : ascB a (L[i] :: L.drop (i + 1)) = (decide (a + 2 ≤ L[i].1) && ascB L[i].2 (L.drop (i + 1))) := by simp [ascB, h1.1, h1.2.1, h1.2.2]
   rw [e]
   by_cases h2 : a + 2 ≤ L[i].1
   ·rw [if_neg (Z21 (show ¬ (ofR L[i]).Lo < a + 2 from (by show ¬ L[i].1 < a + 2; omega))), decide_eq_true h2, ZrS]
    unfold Z6H Z6I
    rw [wrap_i64 (by omega) (by omega)]
    exact ih (i + 1) _ (by omega) (by simp only [ofR]; omega) (by simp only [ofR]; omega)
   ·rw [if_pos (Z2f (show (ofR L[i]).Lo < a + 2 from (by show L[i].1 < a + 2; omega))), decide_eq_false h2]
    rfl
  ·rw [decide_eq_false h1, if_pos (by simp)]
   have e : ascB a (L[i] :: L.drop (i + 1)) = false := by
    simp only [ascB]
    by_cases q1 : 0 ≤ L[i].1
    ·by_cases q2 : L[i].1 ≤ L[i].2
     ·have q3 : ¬ L[i].2 ≤ 1114367 := fun q3 => h1 ⟨q1, q2, q3⟩
      simp [q3]
     ·simp [q2]
    ·simp [q1]
   rw [e]
theorem ZBq (L : List R2) (hl : L.length ≤ 1000000) : Z4c (L.map ofR) = some (ascB (-2) L) := by
 apply Zej
 unfold Z8i
 rw [Z8t]
 exact Zyu L hl L.length 0 (-2) (by omega) (by omega) (by omega)
theorem ZEi (l : List Z8) : (l.map toR).map ofR = l := by
 rw [ZlB]
 exact List.map_id'' (fun _ => rfl) l
def hd (d : Nat) : Nat := if d < 10 then 48 + d else 87 + d
def hu (d : Nat) : Int := ((hd d : Nat) : Int)
def xs (u : Nat) : List UInt8 := [92, 120, UInt8.ofNat (hd (u / 16)), UInt8.ofNat (hd (u % 16))]
theorem ZHU : ∀ k : Fin 256, Zay ((k.val : Nat) : Int) = some ⟨(xs k.val).toArray⟩ := by decide +kernel
theorem ZDO {u : Int} (h : 0 ≤ u ∧ u ≤ 255) : Z8S u = some ⟨(xs u.toNat).toArray⟩ := by
 apply Zl3
 have := ZHU ⟨u.toNat, by omega⟩
 rwa [show ((u.toNat : Nat) : Int) = u by omega] at this
theorem Zyi {d : Nat} (h : d < 16) : hd d < 128 ∧ 48 ≤ hd d := by unfold hd; split <;> omega
theorem ZBh {d : Nat} (h : d < 16) : hexF (hu d) = d := by
 unfold hu hd hexF
 split
 ·rw [if_pos (by omega)]; omega
 ·rw [if_neg (by omega), if_pos (by omega)]; omega
theorem Zwr {d : Nat} (h : d < 16) : (UInt8.ofNat (hd d)).toNat = hd d := by
 have := Zyi h
 rw [UInt8.toNat_ofNat']
 omega
def itB (r : R2) : List UInt8 := xs r.1.toNat ++ [45] ++ xs r.2.toNat
def itU (r : R2) : List Un := [(92, 1), (120, 1), (hu (r.1.toNat / 16), 1), (hu (r.1.toNat % 16), 1), (45, 1), (92, 1), (120, 1), (hu (r.2.toNat / 16), 1), (hu (r.2.toNat % 16), 1)]
theorem ZC0 {u : Nat} (h : u ≤ 255) (t : List UInt8) : unis (xs u ++ t) = (92, 1) :: (120, 1) :: (hu (u / 16), 1) :: (hu (u % 16), 1) :: unis t := by
 have h1 := Zwr (d := u / 16) (by omega)
 have h2 := Zwr (d := u % 16) (by omega)
 have l1 := Zyi (d := u / 16) (by omega)
 have l2 := Zyi (d := u % 16) (by omega)
 unfold xs
 simp only [Zb1, Z9N]
 rw [Z9a (by decide), Z9a (by decide), Z9a (by omega), Z9a (by omega), h1, h2]
 rfl
theorem ZEF {r : R2} (h : r.1 ≤ 255 ∧ r.2 ≤ 255) (t : List UInt8) : unis (itB r ++ t) = itU r ++ unis t := by
 unfold itB itU
 rw [Z8s, Z8s, ZC0 (by omega), Zb1, Z9N, Z9a (by decide), ZC0 (by omega)]
 rfl
theorem ZvP : ∀ (l : List R2) (t : List UInt8), (∀ r ∈ l, r.1 ≤ 255 ∧ r.2 ≤ 255) → unis (l.flatMap itB ++ t) = l.flatMap itU ++ unis t
 | [], t, _ => rfl
 | r :: l, t, h => by
  rw [ZoS, ZoS, Z8s, ZEF (h r (Zcu ..)), ZvP l t fun x hx => h x (Zdn _ hx), Z8s]
theorem ZsL : ∀ (l : List R2) (a : Int) (n : Nat), AscF a l → AscF a (l.take n)
 | [], _, n, _ => by simp [AscF]
 | r :: t, a, 0, _ => by simp [AscF]
 | r :: t, a, n + 1, h => ⟨h.1, h.2.1, ZsL t r.2 n h.2.2⟩
theorem ZEu {a b : Nat} (ha : a < 16) (hb : b < 16) (p : Int) (t : List Un) (pos gr : Int) (rf : List Zz) :
  Zai 120 p ⟨(hu a, 1) :: (hu b, 1) :: t, pos, gr, rf⟩ = .ok (16 * (a : Int) + b) ⟨t, pos + 1 + 1, gr, rf⟩ := by
 unfold Zai
 rw [if_neg (by decide), if_neg (by decide), if_neg (by decide), if_pos rfl]
 have e1 : hexF (peek (St.us ⟨(hu a, 1) :: (hu b, 1) :: t, pos, gr, rf⟩)) = a := ZBh ha
 have e2 : hexF (peek (take ⟨(hu a, 1) :: (hu b, 1) :: t, pos, gr, rf⟩).us) = b := ZBh hb
 rw [e1, e2, if_pos (by omega), if_pos (by omega)]
 rfl
theorem ZDF {u : Nat} (h : u ≤ 255) (t : List Un) (pos gr : Int) (rf : List Zz) :
  pMem ⟨(92, 1) :: (120, 1) :: (hu (u / 16), 1) :: (hu (u % 16), 1) :: t, pos, gr, rf⟩ = .ok ((u : Int), [], false) ⟨t, pos + 1 + 1 + 1 + 1, gr, rf⟩ := by
 have e0 : pMem ⟨(92, 1) :: (120, 1) :: (hu (u / 16), 1) :: (hu (u % 16), 1) :: t, pos, gr, rf⟩ = (Zai 120 pos ⟨(hu (u / 16), 1) :: (hu (u % 16), 1) :: t, pos + 1 + 1, gr, rf⟩).bind fun v s2 => .ok (v, [], false) s2 := rfl
 rw [e0, ZEu (by omega) (by omega)]
 show Out.ok (_, [], false) _ = _
 congr 2
 omega
theorem ZrW (p : Int) (no : Bool) : ∀ (r : List R2) (dn : List R2) (k : Nat) (fst : Bool) (pos gr : Int) (rf : List Zz), Z2x (dn ++ r) → (∀ x ∈ r, x.2 ≤ 255) → r.length + 1 ≤ k → (fst = false ∨ r ≠ []) →
  ∃ pos', Z8F p no k fst dn ⟨r.flatMap itU ++ [(93, 1)], pos, gr, rf⟩ = .ok (setN (if no = true then notF (dn ++ r) else dn ++ r)) ⟨[], pos', gr, rf⟩ := by
 intro r
 induction r with
 | nil =>
  intro dn k fst pos gr rf _ _ hk hf
  obtain ⟨k, rfl⟩ : ∃ j, k = j + 1 := ⟨k - 1, by simp at hk; omega⟩
  have hf : fst = false := hf.resolve_right (fun h => h rfl)
  subst hf
  refine ⟨pos + 1, ?_⟩
  unfold Z8F
  rw [ZiN]
  rfl
 | cons x r ih =>
  intro dn k fst pos gr rf hn hx hk _
  obtain ⟨k, rfl⟩ : ∃ j, k = j + 1 := ⟨k - 1, by simp at hk; omega⟩
  have hx0 := hx x (Zcu ..)
  have hr := Z5U hn x (by simp)
  have hn' : Z2x (dn ++ [x]) := by
   have := ZsL _ _ (dn.length + 1) (Z8g.1 hn)
   rw [List.take_append, Zvq (by omega), show dn.length + 1 - dn.length = 1 by omega] at this
   exact Z8g.2 this
  obtain ⟨pos', e⟩ := ih (dn ++ [x]) k false (pos + 1 + 1 + 1 + 1 + (1 : Nat) + 1 + 1 + 1 + 1) gr rf (by simpa using hn) (fun y hy => hx y (Zdn _ hy)) (by simp at hk; omega) (.inl rfl)
  refine ⟨pos', ?_⟩
  have m1 := ZDF (u := x.1.toNat) (by omega) ((45, 1) :: (92, 1) :: (120, 1) :: (hu (x.2.toNat / 16), 1) :: (hu (x.2.toNat % 16), 1) :: (r.flatMap itU ++ [(93, 1)])) pos gr rf
  have m2 := ZDF (u := x.2.toNat) (by omega) (r.flatMap itU ++ [(93, 1)]) (pos + 1 + 1 + 1 + 1 + (1 : Nat)) gr rf
  unfold Z8F
  rw [ZoS, Z8s]
  rw [if_neg (by simp [itU]), if_neg (by simp [itU, peek]), if_neg (by simp [itU, peek])]
  unfold itU at m1 ⊢
  simp only [Zb1, Z9N]
  rw [m1]
  dsimp only [Out.bind]
  rw [if_neg (by simp)]
  have w : wd [45] ⟨(45, 1) :: (92, 1) :: (120, 1) :: (hu (x.2.toNat / 16), 1) :: (hu (x.2.toNat % 16), 1) :: (r.flatMap itU ++ [(93, 1)]), pos + 1 + 1 + 1 + 1, gr, rf⟩ = some ⟨(92, 1) :: (120, 1) :: (hu (x.2.toNat / 16), 1) :: (hu (x.2.toNat % 16), 1) :: (r.flatMap itU ++ [(93, 1)]), pos + 1 + 1 + 1 + 1 + (1 : Nat), gr, rf⟩ := rfl
  unfold itU at w
  rw [w]
  dsimp only
  rw [if_neg (by simp [peek])]
  unfold itU at m2
  rw [m2]
  dsimp only
  rw [if_neg (by simp; omega)]
  have ex : ((x.1.toNat : Int), (x.2.toNat : Int)) = x := by
   apply Z3y
   ·show (x.1.toNat : Int) = x.1; omega
   ·show (x.2.toNat : Int) = x.2; omega
  rw [ex, ZqH hn']
  unfold itU at e
  rw [e]
  simp
theorem Zku : ∀ s : List R2, (s.flatMap itB).length = 9 * s.length ∧ (s.flatMap itU).length = 9 * s.length
 | [] => ⟨rfl, rfl⟩
 | r :: s => by
  obtain ⟨h1, h2⟩ := Zku s
  rw [ZoS, ZoS, q3_, q3_, h1, h2]
  simp only [itB, itU, xs, q3_, q5_, q7_]
  omega
theorem Zyv {s : List R2} (no : Bool) (hs : Z2x s) (h0 : s ≠ []) (h255 : ∀ r ∈ s, r.2 ≤ 255) :
  ∃ pos', Zh6 0 ⟨(if no = true then [(94, 1)] else []) ++ (s.flatMap itU ++ [(93, 1)]), 0 + 1, 0, []⟩ = .ok (setN (if no = true then notF s else s)) ⟨[], pos', 0, []⟩ := by
 have hl := (Zku s).2
 cases no with
 | true =>
  obtain ⟨pos', e⟩ := ZrW 0 true s [] ((s.flatMap itU ++ [(93, 1)]).length + 1) true (0 + 1 + (1 : Nat)) 0 [] (by simpa using hs) h255 (by rw [q3_, hl]; simp; omega) (.inr h0)
  refine ⟨pos', ?_⟩
  have e0 : Zh6 0 ⟨[(94, 1)] ++ (s.flatMap itU ++ [(93, 1)]), 0 + 1, 0, []⟩ = Z8F 0 true ((s.flatMap itU ++ [(93, 1)]).length + 1) true [] ⟨s.flatMap itU ++ [(93, 1)], 0 + 1 + (1 : Nat), 0, []⟩ := rfl
  rw [if_pos rfl, e0, e]
  simp
 | false =>
  obtain ⟨pos', e⟩ := ZrW 0 false s [] ((s.flatMap itU ++ [(93, 1)]).length + 1) true (0 + 1) 0 [] (by simpa using hs) h255 (by rw [q3_, hl]; simp; omega) (.inr h0)
  refine ⟨pos', ?_⟩
  have e0 : Zh6 0 ⟨s.flatMap itU ++ [(93, 1)], 0 + 1, 0, []⟩ = Z8F 0 false ((s.flatMap itU ++ [(93, 1)]).length + 1) true [] ⟨s.flatMap itU ++ [(93, 1)], 0 + 1, 0, []⟩ := by
   cases s with
   | nil => exact absurd rfl h0
   | cons r s => rfl
  rw [if_neg (by simp), Z9N, e0, e]
  simp
theorem ZqL {s : List R2} (no : Bool) (hs : Z2x s) (h0 : s ≠ []) (h5 : s.length ≤ 5) (h255 : ∀ r ∈ s, r.2 ≤ 255) (y : ByteArray) (hy : bytes y = 91 :: ((if no = true then [94] else []) ++ (s.flatMap itB ++ [93]))) :
  ZdJ y = (⟨setN (if no = true then notF s else s), 0, false⟩, ⟨0, 0⟩) := by
 have hr := Z5U hs
 have hlen := (Zku s).1
 have hU : unis (bytes y) = (91, 1) :: ((if no = true then [(94, 1)] else []) ++ (s.flatMap itU ++ [(93, 1)])) := by
  have e := ZvP s [93] (fun r h => ⟨by have := hr r h; have := h255 r h; omega, h255 r h⟩)
  rw [Z9a (c := 93) (by decide), ZlK] at e
  rw [hy, Z9a (by decide)]
  cases no with
  | true =>
   rw [if_pos rfl, if_pos rfl, Zb1, Z9N, Z9a (by decide), e]
   rfl
  | false =>
   rw [if_neg (by simp), if_neg (by simp), Z9N, e]
   rfl
 rw [Zvl (by rw [hy]; cases no <;> simp [hlen] <;> omega), hU]
 obtain ⟨pos', hC⟩ := Zyv no hs h0 h255
 generalize (if no = true then [((94 : Int), (1 : Int))] else []) ++ (s.flatMap itU ++ [(93, 1)]) = w at *
 have hA : Zgm (pP 31) ⟨(91, 1) :: w, 0, 0, []⟩ = .ok (setN (if no = true then notF s else s), true) ⟨[], pos', 0, []⟩ := by
  show (Zh6 0 ⟨w, 0 + 1, 0, []⟩).bind (fun n s1 => .ok (n, true) s1) = _
  rw [hC]
  rfl
 have e0 : wd [40, 63, 105, 41] ⟨(91, 1) :: w, 0, 0, []⟩ = none := rfl
 unfold ZmX
 rw [e0, ZsI, Zls, pCat]
 dsimp only
 rw [show ((91, 1) :: w : List Un).length + 1 = (w.length + 1) + 1 by simp, ZCh rfl hA (ZD3 (.inl rfl)), ZDX rfl]
 simp only [Out.bind, q7_]
 rw [ZCc (.inl rfl)]
 rfl
theorem Zs8 {l : List R2} (hl : Z2x l) {y : ByteArray} (h : ZdJ y = (⟨setN l, 0, false⟩, ⟨0, 0⟩)) : Z3r y = some ([sv 0, ⟨1, 0, 0, 0, 0, l.map ofR⟩, sv 1, mt], 0, 0) := by
 have hc := (ZkU (Shp.set l) (by decide) (Cd.set (fold := false) (ff := Zjg) l hl) (by simp only [q5_, q7_]; omega) 0).2
 have := ZrL (x := y) (by rw [h]) (by rw [h]; exact hc)
 rw [this]
 rfl
theorem ZD7 {x : ByteArray} (h : 1 ≤ x.size) : ∃ z, ssl x 1 (x.size : Int) = some z ∧ bytes z = (bytes x).drop 1 := by
 refine ⟨x.extract 1 x.size, ?_, ?_⟩
 ·unfold ssl
  rw [if_pos ⟨by omega, by omega, by omega⟩]
  rfl
 ·show (x.extract 1 x.size).data.toList = _
  rw [ZDK, Array.toList_extract, List.extract_eq_take_drop]
  have : x.size - 1 = ((bytes x).drop 1).length := by rw [Zn5, ZqY]
  rw [this]
  exact List.take_length
theorem ZBw {s : List R2} (hs : Z2x s) (h0 : s ≠ []) (h5 : s.length ≤ 5) : ∀ (m i : Nat) (x : ByteArray), i + m = s.length → (∀ r ∈ s.take i, r.2 ≤ 255) → bytes x = 91 :: (s.take i).flatMap itB →
  Z4M (s.map ofR) x (s.map ofR) (s.length : Int) (i : Int) = some true := by
 have hr := Z5U hs
 intro m
 induction m with
 | zero =>
  intro i x h h255 hx
  rw [Zvq (by omega)] at h255 hx
  have hlen := (Zku s).1
  apply Za7
  unfold Z4K Z5Z
  have l0 : (bytes x).length = 9 * s.length + 1 := by rw [hx]; simp [hlen]
  have b1 : bytes (ByteArray.mk #[93]) = [93] := rfl
  have b2 : bytes (ByteArray.mk #[91, 94]) = [91, 94] := rfl
  obtain ⟨z, hz1, hz2⟩ := ZD7 (x := x) (by rw [ZqY]; omega)
  rw [hx] at hz2
  simp only [List.drop_succ_cons, ZoV] at hz2
  have lz : (bytes z).length = 9 * s.length := by rw [hz2, hlen]
  have p1 := Zs8 hs (ZqL false hs h0 h5 h255 (x ++ ByteArray.mk #[93]) (by rw [Z9b, hx, b1]; rfl))
  have p2 := Zs8 (Zoe hs) (ZqL true hs h0 h5 h255 (ByteArray.mk #[91, 94] ++ z ++ ByteArray.mk #[93]) (by rw [Z9b, Z9b, hz2, b1, b2]; simp))
  have ln := ZoM s 0
  rw [if_neg (Z21 (by omega)), Zif (by rw [b1]; simp only [q5_, q7_]; omega), ZV, p1, ZV, hz1, ZV, Zif (by rw [b2]; simp only [q5_, q7_]; omega), ZV, Zif (by rw [Z9b, q3_, b1, b2]; simp only [q5_, q7_]; omega), ZV, p2, ZV, ZrM hs, ZV]
  dsimp only
  rw [if_pos (by rfl), if_pos (by rfl), if_pos (by rfl), if_pos (by rfl), if_pos (by rfl), if_pos (by rfl)]
  rw [show lget [sv 0, (⟨1, 0, 0, 0, 0, s.map ofR⟩ : Zw), sv 1, mt] 1 = some ⟨1, 0, 0, 0, 0, s.map ofR⟩ from rfl, ZV, if_pos (by rfl), ZV, ZvI _ (by rw [Z8t]; omega), ZV, if_pos rfl,
   show lget [sv 0, (⟨1, 0, 0, 0, 0, (notF s).map ofR⟩ : Zw), sv 1, mt] 1 = some ⟨1, 0, 0, 0, 0, (notF s).map ofR⟩ from rfl, ZV, ZvI _ (by rw [Z8t]; unfold notF; omega), ZV]
 | succ m ih =>
  intro i x h h255 hx
  have hi : i < s.length := by omega
  have hlen := (Zku (s.take i)).1
  rw [List.length_take] at hlen
  have l0 : (bytes x).length ≤ 50 := by rw [hx]; simp [hlen]; omega
  apply Za7
  unfold Z4K Z6k
  rw [if_pos (Z2f (by omega)), ZkB hi, ZV]
  by_cases c : 255 < (ofR s[i]).Hi
  ·rw [if_pos (Z2f c)]
  rw [if_neg (Z21 c)]
  have c' : s[i].2 ≤ 255 := by
   have : ¬ 255 < s[i].2 := c
   omega
  have hri := hr s[i] (Zlz hi)
  unfold Z5X Z5Y
  have b1 : bytes (ByteArray.mk #[45]) = [45] := rfl
  have bx : ∀ u, bytes ⟨(xs u).toArray⟩ = xs u := fun u => rfl
  have lx : ∀ u, (xs u).length = 4 := fun u => rfl
  rw [ZDO (u := (ofR s[i]).Lo) (by show 0 ≤ s[i].1 ∧ s[i].1 ≤ 255; omega), ZV, Zif (by rw [bx, b1, lx]; simp), ZV, ZDO (u := (ofR s[i]).Hi) (by show 0 ≤ s[i].2 ∧ s[i].2 ≤ 255; omega), ZV, Zif (by rw [Z9b, q3_, bx, bx, b1, lx, lx]; simp), ZV,
   Zif (by rw [Z9b, Z9b, q3_, q3_, bx, bx, b1, lx, lx]; simp only [q5_, q7_]; omega), ZV, wrap_i64 (n := (i : Int) + 1) (by omega) (by omega)]
  refine ih (i + 1) _ (by omega) ?_ ?_
  ·intro r hr'
   rw [Zvr hi] at hr'
   rcases Zbs.1 hr' with hr' | hr'
   ·exact h255 r hr'
   ·simp at hr'; subst hr'; exact c'
  ·rw [Zvr hi, Z9b, Z9b, Z9b, hx, bx, bx, b1, List.flatMap_append]
   simp [itB, ofR]
theorem progOnes_val (x : List Z8) : Z9p x = some true := by
 apply Zgx
 unfold Z77
 rw [Zx1, ZV, if_neg (by simp)]
 unfold Z6i Z3W
 by_cases c1 : 5 < (x.length : Int)
 ·rw [if_pos (Z2f c1)]
 rw [if_neg (Z21 c1)]
 by_cases c2 : (x.length : Int) = 0
 ·rw [if_pos (Z2i c2)]
 rw [if_neg (Z2b c2)]
 have e := ZEi x
 generalize hs : x.map toR = s at e
 have hl : s.length = x.length := by rw [← hs, Z8t]
 subst e
 rw [ZBq s (by omega), ZV]
 by_cases c3 : ascB (-2) s = true
 ·rw [if_neg (by simp [c3])]
  unfold Z6j
  have hn : Z2x s := Z8g.2 ((ZsJ s (-2)).1 c3)
  have := ZBw hn (by rintro rfl; simp at c2) (by omega) s.length 0 (ByteArray.mk #[91]) (by omega) (by simp) rfl
  rw [Z8t]
  exact this
 ·rw [if_pos (by simpa using c3)]
end Go.Proofs.YtocikhhkicahoaaDoor.N2
end
section
namespace Go.Proofs.YtocikhhkicahoaaDoor
open Go Go.Abs Go.RowKit Go.ChangeShapes Go.WideShapes Go.ChangeAt
set_option maxRecDepth 100000 in
theorem ZqP (os : Os) (started : os.Started) (H : Type) (enc : TypeId × Value → H) :
  ReturnsInHanded {} Tryd.checked os 5 .any (fun w args => (Rows.progOnesSpec.pre enc Tryd.prog Tryd.f5 [] false w args ∧ laidMetH Tryd.prog ZhY w) ∧ sizedMet enc Tryd.prog Tryd.f5 (OpenSpec.ofChange Rows.progOnesSpec) false w args)
   (Rows.progOnesSpec.post enc Tryd.prog Tryd.f5 false true false false) := by
 refine returnsInHanded_of_change_and (C := Tryd.checked) (X := fun w _ => laidMetH Tryd.prog ZhY w) (fun _ _ _ hh h => h.of_heap hh) own started (by kernel_rfl) Tryd.func5
  (ChangeSpec.witness_shaped (enc := enc) (C := Tryd.checked) (os := os) (X := fun w _ => laidMetH Tryd.prog ZhY w) false (Zs4 os) #[.slice none 0 0] 8 rfl (World.shaped_of_RefB (by kernel_rfl) (by kernel_rfl)) (by kernel_rfl) (by kernel_rfl) (by kernel_rfl) (ZCD os _)) ?_
 intro W base args ds gs before hval0 hW _ hsz0 hL _
 have hval : ∀ (j : Nat) t v, Tryd.f5.params[j]? = some t → args[j]? = some v → Value.okWide Tryd.prog W .any base t v := hval0
 have hW' := hW
 have hlt := fun p hp => hW.lt p hp
 obtain ⟨p, q, hA0, hV, rfl, hfz, hnd⟩ := hW
 have hA : DataW.TrodAll enc Tryd.prog W 0 (fun _ => true) true Tryd.f5.params.toList args.toList ds p := hA0
 rw [Tryd.params5] at hA hval
 obtain ⟨v0, d0, rfl, rfl, h0⟩ := trodAll_one hA
 obtain ⟨rfl, rfl⟩ := trodVars_none hV
 obtain ⟨b0, len0, cap0, hs0⟩ := okWide_slice Tryd.underlying28 (hval 0 28 v0 rfl rfl)
 obtain ⟨x0, w0, r0⟩ := Go.Abs.row_one (base := base) (by rw [hs0]; rfl) h0 (Zwh (ee := N2.Zv) Tryd.underlying28 (of_decide_eq_true (by kernel_rfl)) (fun _ => rfl) (N2.ZqM 47 (by rfl) (by kernel_rfl)))
 clear hA0 hval0
 simp only [ZiN, Z9N] at hW' hlt
 have htab := ZED hL
 obtain ⟨q, hq, ex, rfl⟩ := N2.Zgy x0 .sh true (N2.progOnes_val x0 )
 refine (ZyR N2.fspec (Tabs.old htab) hq rfl ?_).mono ?_
 ·intro i x v hx hv
  match i with
  | 0 =>
   simp only [Zdo, q1_] at hx
   have hv' : v0 = v := by simpa using hv
   subst hx; subst hv'
   exact ⟨.p _ _ r0, rfl⟩
  | i + 1 => simp at hx
 ·rintro e W' ⟨v, S', β', rfl, bel, hr⟩
  have := Z4Y hr
  subst this
  refine ⟨_, rfl, _, _, _, [], _, [], hW', trodAll_mk1 (shut_bool Tryd.underlying4 _), trodAll_cons_mk (Below.trod laidOut (by kernel_rfl) (of_decide_eq_true (by kernel_rfl)) h0 bel (fun x hx => hlt x (by simp [hx]))) (trodAll_mk0), rfl, ?_, fun h => by cases h⟩
  exact bel.frame _
theorem ZrO : Rows.ProgOnesSaid :=
 OpenClaim.holds_of_wide 5 Tryd.f5 rfl rfl rfl rfl rfl rfl rfl ⟨rfl, rfl, rfl, rfl, rfl⟩ rfl rfl rfl rfl rfl (by kernel_rfl) Tryd.func5 (by kernel_rfl)
  (of_decide_eq_true (by kernel_rfl)) (by unfold Func.isWrapper; first | (rw [if_pos (by decide +kernel)]; kernel_rfl) | (rw [if_neg (by decide +kernel)]; exact ⟨rfl, rfl⟩))
  (fun os started H enc _ => ZqP os started H enc)
theorem progOnes_card : Rows.ProgOnesCardSaid :=
 Claim7.holds_tied_plain_at .later [] [.data, .pinned] true (true, "e07b5c6b66d562b60017c6efe40723018a2d94e29c465ada8e23d3efa3048f54") false
  ZrO (fun _ h => by cases h) (by kernel_rfl) (fun _ h => by cases h) progOnes_row_tie rfl ⟨rfl, rfl⟩ (by kernel_rfl) rfl
  (fun f fn hf hfn => by
   obtain rfl : f = 5 := Option.some.inj ((show Tryd.prog.funcNamed "colander/colanderlaw05.ProgOnes" = some 5 by kernel_rfl).symm.trans hf) |>.symm
   obtain rfl : fn = Tryd.f5 := (Option.some.inj (Tryd.func5.symm.trans hfn)).symm
   exact ⟨by kernel_rfl, fun j t ht => by
    rw [Tryd.params5] at ht
    have hm : t ∈ [28] := by simpa using Zvv ht
    have hall : ([28].all fun u => !Tryd.prog.wantsStandIn u) = true := by kernel_rfl
    exact (show Tryd.prog.wantsStandIn t = false by simpa using Z8u.1 hall t hm)⟩)
  (by kernel_rfl)
#print axioms progOnes_card
end Go.Proofs.YtocikhhkicahoaaDoor
end
