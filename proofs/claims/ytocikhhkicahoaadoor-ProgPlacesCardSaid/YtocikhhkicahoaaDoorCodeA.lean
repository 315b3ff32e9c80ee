/- What the writer of programs writes: code that can be moved. No condition. -/
import Derived.Test.YtocikhhkicahoaaDoorPlainB
import Derived.Test.YtocikhhkicahoaaDoorSim

set_option linter.unusedSimpArgs false
set_option linter.unusedVariables false
set_option linter.defProp false
section
namespace Go.Proofs.YtocikhhkicahoaaDoor.N2
open Go Go.Abs Go.Proofs.Unis Go.Proofs.Norm
set_option maxRecDepth 100000
def mv (a l : Int) (i : Zm) : Zm :=
 if i.Op = 2 then ⟨i.Op, i.A + a, i.B, i.C, i.D, i.Set⟩
 else if i.Op = 3 then ⟨i.Op, i.A + a, i.B + a, i.C, i.D, i.Set⟩
 else if i.Op = 7 ∨ i.Op = 8 then ⟨i.Op, i.A, i.B + a, i.C, i.D, i.Set⟩
 else if i.Op = 10 ∨ i.Op = 11 then ⟨i.Op, i.A + l, i.B, i.C, i.D, i.Set⟩
 else i
theorem Zjs (a l : Int) (i : Zm) : (mv a l i).Op = i.Op := by
 unfold mv
 repeat' split
 all_goals rfl
theorem ZHK (a l b m : Int) (i : Zm) : mv a l (mv b m i) = mv (b + a) (m + l) i := by
 unfold mv
 by_cases h2 : i.Op = 2
 ·simp only [h2, if_true, Int.add_assoc]
 by_cases h3 : i.Op = 3
 ·simp [h3, Int.add_assoc]
 by_cases h7 : i.Op = 7 ∨ i.Op = 8
 ·simp only [h2, h3, h7, if_true, if_false, Int.add_assoc]
 by_cases h10 : i.Op = 10 ∨ i.Op = 11
 ·simp only [h2, h3, h7, h10, if_true, if_false, Int.add_assoc]
 ·simp only [h2, h3, h7, h10, if_false]
def mvL (a l : Int) (c : List Zm) : List Zm := c.map (mv a l)
theorem Z1p (a l : Int) (c : List Zm) : (mvL a l c).length = c.length := by simp [mvL]
theorem ZbF (a l : Int) : mvL a l [] = [] := rfl
theorem Zcw (a l : Int) (i : Zm) (c : List Zm) : mvL a l (i :: c) = mv a l i :: mvL a l c := rfl
theorem Z9S (a l : Int) (c d : List Zm) : mvL a l (c ++ d) = mvL a l c ++ mvL a l d := by simp [mvL]
theorem Z9T (a l b m : Int) (c : List Zm) : mvL a l (mvL b m c) = mvL (b + a) (m + l) c := by
 simp only [mvL, ZoL]
 exact ZmV fun i _ => ZHK a l b m i
abbrev Cp := List Zm × Nat
def sp (a b : Int) : Zm := ⟨3, a, b, 0, 0, []⟩
def jp (a : Int) : Zm := ⟨2, a, 0, 0, 0, []⟩
def mk (a : Int) : Zm := ⟨10, a, 0, 0, 0, []⟩
def gd (a : Int) : Zm := ⟨11, a, 0, 0, 0, []⟩
def sv (a : Int) : Zm := ⟨4, a, 0, 0, 0, []⟩
def dn : Zm := ⟨9, 0, 0, 0, 0, []⟩
def spz (z : Bool) (a b : Int) : Zm := if z = true then sp b a else sp a b
theorem Zsw (a l x y : Int) : mv a l (sp x y) = sp (x + a) (y + a) := rfl
theorem Zyu (a l x : Int) : mv a l (jp x) = jp (x + a) := rfl
theorem ZHJ (a l x : Int) : mv a l (mk x) = mk (x + l) := rfl
theorem ZHI (a l x : Int) : mv a l (gd x) = gd (x + l) := rfl
theorem ZHL (a l x : Int) : mv a l (sv x) = sv x := rfl
theorem ZHH (a l : Int) : mv a l dn = dn := rfl
theorem ZBx (z : Bool) (a l x y : Int) : mv a l (spz z x y) = spz z (x + a) (y + a) := by cases z <;> rfl
def seqC : List Cp → Cp
 | [] => ([], 0)
 | d :: r => (d.1 ++ mvL d.1.length d.2 (seqC r).1, d.2 + (seqC r).2)
def preC : Int → List Cp → Cp
 | _, [] => ([], 0)
 | e, d :: r => (sp 1 (d.1.length + 2) :: (mvL 1 0 d.1 ++ jp e :: mvL (d.1.length + 2) d.2 (preC (e - (d.1.length + 2)) r).1), d.2 + (preC (e - (d.1.length + 2)) r).2)
def altC (P : List Cp) (d : Cp) : Cp :=
 ((preC ((preC 0 P).1.length + d.1.length) P).1 ++ mvL (preC 0 P).1.length (preC 0 P).2 d.1, (preC 0 P).2 + d.2)
def optC (z : Bool) (d : Cp) : Int → Nat → Cp
 | _, 0 => ([], 0)
 | e, m + 1 => (spz z 1 e :: (mvL 1 0 d.1 ++ mvL (d.1.length + 1) d.2 (optC z d (e - (d.1.length + 1)) m).1), d.2 + (optC z d (e - (d.1.length + 1)) m).2)
def optH (d : Cp) : Int → Nat → Cp
 | _, 0 => ([], 0)
 | e, m + 1 => (sp e e :: (mvL 1 0 d.1 ++ mvL (d.1.length + 1) d.2 (optH d (e - (d.1.length + 1)) m).1), d.2 + (optH d (e - (d.1.length + 1)) m).2)
def Z7u (z : Bool) (d : Cp) : Cp := (spz z 1 (d.1.length + 4) :: mk 0 :: (mvL 2 1 d.1 ++ [gd 0, jp 0]), d.2 + 1)
def repC (lo hi : Int) (z : Bool) (d : Cp) : Cp :=
 seqC [seqC (List.replicate lo.toNat d), if hi < 0 then Z7u z d else optC z d ((optC z d 0 (hi - lo).toNat).1.length) (hi - lo).toNat]
def Z4K (op a c e : Int) (d : Cp) : Cp := (⟨op, a, d.1.length + 2, c, e, []⟩ :: (mvL 1 0 d.1 ++ [dn]), d.2)
theorem ZiN (P : List Cp) : ∀ (e e' : Int), (preC e P).1.length = (preC e' P).1.length ∧ (preC e P).2 = (preC e' P).2 := by
 induction P with
 | nil => intro e e'; exact ⟨rfl, rfl⟩
 | cons d r ih =>
  intro e e'
  have := ih (e - (d.1.length + 2)) (e' - (d.1.length + 2))
  simp only [preC, q5_, q3_, Z1p, this]
  exact ⟨trivial, trivial⟩
theorem Zeh (z : Bool) (d : Cp) : ∀ (m : Nat) (e e' : Int), (optC z d e m).1.length = (optH d e' m).1.length ∧ (optC z d e m).2 = (optH d e' m).2 := by
 intro m
 induction m with
 | zero => intro e e'; exact ⟨rfl, rfl⟩
 | succ m ih =>
  intro e e'
  have := ih (e - (d.1.length + 1)) (e' - (d.1.length + 1))
  simp only [optC, optH, q5_, q3_, Z1p, this]
  exact ⟨trivial, trivial⟩
def Lk (p : Cp) : Prop := p.2 ≤ p.1.length
theorem ZkL : ∀ {P : List Cp}, (∀ p ∈ P, Lk p) → Lk (seqC P)
 | [], _ => Z2A _
 | d :: r, h => by
  have h1 := h d (Zao ..)
  have h2 := ZkL (P := r) fun p hp => h p (ZbJ _ hp)
  unfold Lk at *
  simp only [seqC, q3_, Z1p]
  omega
theorem ZrD : ∀ {P : List Cp} (e : Int), (∀ p ∈ P, Lk p) → Lk (preC e P)
 | [], _, _ => Z2A _
 | d :: r, e, h => by
  have h1 := h d (Zao ..)
  have h2 := ZrD (P := r) (e - (d.1.length + 2)) fun p hp => h p (ZbJ _ hp)
  unfold Lk at *
  simp only [preC, q3_, q5_, Z1p]
  omega
theorem ZEq {z : Bool} {d : Cp} (h : Lk d) : ∀ (m : Nat) (e : Int), Lk (optC z d e m) := by
 intro m
 induction m with
 | zero => intro e; exact Z2A _
 | succ m ih =>
  intro e
  have := ih (e - (d.1.length + 1))
  unfold Lk at *
  simp only [optC, q3_, q5_, Z1p]
  omega
theorem ZCR {z : Bool} {d : Cp} (h : Lk d) : Lk (Z7u z d) := by
 unfold Lk at *
 simp only [Z7u, q3_, q5_, Z1p, q9_]
 omega
theorem ZDU {P : List Cp} {d : Cp} (h : ∀ p ∈ P, Lk p) (hd : Lk d) : Lk (altC P d) := by
 have h1 := ZrD 0 h
 have h2 := ZiN P ((preC 0 P).1.length + d.1.length) 0
 unfold Lk at *
 simp only [altC, q3_, Z1p]
 omega
theorem ZoX {op a c e : Int} {d : Cp} (h : Lk d) : Lk (Z4K op a c e d) := by
 unfold Lk at *
 simp only [Z4K, q3_, q5_, Z1p]
 omega
theorem ZrI {lo hi : Int} {z : Bool} {d : Cp} (h : Lk d) : Lk (repC lo hi z d) := by
 unfold repC
 apply ZkL
 intro p hp
 simp only [Z5C, ZoO, or_false] at hp
 rcases hp with rfl | rfl
 ·exact ZkL fun q hq => by rw [ZyE hq]; exact h
 ·split
  ·exact ZCR h
  ·exact ZEq h _ _
theorem ZwU (a b : Cp) : seqC [a, b] = (a.1 ++ mvL a.1.length a.2 b.1, a.2 + b.2) := by
 simp [seqC, ZbF]
inductive Cd (fold : Bool) (ff : List R2 → List R2) : Z9 → Cp → Prop
 | none : Cd fold ff nd0 ([], 0)
 | set (l : List R2) : Z2R l → Cd fold ff (setN l) ([⟨1, 0, 0, 0, 0, (if fold = true then ff l else l).map ofR⟩], 0)
 | cat (l : List Z9) (P : List Cp) : l.length ≤ 3000 → P.length = l.length → (∀ (i : Nat) (x : Z9) (p : Cp), l[i]? = some x → P[i]? = some p → Cd fold ff x p) → Cd fold ff ⟨2, 0, 0, 0, 0, [], l⟩ (seqC P)
 | alt (l : List Z9) (P : List Cp) (y : Z9) (q : Cp) : 1 ≤ l.length → l.length + 1 ≤ 3000 → P.length = l.length → (∀ (i : Nat) (x : Z9) (p : Cp), l[i]? = some x → P[i]? = some p → Cd fold ff x p) → Cd fold ff y q →
   Cd fold ff ⟨3, 0, 0, 0, 0, [], l ++ [y]⟩ (altC P q)
 | rep (lo hi m : Int) (x : Z9) (p : Cp) : 0 ≤ lo ∧ lo ≤ 64 → hi = -1 ∨ (lo ≤ hi ∧ hi ≤ 64) → m ≠ 2 → Cd fold ff x p → Cd fold ff ⟨4, lo, hi, m, 0, [], [x]⟩ (repC lo hi (m == 1) p)
 | repA (lo hi : Int) (x : Z9) (p : Cp) : 0 ≤ lo ∧ lo ≤ 64 → hi = -1 ∨ (lo ≤ hi ∧ hi ≤ 64) → Cd fold ff x p → Cd fold ff ⟨4, lo, hi, 2, 0, [], [x]⟩ (Z4K 8 0 0 0 (repC lo hi false p))
 | group (r : Int) (x : Z9) (p : Cp) : 1 ≤ r ∧ r ≤ 9 → Cd fold ff x p → Cd fold ff ⟨5, 0, 0, 0, r, [], [x]⟩ (sv (2 * r) :: (mvL 1 0 p.1 ++ [sv (2 * r + 1)]), p.2)
 | back (r : Int) : 1 ≤ r ∧ r ≤ 9 → Cd fold ff ⟨6, 0, 0, 0, r, [], []⟩ ([⟨5, r, if fold = true then 1 else 0, 0, 0, []⟩], 0)
 | look (m : Int) (x : Z9) (p : Cp) (v : Sh) : 0 ≤ m ∧ m ≤ 3 → Shp x v → Cd fold ff x p → Cd fold ff ⟨7, 0, 0, m, 0, [], [x]⟩ (Z4K 7 m (if 2 ≤ m then v.lo else 0) (if 2 ≤ m then v.hi else 0) p)
 | atomic (x : Z9) (p : Cp) : Cd fold ff x p → Cd fold ff ⟨8, 0, 0, 0, 0, [], [x]⟩ (Z4K 8 0 0 0 p)
 | edge (k : Int) : 0 ≤ k ∧ k ≤ 3 → Cd fold ff (edge k) ([⟨6, k, 0, 0, 0, []⟩], 0)
theorem ZsO {fold : Bool} {ff : List R2 → List R2} {l : List Z9} (h : ∀ x ∈ l, ∃ p, Cd fold ff x p) : ∃ P : List Cp, P.length = l.length ∧ ∀ (i : Nat) (x : Z9) (p : Cp), l[i]? = some x → P[i]? = some p → Cd fold ff x p := by
 induction l with
 | nil => exact ⟨[], rfl, by simp⟩
 | cons y r ih =>
  obtain ⟨v, hv⟩ := h y (Zao ..)
  obtain ⟨V, h1, h2⟩ := ih fun x hx => h x (ZbJ _ hx)
  refine ⟨v :: V, by simp [h1], fun i x u hx hu => ?_⟩
  cases i with
  | zero => simp at hx hu; subst hx hu; exact hv
  | succ i => exact h2 i x u (by simpa using hx) (by simpa using hu)
theorem ZE7 (fold : Bool) (ff : List R2 → List R2) {n : Z9} (h : Good n) : ∃ p, Cd fold ff n p := by
 induction h with
 | none => exact ⟨_, .none⟩
 | set l hl => exact ⟨_, .set l hl⟩
 | row k l hk h2 h3 _ ih =>
  rcases hk with rfl | rfl
  ·obtain ⟨P, q1, q2⟩ := ZsO ih
   exact ⟨_, .cat l P h3 q1 q2⟩
  ·have hne : l ≠ [] := by rintro rfl; simp at h2
   have e := List.dropLast_concat_getLast hne
   obtain ⟨P, q1, q2⟩ := ZsO (l := l.dropLast) fun x hx => ih x ((List.dropLast_sublist l).subset hx)
   obtain ⟨p, hp⟩ := ih _ (List.getLast_mem hne)
   have hl := congrArg List.length e
   rw [q3_, ZiR] at hl
   have := Cd.alt l.dropLast P _ p (by omega) (by omega) q1 q2 hp
   rw [e] at this
   exact ⟨_, this⟩
 | rep lo hi m x h1 h2 h3 _ ih =>
  obtain ⟨p, hp⟩ := ih
  by_cases hm : m = 2
  ·subst hm; exact ⟨_, .repA lo hi x p h1 h2 hp⟩
  ·exact ⟨_, .rep lo hi m x p h1 h2 hm hp⟩
 | group r x hr _ ih => obtain ⟨p, hp⟩ := ih; exact ⟨_, .group r x p hr hp⟩
 | back r hr => exact ⟨_, .back r hr⟩
 | look m x hm hx ih =>
  obtain ⟨p, hp⟩ := ih
  obtain ⟨v, hv⟩ := ZCG hx
  exact ⟨_, .look m x p v hm hv hp⟩
 | atomic x _ ih => obtain ⟨p, hp⟩ := ih; exact ⟨_, .atomic x p hp⟩
 | edge k hk => exact ⟨_, .edge k hk⟩
theorem Zd5 {α β : Type} {l : List α} {P : List β} {R : α → β → Prop} {Q : β → Prop} (hl : P.length = l.length) (h : ∀ (i : Nat) (x : α) (p : β), l[i]? = some x → P[i]? = some p → Q p) : ∀ p ∈ P, Q p := by
 intro p hp
 obtain ⟨i, hi⟩ := Zcz.1 hp
 have hil : i < l.length := by have := (q2_.1 hi).1; omega
 exact h i _ p (q4_ hil) hi
theorem ZnC {α : Type} (l r : List α) (h : l.length + r.length ≤ 1000000000) : lapp l r = some (l ++ r) := by
 unfold lapp
 rw [if_pos (Zhr h (by decide))]
theorem ZiL {α : Type} (u : List α) (s : α) (w : List α) {i : Int} (h : i = u.length) : lget (u ++ s :: w) i = some s := by
 subst h
 rw [Z44]
 simp
theorem Zln {α : Type} (u : List α) (s t : α) (w : List α) {i : Int} (h : i = u.length) : lset (u ++ s :: w) i t = u ++ t :: w := by
 subst h
 simp [lset]
theorem Zv8 {a a' l l' : Int} {c : List Zm} (h : a = a') (h' : l = l') : mvL a l c = mvL a' l' c := by rw [h, h']
theorem Z8x (x : Zm) (out : List Zm) (h : out.length ≤ 100000) : Z1n x out = some ((out.length : Int), out ++ [x]) := by
 apply ZiH
 unfold Z8s
 rw [ZnC _ _ (by simp; omega), q0_, q3_, ZiR, wrap_i64 (by omega) (by omega)]
 congr 2
 omega
theorem Znd (u : List Zm) (s : Zm) (w : List Zm) (at_ p q : Int) (z : Bool) (h : at_ = u.length) :
  Z4T at_ p q z (u ++ s :: w) = some (u ++ ⟨s.Op, if z = true then q else p, if z = true then p else q, s.C, s.D, s.Set⟩ :: w) := by
 apply Zhm
 unfold Z7G Z51
 cases z
 ·rw [if_neg (by simp)]
  simp only [ZiL _ _ _ h, Zln _ _ _ _ h, q0_]
  rfl
 ·rw [if_pos rfl]
  simp only [ZiL _ _ _ h, Zln _ _ _ _ h, q0_]
  rfl
def Wr (fold : Bool) (n : Z9) (p : Cp) : Prop :=
 Lk p ∧ ∀ (out : List Zm) (lp : Int), out.length + p.1.length ≤ 10000 → 0 ≤ lp ∧ lp ≤ out.length →
  Z1V n out fold lp = some (out ++ mvL out.length lp p.1, lp + p.2)
theorem Zih {fold : Bool} {n : Z9} {p : Cp} (h : ∀ (out : List Zm) (lp : Int), out.length + p.1.length ≤ 10000 → 0 ≤ lp ∧ lp ≤ out.length → Z1V n out fold lp = some (out ++ mvL out.length lp p.1, lp + p.2))
  {o : List Zm} {a lp : Int} (ha : ((o.length : Nat) : Int) = a) (h1 : o.length + p.1.length ≤ 10000) (h2 : 0 ≤ lp ∧ lp ≤ a) : Z1V n o fold lp = some (o ++ mvL a lp p.1, lp + p.2) := by
 subst ha
 exact h o lp h1 h2
theorem ZqH (o : List Zm) (x : Zm) {k : Int} (h : o.length ≤ 100000) (hk : ((o.length : Nat) : Int) = k) : Z1n x o = some (k, o ++ [x]) := by
 subst hk
 exact Z8x x o h
theorem ZCa {fold : Bool} {l : List Z9} {P : List Cp} (hl : l.length ≤ 3000) (hP : P.length = l.length) (hK : ∀ (i : Nat) (x : Z9) (p : Cp), l[i]? = some x → P[i]? = some p → Wr fold x p) :
  ∀ (m i : Nat) (out : List Zm) (lp : Int), i + m = l.length → out.length + (seqC (P.drop i)).1.length ≤ 10000 → 0 ≤ lp ∧ lp ≤ out.length →
   Z52 l (l.length : Int) (i : Int) out fold lp = some (out ++ mvL out.length lp (seqC (P.drop i)).1, lp + (seqC (P.drop i)).2) := by
 intro m
 induction m with
 | zero =>
  intro i out lp h hb hp
  apply Zas
  unfold Z50
  rw [if_neg (Z2a (by omega)), Zg6 (by omega)]
  simp [seqC, ZbF]
 | succ m ih =>
  intro i out lp h hb hp
  have hil : i < l.length := by omega
  obtain ⟨k1, k2⟩ := hK i l[i] P[i] (q4_ hil) (q4_ (by omega))
  rw [Zg7 (show i < P.length by omega)] at hb ⊢
  simp only [seqC, q3_, Z1p] at hb
  apply Zas
  unfold Z50 Z6y
  unfold Lk at k1
  rw [if_pos (Z1Q (by omega)), Z44, q4_ hil, q0_, k2 out lp (by omega) hp, q0_, wrap_i64 (n := (i : Int) + 1) (by omega) (by omega)]
  have e := ih (i + 1) (out ++ mvL out.length lp P[i].1) (lp + P[i].2) (by omega) (by rw [q3_, Z1p]; omega) (by rw [q3_, Z1p]; omega)
  refine e.trans ?_
  simp only [seqC, q3_, Z1p, Z9S, Z9T, Z9O]
  rw [Zv8 (a := ((out.length + P[i].1.length : Nat) : Int)) (a' := (P[i].1.length : Int) + out.length) (l := lp + P[i].2) (l' := (P[i].2 : Int) + lp) (by omega) (by omega)]
  congr 2
  omega
def ZeT (a : Int) : List Cp → List Int
 | [] => []
 | d :: r => (a + d.1.length + 1) :: ZeT (a + (d.1.length + 2)) r
theorem Zp8 (P : List Cp) : ∀ a, (ZeT a P).length = P.length := by
 induction P with
 | nil => intro a; rfl
 | cons d r ih => intro a; simp [ZeT, ih]
theorem ZC7 {fold : Bool} {l : List Z9} {P : List Cp} (y : Z9) (hl : l.length + 1 ≤ 3000) (hP : P.length = l.length) (hK : ∀ (i : Nat) (x : Z9) (p : Cp), l[i]? = some x → P[i]? = some p → Wr fold x p) :
  ∀ (m i : Nat) (acc : List Int) (out : List Zm) (lp : Int), i + m = l.length → acc.length = i → out.length + (preC 0 (P.drop i)).1.length ≤ 10000 → 0 ≤ lp ∧ lp ≤ out.length →
   ∀ r, Z5v (l ++ [y]) (acc ++ ZeT out.length (P.drop i)) (l.length : Int) (out ++ mvL out.length lp (preC (-(out.length : Int)) (P.drop i)).1) fold (lp + (preC 0 (P.drop i)).2) = some r →
    Z5Z (l ++ [y]) acc (l.length : Int) l (l.length : Int) (i : Int) out fold lp = some r := by
 intro m
 induction m with
 | zero =>
  intro i acc out lp h ha hb hp r e
  apply Zb0
  unfold Z5X
  rw [if_neg (Z2a (by omega))]
  rw [Zg6 (by omega)] at e
  simpa [preC, ZeT, ZbF] using e
 | succ m ih =>
  intro i acc out lp h ha hb hp r e
  have hil : i < l.length := by omega
  obtain ⟨k1, k2⟩ := hK i l[i] P[i] (q4_ hil) (q4_ (by omega))
  rw [Zg7 (show i < P.length by omega)] at hb e
  unfold Lk at k1
  have hl2 := (ZiN (P.drop (i + 1)) (0 - (P[i].1.length + 2)) 0)
  simp only [preC, q3_, q5_, Z1p, hl2] at hb
  generalize hd : P[i] = d at *
  have s1 := Z8x (sp 0 0) out (by omega)
  have s2 := Zih (o := out ++ [sp 0 0]) k2 (a := (out.length : Int) + 1) (lp := lp) (by simp) (by simp only [q3_, q5_, q9_]; omega) (by omega)
  simp only [Z9O, ZsB] at s2
  have s3 := ZqH (out ++ sp 0 0 :: mvL ((out.length : Int) + 1) lp d.1) (jp 0) (k := out.length + d.1.length + 1) (by simp only [q3_, q5_, Z1p]; omega) (by simp only [q3_, q5_, Z1p]; omega)
  simp only [Z9O, ZcA] at s3
  have s4 := Znd out (sp 0 0) (mvL ((out.length : Int) + 1) lp d.1 ++ [jp 0]) out.length (out.length + 1) ((out.length : Int) + (d.1.length + 2)) false rfl
  have hT : (((out ++ sp 0 0 :: (mvL ((out.length : Int) + 1) lp d.1 ++ [jp 0])).length : Nat) : Int) = (out.length : Int) + (d.1.length + 2) := by
   simp only [q3_, q5_, q9_, Z1p]
   omega
  have e2 := ih (i + 1) (acc ++ [(out.length : Int) + d.1.length + 1]) (out ++ sp (out.length + 1) ((out.length : Int) + (d.1.length + 2)) :: (mvL ((out.length : Int) + 1) lp d.1 ++ [jp 0])) (lp + d.2) (by omega) (by simp only [q3_, ZiR]; omega)
   (by simp only [q3_, q5_, q9_, Z1p]; omega) (by simp only [q3_, q5_, q9_, Z1p]; omega) r ?_
  ·apply Zb0
   unfold Z5X Z7f
   rw [if_pos (Z1Q (by omega)), Z44, q4_ hil, q0_]
   simp only [sp, jp] at s1 s2 s3 s4 hT
   rw [s1, q0_]
   dsimp only
   rw [s2, q0_]
   dsimp only
   rw [s3, q0_]
   dsimp only
   rw [ZnC _ _ (by simp only [ZiR]; omega), q0_, wrap_i64 (n := (i : Int) + 1) (by omega) (by omega), wrap_i64 (n := (out.length : Int) + 1) (by omega) (by omega), hT, s4, q0_]
   exact e2
  ·refine Eq.trans ?_ e
   have hT' : (((out ++ sp (out.length + 1) ((out.length : Int) + (d.1.length + 2)) :: (mvL ((out.length : Int) + 1) lp d.1 ++ [jp 0])).length : Nat) : Int) = (out.length : Int) + (d.1.length + 2) := by
    simp only [q3_, q5_, q9_, Z1p]
    omega
   rw [hT']
   simp only [preC, ZeT, Z9S, Zcw, Z9T, Zsw, Zyu, Z9O, ZcA, Zdx]
   rw [show (1 : Int) + out.length = (out.length : Int) + 1 by omega, show ((d.1.length : Int) + 2 + out.length) = (out.length : Int) + (d.1.length + 2) by omega, show -(out.length : Int) + out.length = 0 by omega, show (d.2 : Int) + lp = lp + d.2 by omega, show (0 : Int) + lp = lp by omega,
    show -(out.length : Int) - (d.1.length + 2) = -((out.length : Int) + (d.1.length + 2)) by omega, hl2.2]
   congr 1
   omega
theorem ZDh (E : List Int) (hE : E.length ≤ 3000) (T : Int) (lp' : Int) : ∀ (P : List Cp) (j : Nat) (u w : List Zm) (lp e : Int), j + P.length = E.length → E.drop j = ZeT u.length P →
  (((u ++ (mvL u.length lp (preC e P).1 ++ w)).length : Nat) : Int) = T →
  Z5z E (E.length : Int) (j : Int) (u ++ (mvL u.length lp (preC e P).1 ++ w)) lp' = some (u ++ (mvL u.length lp (preC (T - u.length) P).1 ++ w), lp') := by
 intro P
 induction P with
 | nil =>
  intro j u w lp e h1 h2 h3
  apply ZaT
  unfold Z5u
  simp only [q9_] at h1
  rw [if_neg (Z2a (by omega))]
  rfl
 | cons d P ih =>
  intro j u w lp e h1 h2 h3
  simp only [q5_] at h1
  have hj : j < E.length := by omega
  rw [Zg7 hj] at h2
  simp only [ZeT, Zlx] at h2
  apply ZaT
  unfold Z5u Z6Z
  rw [if_pos (Z1Q (by omega)), Z44, q4_ hj, q0_, h2.1, h3]
  have eo : ∀ e, u ++ (mvL u.length lp (preC e (d :: P)).1 ++ w) = (u ++ (sp (u.length + 1) (u.length + (d.1.length + 2)) :: mvL (u.length + 1) lp d.1)) ++ jp (e + u.length) :: (mvL (u.length + (d.1.length + 2)) (lp + d.2) (preC (e - (d.1.length + 2)) P).1 ++ w) := by
   intro e
   simp only [preC, Z9S, Zcw, Z9T, Zsw, Zyu, Z9O, ZcA]
   rw [show (1 : Int) + u.length = (u.length : Int) + 1 by omega, show ((d.1.length : Int) + 2 + u.length) = (u.length : Int) + (d.1.length + 2) by omega, show (d.2 : Int) + lp = lp + d.2 by omega, show (0 : Int) + lp = lp by omega]
  have hu : (u.length : Int) + d.1.length + 1 = (((u ++ (sp (u.length + 1) (u.length + (d.1.length + 2)) :: mvL (u.length + 1) lp d.1)).length : Nat) : Int) := by
   simp only [q3_, q5_, Z1p]
   omega
  rw [eo e, ZiL _ _ _ hu, q0_, q0_, Zln _ _ _ _ hu, wrap_i64 (n := (j : Int) + 1) (by omega) (by omega)]
  have e2 := ih (j + 1) (u ++ (sp (u.length + 1) (u.length + (d.1.length + 2)) :: (mvL (u.length + 1) lp d.1 ++ [jp T]))) w (lp + d.2) (e - (d.1.length + 2)) (by omega)
   (by rw [h2.2]; congr 1; simp only [q3_, q5_, q9_, Z1p]; omega)
   (by rw [← h3, eo e]; simp only [q3_, q5_, q9_, Z1p]; omega)
  have hu2 : (((u ++ (sp (u.length + 1) (u.length + (d.1.length + 2)) :: (mvL (u.length + 1) lp d.1 ++ [jp T]))).length : Nat) : Int) = u.length + (d.1.length + 2) := by
   simp only [q3_, q5_, q9_, Z1p]
   omega
  rw [hu2] at e2
  rw [eo (T - u.length)]
  simp only [Z9O, ZcA, Zdx] at e2 ⊢
  rw [show T - (u.length : Int) + u.length = T by omega, show T - (u.length : Int) - (d.1.length + 2) = T - (u.length + (d.1.length + 2)) by omega]
  exact e2
theorem ZDi {fold : Bool} {l : List Z9} {P : List Cp} {y : Z9} {q : Cp} (hl : l.length + 1 ≤ 3000) (hP : P.length = l.length) (hK : ∀ (i : Nat) (x : Z9) (p : Cp), l[i]? = some x → P[i]? = some p → Wr fold x p) (hy : Wr fold y q)
  (out : List Zm) (lp : Int) (hb : out.length + (altC P q).1.length ≤ 10000) (hp : 0 ≤ lp ∧ lp ≤ out.length) :
  Z6T (l ++ [y]) out fold lp = some (out ++ mvL out.length lp (altC P q).1, lp + (altC P q).2) := by
 have hlk : Lk (preC 0 P) := ZrD 0 (Zd5 (R := fun _ _ => True) hP fun i x p h1 h2 => (hK i x p h1 h2).1)
 unfold Lk at hlk
 have n1 := (ZiN P ((preC 0 P).1.length + q.1.length) 0).1
 have n2 := (ZiN P (-(out.length : Int)) 0).1
 simp only [altC, q3_, Z1p, n1] at hb
 apply ZiF
 unfold Z8r
 have es : lsl (l ++ [y]) 0 (IntKind.i64.wrap (((l ++ [y]).length : Int) - 1)) = some l := by
  rw [q3_, ZiR, wrap_i64 (by omega) (by omega)]
  unfold lsl
  rw [if_pos (by simp only [q3_, ZiR]; omega), show (((l.length + 1 : Nat) : Int) - 1).toNat = l.length by omega]
  simp
 rw [es, q0_, q3_, ZiR, wrap_i64 (by omega) (by omega), show ((l.length + 1 : Nat) : Int) - 1 = l.length by omega]
 have h0 : (0 : Int) = ((0 : Nat) : Int) := rfl
 rw [h0]
 refine ZC7 y hl hP hK l.length 0 [] out lp (by omega) rfl (by rw [ZrG]; omega) hp _ ?_
 rw [ZrG, Zdx]
 unfold Z5v
 have hL : (((out ++ mvL out.length lp (preC (-(out.length : Int)) P).1).length : Nat) : Int) = out.length + (preC 0 P).1.length := by
  rw [q3_, Z1p, n2]; omega
 have hL' : (out ++ mvL out.length lp (preC (-(out.length : Int)) P).1).length = out.length + (preC 0 P).1.length := by omega
 rw [Z44, Zei (by omega), show l.length - l.length = 0 by omega]
 rw [show [y][0]? = some y from rfl, q0_, Zih hy.2 hL (by omega) (by omega), q0_]
 dsimp only
 have hT : (((out ++ (mvL out.length lp (preC (-(out.length : Int)) P).1 ++ mvL (out.length + (preC 0 P).1.length) (lp + (preC 0 P).2) q.1)).length : Nat) : Int) = out.length + ((preC 0 P).1.length + q.1.length) := by
  simp only [q3_, Z1p, n2]
  omega
 have e := ZDh (ZeT out.length P) (by rw [Zp8]; omega) _ (lp + ((preC 0 P).2 : Int) + q.2) P 0 out (mvL (out.length + (preC 0 P).1.length) (lp + (preC 0 P).2) q.1) lp (-(out.length : Int)) (by rw [Zp8]; omega) rfl hT
 rw [Z9O]
 refine e.trans ?_
 rw [show (out.length : Int) + ((preC 0 P).1.length + q.1.length) - out.length = (preC 0 P).1.length + q.1.length by omega]
 simp only [altC, Z9S, Z9T]
 rw [show ((preC 0 P).1.length : Int) + out.length = out.length + (preC 0 P).1.length by omega, show ((preC 0 P).2 : Int) + lp = lp + (preC 0 P).2 by omega]
 congr 2
 omega
end Go.Proofs.YtocikhhkicahoaaDoor.N2
end
section
namespace Go.Proofs.YtocikhhkicahoaaDoor.N2
open Go Go.Abs Go.Proofs.Unis Go.Proofs.Norm
set_option maxRecDepth 100000
def Zfl (a k : Int) : Nat → List Int
 | 0 => []
 | m + 1 => a :: Zfl (a + (k + 1)) k m
theorem ZqR (k : Int) : ∀ (m : Nat) (a : Int), (Zfl a k m).length = m := by
 intro m
 induction m with
 | zero => intro a; rfl
 | succ m ih => intro a; simp [Zfl, ih]
section
variable {fold : Bool} {n x : Z9} {p : Cp} (hn : n.Kids = [x]) (hx : Wr fold x p)
include hn
include hx in
theorem ZCd (z : Bool) (cnt : Nat) (hc : cnt ≤ 64) : ∀ (m i : Nat) (acc : List Int) (out : List Zm) (lp : Int), i + m = cnt → acc.length = i → out.length + (optH p 0 m).1.length ≤ 10000 → 0 ≤ lp ∧ lp ≤ out.length →
  ∀ r, Z4A z (acc ++ Zfl out.length p.1.length m) (out ++ mvL out.length lp (optH p (-(out.length : Int)) m).1) (lp + (optH p 0 m).2) = some r →
   Z4E z acc (cnt : Int) (i : Int) out fold lp n = some r := by
 intro m
 induction m with
 | zero =>
  intro i acc out lp h ha hb hp r e
  apply Z9H
  unfold Z4y
  rw [if_neg (Z2a (by omega))]
  simpa [optH, Zfl, ZbF] using e
 | succ m ih =>
  intro i acc out lp h ha hb hp r e
  obtain ⟨k1, k2⟩ := hx
  unfold Lk at k1
  have hl2 : ∀ e, (optH p e m).1.length = (optH p 0 m).1.length ∧ (optH p e m).2 = (optH p 0 m).2 := fun e => by
   have a := Zeh false p m 0 e
   have b := Zeh false p m 0 0
   exact ⟨by omega, by omega⟩
  simp only [optH, q3_, q5_, Z1p, hl2 (0 - (p.1.length + 1))] at hb
  have s1 := Z8x (sp 0 0) out (by omega)
  have s2 := Zih (o := out ++ [sp 0 0]) k2 (a := (out.length : Int) + 1) (lp := lp) (by simp) (by simp only [q3_, q5_, q9_]; omega) (by omega)
  simp only [Z9O, ZsB] at s2
  have hT : (((out ++ sp 0 0 :: mvL ((out.length : Int) + 1) lp p.1).length : Nat) : Int) = (out.length : Int) + (p.1.length + 1) := by
   simp only [q3_, q5_, Z1p]
   omega
  have e2 := ih (i + 1) (acc ++ [(out.length : Int)]) (out ++ sp 0 0 :: mvL ((out.length : Int) + 1) lp p.1) (lp + p.2) (by omega) (by simp only [q3_, ZiR]; omega)
   (by simp only [q3_, q5_, Z1p]; omega) (by omega) r ?_
  ·apply Z9H
   unfold Z4y Z66
   rw [if_pos (Z1Q (by omega)), hn]
   simp only [sp] at s1 s2
   rw [s1, q0_]
   dsimp only
   rw [ZnC _ _ (by simp only [ZiR]; omega), q0_, show lget [x] 0 = some x from rfl, q0_, s2, q0_, wrap_i64 (n := (i : Int) + 1) (by omega) (by omega)]
   exact e2
  ·refine Eq.trans ?_ e
   rw [hT]
   simp only [optH, Zfl, Z9S, Zcw, Z9T, Zsw, Z9O, ZcA, Zdx]
   rw [show (1 : Int) + out.length = (out.length : Int) + 1 by omega, show ((p.1.length : Int) + 1 + out.length) = (out.length : Int) + (p.1.length + 1) by omega, show -(out.length : Int) + out.length = 0 by omega, show (p.2 : Int) + lp = lp + p.2 by omega, show (0 : Int) + lp = lp by omega,
    show -(out.length : Int) - (p.1.length + 1) = -((out.length : Int) + (p.1.length + 1)) by omega]
   have := (hl2 (0 - (p.1.length + 1))).2
   have := (hl2 (-((out.length : Int) + (p.1.length + 1)))).2
   congr 1
   omega
omit hn in
theorem ZDj (z : Bool) (E : List Int) (hE : E.length ≤ 3000) (T : Int) (lp' : Int) (hb : T ≤ 100000) : ∀ (m : Nat) (j : Nat) (u : List Zm) (lp e : Int), j + m = E.length → E.drop j = Zfl u.length p.1.length m →
  (((u ++ mvL u.length lp (optH p e m).1).length : Nat) : Int) = T →
  Z4F z E (E.length : Int) (j : Int) (u ++ mvL u.length lp (optH p e m).1) lp' = some (u ++ mvL u.length lp (optC z p (T - u.length) m).1, lp') := by
 intro m
 induction m with
 | zero =>
  intro j u lp e h1 h2 h3
  apply Z9J
  unfold Z4z
  rw [if_neg (Z2a (by omega))]
  rfl
 | succ m ih =>
  intro j u lp e h1 h2 h3
  have hj : j < E.length := by omega
  rw [Zg7 hj] at h2
  simp only [Zfl, Zlx] at h2
  have hu : u.length ≤ T := by rw [← h3, q3_]; omega
  apply Z9J
  unfold Z4z Z67
  rw [if_pos (Z1Q (by omega)), Z44, q4_ hj, q0_, h2.1, h3]
  have eo : u ++ mvL u.length lp (optH p e (m + 1)).1 = u ++ sp (e + u.length) (e + u.length) :: (mvL (u.length + 1) lp p.1 ++ mvL (u.length + (p.1.length + 1)) (lp + p.2) (optH p (e - (p.1.length + 1)) m).1) := by
   simp only [optH, Z9S, Zcw, Z9T, Zsw]
   rw [show (1 : Int) + u.length = (u.length : Int) + 1 by omega, show ((p.1.length : Int) + 1 + u.length) = (u.length : Int) + (p.1.length + 1) by omega, show (p.2 : Int) + lp = lp + p.2 by omega, show (0 : Int) + lp = lp by omega]
  have ec : u ++ mvL u.length lp (optC z p (T - u.length) (m + 1)).1 = u ++ spz z (u.length + 1) T :: (mvL (u.length + 1) lp p.1 ++ mvL (u.length + (p.1.length + 1)) (lp + p.2) (optC z p (T - (u.length + (p.1.length + 1))) m).1) := by
   simp only [optC, Z9S, Zcw, Z9T, ZBx]
   rw [show (1 : Int) + u.length = (u.length : Int) + 1 by omega, show ((p.1.length : Int) + 1 + u.length) = (u.length : Int) + (p.1.length + 1) by omega, show (p.2 : Int) + lp = lp + p.2 by omega, show (0 : Int) + lp = lp by omega, show T - (u.length : Int) + u.length = T by omega, show T - (u.length : Int) - (p.1.length + 1) = T - (u.length + (p.1.length + 1)) by omega]
  rw [wrap_i64 (n := (u.length : Int) + 1) (by omega) (by omega), wrap_i64 (n := (j : Int) + 1) (by omega) (by omega)]
  have s := Znd u (sp (e + u.length) (e + u.length)) (mvL (u.length + 1) lp p.1 ++ mvL (u.length + (p.1.length + 1)) (lp + p.2) (optH p (e - (p.1.length + 1)) m).1) u.length (u.length + 1) T z rfl
  rw [eo, s, q0_, ec]
  have hu2 : (((u ++ (spz z (u.length + 1) T :: mvL (u.length + 1) lp p.1)).length : Nat) : Int) = u.length + (p.1.length + 1) := by
   simp only [q3_, q5_, Z1p]
   omega
  have e2 := ih (j + 1) (u ++ (spz z (u.length + 1) T :: mvL (u.length + 1) lp p.1)) (lp + p.2) (e - (p.1.length + 1)) (by omega)
   (by rw [h2.2, hu2])
   (by rw [← h3, eo]; simp only [q3_, q5_, Z1p] <;> omega)
  rw [hu2] at e2
  simp only [Z9O, ZcA] at e2
  have hz : (⟨(sp (e + u.length) (e + u.length)).Op, if z = true then T else (u.length : Int) + 1, if z = true then (u.length : Int) + 1 else T, (sp (e + u.length) (e + u.length)).C, (sp (e + u.length) (e + u.length)).D, (sp (e + u.length) (e + u.length)).Set⟩ : Zm) = spz z (u.length + 1) T := by cases z <;> rfl
  rw [hz]
  exact e2
omit hn in
include hx in
theorem ZCc (z : Bool) (out : List Zm) (lp : Int) (hb : out.length + (Z7u z p).1.length ≤ 10000) (hp : 0 ≤ lp ∧ lp ≤ out.length) :
  Z86 x z out fold lp = some (out ++ mvL out.length lp (Z7u z p).1, lp + (Z7u z p).2) := by
 obtain ⟨k1, k2⟩ := hx
 unfold Lk at k1
 simp only [Z7u, q3_, q5_, Z1p, q9_] at hb
 have s1 := Z8x (sp 0 0) out (by omega)
 have s2 := ZqH (out ++ [sp 0 0]) (mk lp) (k := (out.length : Int) + 1) (by simp <;> omega) (by simp)
 have s3 := Zih (o := out ++ [sp 0 0] ++ [mk lp]) k2 (a := (out.length : Int) + 2) (lp := lp + 1) (by simp <;> omega) (by simp <;> omega) (by omega)
 have s4 := ZqH (out ++ [sp 0 0] ++ [mk lp] ++ mvL (out.length + 2) (lp + 1) p.1) (gd lp) (k := (out.length : Int) + (p.1.length + 2)) (by simp [Z1p] <;> omega) (by simp [Z1p] <;> omega)
 have s5 := ZqH (out ++ [sp 0 0] ++ [mk lp] ++ mvL (out.length + 2) (lp + 1) p.1 ++ [gd lp]) (jp out.length) (k := (out.length : Int) + (p.1.length + 3)) (by simp [Z1p] <;> omega) (by simp [Z1p] <;> omega)
 have hT : (((out ++ sp 0 0 :: mk lp :: (mvL (out.length + 2) (lp + 1) p.1 ++ [gd lp, jp out.length])).length : Nat) : Int) = (out.length : Int) + (p.1.length + 4) := by
  simp only [q3_, q5_, q9_, Z1p]; omega
 have s6 := Znd out (sp 0 0) (mk lp :: (mvL (out.length + 2) (lp + 1) p.1 ++ [gd lp, jp out.length])) out.length (out.length + 1) (out.length + (p.1.length + 4)) z rfl
 simp only [Z9O, ZsB, ZcA, Zdx] at s2 s3 s4 s5
 apply ZhW
 unfold Z84
 rw [show (Zm.mk 3 0 0 0 0 []) = sp 0 0 from rfl, show (Zm.mk 10 lp 0 0 0 []) = mk lp from rfl, show (Zm.mk 11 lp 0 0 0 []) = gd lp from rfl, s1, q0_]
 dsimp only
 rw [s2, q0_]
 dsimp only
 rw [wrap_i64 (n := lp + 1) (by omega) (by omega), s3, q0_]
 dsimp only
 rw [s4, q0_]
 dsimp only
 rw [show (Zm.mk 2 (out.length : Int) 0 0 0 []) = jp out.length from rfl, s5, q0_]
 dsimp only
 rw [hT, wrap_i64 (by omega) (by omega), s6, q0_]
 simp only [Z7u, Z9S, Zcw, Z9T, ZBx, ZHJ, ZHI, Zyu, ZbF]
 rw [show (2 : Int) + out.length = (out.length : Int) + 2 by omega, show (1 : Int) + out.length = (out.length : Int) + 1 by omega, show ((p.1.length : Int) + 4 + out.length) = (out.length : Int) + (p.1.length + 4) by omega, show (1 : Int) + lp = lp + 1 by omega, show (0 : Int) + lp = lp by omega, show (0 : Int) + (out.length : Int) = out.length by omega]
 have hz : (⟨(sp 0 0).Op, if z = true then (out.length : Int) + (p.1.length + 4) else (out.length : Int) + 1, if z = true then (out.length : Int) + 1 else (out.length : Int) + (p.1.length + 4), (sp 0 0).C, (sp 0 0).D, (sp 0 0).Set⟩ : Zm) = spz z (out.length + 1) (out.length + (p.1.length + 4)) := by cases z <;> rfl
 rw [hz]
 congr 2
 omega
include hx in
theorem ZCf (z : Bool) (lo hi : Int) (h1 : 0 ≤ lo ∧ lo ≤ 64) (h2 : hi = -1 ∨ (lo ≤ hi ∧ hi ≤ 64)) (hlo : n.Lo = lo) (hhi : n.Hi = hi) (out : List Zm) (lp : Int)
  (hb : out.length + (if hi < 0 then Z7u z p else optC z p ((optC z p 0 (hi - lo).toNat).1.length) (hi - lo).toNat).1.length ≤ 10000) (hp : 0 ≤ lp ∧ lp ≤ out.length) :
  Z3y z out fold lp n = some (out ++ mvL out.length lp (if hi < 0 then Z7u z p else optC z p ((optC z p 0 (hi - lo).toNat).1.length) (hi - lo).toNat).1, lp + (if hi < 0 then Z7u z p else optC z p ((optC z p 0 (hi - lo).toNat).1.length) (hi - lo).toNat).2) := by
 unfold Z3y Z65
 by_cases hh : hi < 0
 ·rw [if_pos (Z1Q (by omega)), hn, show lget [x] 0 = some x from rfl, q0_]
  simp only [hh, if_true] at hb ⊢
  rw [ZCc hx z out lp hb hp, q0_]
 ·rw [if_neg (Z2a (by omega))]
  simp only [hh, if_false] at hb ⊢
  rw [hlo, hhi, wrap_i64 (by omega) (by omega)]
  have hm : hi - lo = (((hi - lo).toNat : Nat) : Int) := by omega
  rw [hm, Int.toNat_natCast]
  have hm64 : (hi - lo).toNat ≤ 64 := by omega
  generalize (hi - lo).toNat = m at *
  have q0 := Zeh z p m ((optC z p 0 m).1.length) 0
  have q1 := Zeh z p m 0 0
  have q2 := Zeh z p m 0 (-(out.length : Int))
  have h0 : (0 : Int) = ((0 : Nat) : Int) := rfl
  conv => lhs; rw [h0]
  refine ZCd hn hx z m hm64 m 0 [] out lp (by omega) rfl (by omega) hp _ ?_
  unfold Z4A
  rw [Zdx]
  have e := ZDj (p := p) z (Zfl out.length p.1.length m) (by rw [ZqR]; omega) ((out.length : Int) + (optC z p 0 m).1.length) (lp + (optH p 0 m).2) (by omega) m 0 out lp (-(out.length : Int)) (by rw [ZqR]; omega) rfl (by rw [q3_, Z1p]; omega)
  refine e.trans ?_
  rw [show (out.length : Int) + (optC z p 0 m).1.length - out.length = (optC z p 0 m).1.length by omega]
  congr 2
  omega
include hx in
theorem ZCe (z : Bool) (lo hi : Int) (h1 : 0 ≤ lo ∧ lo ≤ 64) : ∀ (m i : Nat) (out : List Zm) (lp : Int), (i : Int) + m = lo → out.length + (seqC (List.replicate m p)).1.length ≤ 10000 → 0 ≤ lp ∧ lp ≤ out.length →
  ∀ r, Z3y z (out ++ mvL out.length lp (seqC (List.replicate m p)).1) fold (lp + (seqC (List.replicate m p)).2) n = some r → Z4O z lo (i : Int) out fold lp n = some r := by
 obtain ⟨k1, k2⟩ := hx
 unfold Lk at k1
 intro m
 induction m with
 | zero =>
  intro i out lp h hb hp r e
  apply Zad
  unfold Z4M
  rw [if_neg (Z2a (by omega))]
  simpa [seqC, ZbF] using e
 | succ m ih =>
  intro i out lp h hb hp r e
  rw [List.replicate_succ] at hb e
  simp only [seqC, q3_, Z1p] at hb
  apply Zad
  unfold Z4M Z6m Z6n
  rw [if_pos (Z1Q (by omega)), hn, show lget [x] 0 = some x from rfl, q0_, k2 out lp (by omega) hp, q0_]
  dsimp only
  by_cases h0 : p.1.length = 0
  ·have e0 : p.1 = [] := Zhp h0
   have e1 : p = ([], 0) := Z3C e0 (by show p.2 = 0; omega)
   have e2 : ∀ m, seqC (List.replicate m (([], 0) : Cp)) = ([], 0) := by
    intro m
    induction m with
    | zero => rfl
    | succ m ih => rw [List.replicate_succ, seqC, ih]; rfl
   rw [if_pos (Z1L (by rw [q3_, Z1p, h0]; omega))]
   rw [e1] at e ⊢
   rw [seqC, e2] at e
   exact e
  ·rw [if_neg (Z1R (by rw [q3_, Z1p]; omega)), wrap_i64 (n := (i : Int) + 1) (by omega) (by omega)]
   refine ih (i + 1) _ _ (by omega) (by rw [q3_, Z1p]; omega) (by rw [q3_, Z1p]; omega) r ?_
   refine Eq.trans ?_ e
   simp only [seqC, q3_, Z1p, Z9S, Z9T, Z9O]
   rw [Zv8 (a := ((out.length + p.1.length : Nat) : Int)) (a' := (p.1.length : Int) + out.length) (l := lp + p.2) (l' := (p.2 : Int) + lp) (by omega) (by omega)]
   congr 1
   omega
include hx in
theorem ZvQ (lo hi : Int) (h1 : 0 ≤ lo ∧ lo ≤ 64) (h2 : hi = -1 ∨ (lo ≤ hi ∧ hi ≤ 64)) (hlo : n.Lo = lo) (hhi : n.Hi = hi) (out : List Zm) (lp : Int) (hb : out.length + (repC lo hi (n.Mode == 1) p).1.length ≤ 10000) (hp : 0 ≤ lp ∧ lp ≤ out.length) :
  Z4D n out fold lp = some (out ++ mvL out.length lp (repC lo hi (n.Mode == 1) p).1, lp + (repC lo hi (n.Mode == 1) p).2) := by
 have hk : Lk (seqC (List.replicate lo.toNat p)) := ZkL fun q hq => by rw [ZyE hq]; exact hx.1
 unfold Lk at hk
 apply ZgT
 unfold Z7j
 unfold repC at hb ⊢
 rw [ZwU] at hb ⊢
 simp only [q3_, Z1p] at hb
 rw [hlo]
 have h0 : (0 : Int) = ((0 : Nat) : Int) := rfl
 conv => lhs; rw [h0]
 refine ZCe hn hx _ lo hi h1 lo.toNat 0 out lp (by omega) (by omega) hp _ ?_
 have e := ZCf hn hx (n.Mode == 1) lo hi h1 h2 hlo hhi (out ++ mvL out.length lp (seqC (List.replicate lo.toNat p)).1) (lp + (seqC (List.replicate lo.toNat p)).2) (by rw [q3_, Z1p]; omega) (by rw [q3_, Z1p]; omega)
 refine e.trans ?_
 simp only [q3_, Z1p, Z9S, Z9T, Z9O]
 rw [Zv8 (a := ((out.length + (seqC (List.replicate lo.toNat p)).1.length : Nat) : Int)) (a' := ((seqC (List.replicate lo.toNat p)).1.length : Int) + out.length) (l := lp + (seqC (List.replicate lo.toNat p)).2) (l' := ((seqC (List.replicate lo.toNat p)).2 : Int) + lp) (by omega) (by omega)]
 congr 2
 omega
end
end Go.Proofs.YtocikhhkicahoaaDoor.N2
end
section
namespace Go.Proofs.Norm
theorem ZyU : ∀ {l : List R2} {a : Int}, AscF a l → ∀ r ∈ l, a + 2 ≤ r.1
 | [], _, _, r, hr => by simp at hr
 | x :: t, a, h, r, hr => by
  rcases Z5C.1 hr with rfl | hr
  ·exact h.2.1
  ·have := ZyU h.2.2 r hr
   have := h.1
   have := h.2.1
   omega
theorem Zp1 : ∀ {l : List R2} {a : Int}, AscF a l → l.Pairwise (fun a b => a.1 ≤ b.1)
 | [], _, _ => .nil
 | x :: t, a, h => by
  refine .cons (fun r hr => ?_) (Zp1 h.2.2)
  have := ZyU h.2.2 r hr
  have := h.1
  omega
theorem ZsI : ∀ (l acc : List R2) (a : Int), AscF a l → (∀ o os, acc = o :: os → o.2 = a) → l.foldl Z2K acc = l.reverse ++ acc
 | [], _, _, _, _ => rfl
 | r :: t, acc, a, h, ha => by
  have h1 : Z2K acc r = r :: acc := by
   cases acc with
   | nil => rfl
   | cons o os =>
    have := ha o os rfl
    have := h.2.1
    unfold Z2K
    simp only
    rw [if_neg (by omega)]
  rw [Zdz, h1, ZsI t (r :: acc) r.2 h.2.2 (by rintro o os ⟨⟩; rfl)]
  simp
theorem Zyv {l : List R2} (h : Z2R l) : Z5B l = l := by
 have h1 := Zbn.1 h
 rw [← ZkE (List.Perm.refl l) (Zp1 h1) (fun y hy => (h1.right y hy).2.1), ZsI l [] (-2) h1 (by simp)]
 simp
end Go.Proofs.Norm
namespace Go.Proofs.YtocikhhkicahoaaDoor.N2
open Go Go.Abs Go.Proofs.Unis Go.Proofs.Norm
set_option maxRecDepth 100000
theorem Zz3 (rs : List R2) (hl : rs.length ≤ 1048576) : Zbi (rs.map ofR) = some (apo .ex (rs.map encR), rs.map ofR) := by
 refine Z1l (fun _ _ ha hb => RRun.uniq Zfw (ha .sh) (hb .sh)) fun o => ?_
 have e : EE 23 [(.p (.lst o ((rs.map ofR).map Zv)))] [] = some ((.p (.lst (apo .ex (rs.map encR)) ((rs.map ofR).map Zv))), []) := by
  rw [show EE 23 = E PP XX HH 23 from rfl, Zsl (P := PP) (X := XX) (H := HH) (f := 23) (m := ZkQ) (by kernel_rfl), ZkB]
  unfold ZkQ
  simp only [Zgr]
  rw [if_pos (by simpa using hl)]
 exact ⟨_, e, [], by simp⟩
theorem ZGU (xs : List PV) : okA (apo .ex xs) = some () := by cases xs <;> rfl
def twL (l : List R2) : Nat → List R2
 | 0 => []
 | m + 1 => (if l.any (fun r => decide (r.1 ≤ 90 - (m : Int)) && decide (90 - (m : Int) ≤ r.2)) = true ∨ l.any (fun r => decide (r.1 ≤ 122 - (m : Int)) && decide (122 - (m : Int) ≤ r.2)) = true then [(90 - (m : Int), 90 - (m : Int)), (122 - (m : Int), 122 - (m : Int))] else []) ++ twL l m
def ZeW (l : List R2) : List R2 := Z5B (l ++ twL l 26)
theorem ZC2 (l : List R2) : ∀ m : Nat, m ≤ 26 → (twL l m).length ≤ 2 * m ∧ ∀ r ∈ twL l m, 0 ≤ r.1 ∧ r.1 ≤ r.2 ∧ r.2 ≤ 1114367 := by
 intro m
 induction m with
 | zero => intro _; exact ⟨by simp [twL], by simp [twL]⟩
 | succ m ih =>
  intro h
  obtain ⟨h1, h2⟩ := ih (by omega)
  unfold twL
  split
  ·refine ⟨by simp only [q3_, q5_, q9_]; omega, fun r hr => ?_⟩
   rcases Z9P.1 hr with hr | hr
   ·simp only [Z5C, ZoO, or_false] at hr
    rcases hr with rfl | rfl
    ·simp only []; omega
    ·simp only []; omega
   ·exact h2 r hr
  ·exact ⟨by simp only [Zdx]; omega, by simpa using h2⟩
theorem ZHF {l : List R2} (h : Z2R l) : ∀ r ∈ l ++ twL l 26, 0 ≤ r.1 ∧ r.1 ≤ r.2 ∧ r.2 ≤ 1114367 := by
 intro r hr
 rcases Z9P.1 hr with hr | hr
 ·exact Z8f h r hr
 ·exact (ZC2 l 26 (Z2A _)).2 r hr
theorem Zms {l : List R2} (h : Z2R l) : Z2R (ZeW l) := (Zfd (ZHF h)).1
theorem anyR (l : List R2) (u : Int) : (l.map ofR).any (fun r => decide (r.Lo ≤ u) && decide (u ≤ r.Hi)) = l.any (fun r => decide (r.1 ≤ u) && decide (u ≤ r.2)) := by
 rw [List.any_map]
 rfl
theorem ZBn {l : List R2} (h : Z2R l) : ∀ (m : Nat) (acc : List R2), m ≤ 26 → acc.length + 2 * m ≤ 1000000 → (∀ r ∈ acc, 0 ≤ r.1 ∧ r.1 ≤ r.2 ∧ r.2 ≤ 1114367) →
  Z7N (l.map ofR) (acc.map ofR) (91 - (m : Int)) = some ((Z5B (acc ++ twL l m)).map ofR, 0) := by
 have hl := Zd6 h
 intro m
 induction m with
 | zero =>
  intro acc _ hb hr
  apply ZdF
  unfold Z7J Z9A
  rw [if_neg (Z2a (by omega)), Zi4 acc (by omega) hr]
  simp [twL]
 | succ m ih =>
  intro acc hm hb hr
  apply ZdF
  unfold Z7J Z9z
  have w : IntKind.i64.wrap (91 - ((m + 1 : Nat) : Int)) = 90 - (m : Int) := by rw [wrap_i64 (by omega) (by omega)]; omega
  have w2 : IntKind.i64.wrap (IntKind.i32.wrap (91 - ((m + 1 : Nat) : Int) + 32)) = 122 - (m : Int) := by rw [wrap_i32 (by omega) (by omega), wrap_i64 (by omega) (by omega)]; omega
  have w3 : IntKind.i32.wrap (91 - ((m + 1 : Nat) : Int) + 1) = 91 - (m : Int) := by rw [wrap_i32 (by omega) (by omega)]; omega
  rw [if_pos (Z1Q (by omega)), Zrz _ _ (by rw [Zbq]; omega), q0_, Zrz _ _ (by rw [Zbq]; omega), q0_, anyR, anyR, w, w2]
  have go : Z6s (l.map ofR) (acc.map ofR) (91 - ((m + 1 : Nat) : Int)) = some ((Z5B ((acc ++ [(90 - (m : Int), 90 - (m : Int)), (122 - (m : Int), 122 - (m : Int))]) ++ twL l m)).map ofR, 0) := by
   unfold Z6s Z5k
   rw [w, w2, w3, ZnC _ _ (by simp only [Zbq, q5_, q9_]; omega), q0_]
   have := ih (acc ++ [(90 - (m : Int), 90 - (m : Int)), (122 - (m : Int), 122 - (m : Int))]) (by omega) (by simp only [q3_, q5_, q9_]; omega) (by
    intro r h
    rcases Z9P.1 h with h | h
    ·exact hr r h
    ·simp only [Z5C, ZoO, or_false] at h
     rcases h with rfl | rfl
     ·simp only []; omega
     ·simp only []; omega)
   rw [ZiU] at this
   exact this
  have no : Z5k (l.map ofR) (acc.map ofR) (91 - ((m + 1 : Nat) : Int)) = some ((Z5B (acc ++ twL l m)).map ofR, 0) := by
   unfold Z5k
   rw [w3]
   exact ih acc (by omega) (by omega) hr
  by_cases c1 : l.any (fun r => decide (r.1 ≤ 90 - (m : Int)) && decide (90 - (m : Int) ≤ r.2)) = true
  ·rw [if_pos c1, go, twL, if_pos (.inl c1), Z9O]
  by_cases c2 : l.any (fun r => decide (r.1 ≤ 122 - (m : Int)) && decide (122 - (m : Int) ≤ r.2)) = true
  ·rw [if_neg c1, if_pos c2, go, twL, if_pos (.inr c2), Z9O]
  ·rw [if_neg c1, if_neg c2, no, twL, if_neg (fun h => h.elim c1 c2), Zdx]
theorem ZCF {l : List R2} (h : Z2R l) : Z9n (l.map ofR) = some ((ZeW l).map ofR, 0) := by
 have hl := Zd6 h
 apply ZlM
 unfold Zb8 Z9y
 rw [Z9q h, q0_, if_neg (by simp), Zz3 l (by omega), q0_]
 dsimp only
 rw [ZGU, q0_]
 exact ZBn h 26 l (Z2A _) (by omega) (Z8f h)
theorem ZGZ {l : List R2} (h : Z2R l) : Z9c (l.map ofR) [] = some (l.map ofR, 0) := by
 have hl := Zd6 h
 have n0 : Z2R [] := trivial
 apply Zhv
 unfold ZaH
 rw [Z9q h, q0_, if_neg (by simp), show ([] : List Z8) = ([] : List R2).map ofR from rfl, Z9q n0, q0_, if_neg (by simp)]
 unfold Z8F
 rw [Zp7 l [] (by simp only [q9_]; omega), q0_, ZjR, Zi4 l (by omega) (Z8f h), q0_, Zyv h]
theorem ZH5 (fold : Bool) {l : List R2} (h : Z2R l) : Wr fold (setN l) ([⟨1, 0, 0, 0, 0, (if fold = true then ZeW l else l).map ofR⟩], 0) := by
 refine ⟨Zly _, fun out lp hb hp => ?_⟩
 have go : ∀ s : List R2, Z2R s → Z3p (s.map ofR) out lp = some (out ++ [⟨1, 0, 0, 0, 0, s.map ofR⟩], lp) := by
  intro s hs
  unfold Z3p
  rw [ZGZ hs, q0_, Z8x _ _ (by simp at hb; omega), q0_]
 apply ZbX
 cases fold with
 | true =>
  show ((Z9n (l.map ofR)).bind fun r1 => Z3p r1.1 out lp) = _
  rw [ZCF h, q0_, go _ (Zms h)]
  simp [mvL, mv]
 | false =>
  show Z3p (l.map ofR) out lp = _
  rw [go _ h]
  simp [mvL, mv]
theorem Znf {g : List Zm → Int → Option (List Zm × Int)} {p : Cp} (hk : Lk p) (hg : ∀ (out : List Zm) (lp : Int), out.length + p.1.length ≤ 10000 → 0 ≤ lp ∧ lp ≤ out.length → g out lp = some (out ++ mvL out.length lp p.1, lp + p.2))
  (op a c e : Int) (h7 : op = 7 ∨ op = 8) (out : List Zm) (lp : Int) (hb : out.length + (Z4K op a c e p).1.length ≤ 10000) (hp : 0 ≤ lp ∧ lp ≤ out.length) :
  ((Z1n ⟨op, a, 0, c, e, []⟩ out).bind fun r1 =>
    (g r1.2 lp).bind fun r2 =>
    (Z1n ((Zm.mk 9 0 0 0 0 ([] : List Z8))) r2.1).bind fun r3 =>
    (lget r3.2 r1.1).bind fun a4 =>
    (lget r3.2 r1.1).bind fun a5 =>
    some ((lset r3.2 r1.1 (Zm.mk a5.Op a5.A (r3.2.length : Int) a5.C a5.D a5.Set)), r2.2)) = some (out ++ mvL out.length lp (Z4K op a c e p).1, lp + (Z4K op a c e p).2) := by
 unfold Lk at hk
 simp only [Z4K, q3_, q5_, Z1p, q9_] at hb
 have s2 := hg (out ++ [⟨op, a, 0, c, e, []⟩]) lp (by simp only [q3_, q5_, q9_]; omega) (by simp only [q3_, q5_, q9_]; omega)
 rw [show (((out ++ [(⟨op, a, 0, c, e, []⟩ : Zm)]).length : Nat) : Int) = out.length + 1 by simp] at s2
 simp only [Z9O, ZsB] at s2
 have s3 := Z8x dn (out ++ ⟨op, a, 0, c, e, []⟩ :: mvL (out.length + 1) lp p.1) (by simp only [q3_, q5_, Z1p]; omega)
 simp only [Z9O, ZcA] at s3
 have hT : (((out ++ (⟨op, a, 0, c, e, []⟩ : Zm) :: (mvL (out.length + 1) lp p.1 ++ [dn])).length : Nat) : Int) = (out.length : Int) + (p.1.length + 2) := by
  simp only [q3_, q5_, Z1p, q9_]; omega
 rw [Z8x _ _ (by omega), q0_]
 dsimp only
 rw [s2, q0_]
 dsimp only
 rw [show (Zm.mk 9 0 0 0 0 []) = dn from rfl, s3, q0_]
 dsimp only
 rw [hT, ZiL _ _ _ rfl, q0_, q0_, Zln _ _ _ _ rfl]
 have hm : mv out.length lp ⟨op, a, (p.1.length : Int) + 2, c, e, []⟩ = ⟨op, a, out.length + (p.1.length + 2), c, e, []⟩ := by
  unfold mv
  dsimp only
  rw [if_neg (by omega), if_neg (by omega), if_pos h7]
  congr 1
  omega
 simp only [Z4K, Zcw, Z9S, Z9T, ZHH, ZbF, hm]
 rw [show (1 : Int) + out.length = (out.length : Int) + 1 by omega, show (0 : Int) + lp = lp by omega]
theorem ZEg {fold : Bool} {n : Z9} {p : Cp} (h : Cd fold ZeW n p) : Wr fold n p := by
 have top : ∀ {n : Z9} {out : List Zm} {lp : Int} {r}, Z5d n out fold lp = some r → Z1V n out fold lp = some r := fun e => ZbX _ _ _ _ e
 have mem : ∀ {l : List Z9} {P : List Cp}, P.length = l.length → (∀ (i : Nat) (x : Z9) (p : Cp), l[i]? = some x → P[i]? = some p → Wr fold x p) → ∀ p ∈ P, Lk p := fun h1 h2 => Zd5 (R := fun _ _ => True) h1 fun i x p a b => (h2 i x p a b).1
 induction h with
 | none =>
  refine ⟨Z2A _, fun out lp _ _ => top ?_⟩
  show some (out, lp) = _
  simp [ZbF]
 | set l hl => exact ZH5 fold hl
 | cat l P hl hP _ ih =>
  refine ⟨ZkL (mem hP ih), fun out lp hb hp => top ?_⟩
  have := ZCa hl hP ih l.length 0 out lp (by omega) hb hp
  exact this
 | alt l P y q _ hl hP _ _ ih ih2 =>
  refine ⟨ZDU (mem hP ih) ih2.1, fun out lp hb hp => top ?_⟩
  show ((Z6T (l ++ [y]) out fold lp).bind fun r2 => some (r2.1, r2.2)) = _
  rw [ZDi hl hP ih ih2 out lp hb hp]
  rfl
 | rep lo hi m x p h1 h2 hm _ ih =>
  refine ⟨ZrI ih.1, fun out lp hb hp => top ?_⟩
  have e : Z5d ⟨4, lo, hi, m, 0, [], [x]⟩ out fold lp = (if ((m == 2)) = true then
   ((Z4G ((Zm.mk 8 0 0 0 0 ([] : List Z8))) out fold lp ⟨4, lo, hi, m, 0, [], [x]⟩).bind fun r3 => some (r3.1, r3.2))
   else ((Z4D ⟨4, lo, hi, m, 0, [], [x]⟩ out fold lp).bind fun r4 => some (r4.1, r4.2))) := rfl
  rw [e, if_neg (Z1R hm), ZvQ (n := ⟨4, lo, hi, m, 0, [], [x]⟩) rfl ih lo hi h1 h2 rfl rfl out lp hb hp]
  rfl
 | repA lo hi x p h1 h2 _ ih =>
  refine ⟨ZoX (ZrI ih.1), fun out lp hb hp => top ?_⟩
  show ((Z4G ((Zm.mk 8 0 0 0 0 ([] : List Z8))) out fold lp ⟨4, lo, hi, 2, 0, [], [x]⟩).bind fun r3 => some (r3.1, r3.2)) = _
  have hw : Z4G ((Zm.mk 8 0 0 0 0 ([] : List Z8))) out fold lp ⟨4, lo, hi, 2, 0, [], [x]⟩ = some (out ++ mvL out.length lp (Z4K 8 0 0 0 (repC lo hi false p)).1, lp + (Z4K 8 0 0 0 (repC lo hi false p)).2) := by
   apply ZgV
   unfold Z7k
   refine Znf (g := fun o l => Z7q ⟨4, lo, hi, 2, 0, [], [x]⟩ o fold l) (ZrI ih.1) (fun o l hb hp => ?_) 8 0 0 0 (.inr rfl) out lp hb hp
   apply ZgN
   unfold Z7g
   rw [ZvQ (n := ⟨4, lo, hi, 2, 0, [], [x]⟩) rfl ih lo hi h1 h2 rfl rfl o l hb hp]
   rfl
  rw [hw]
  rfl
 | group r x p hr _ ih =>
  obtain ⟨k1, k2⟩ := ih
  have k1' := k1
  unfold Lk at k1'
  refine ⟨by unfold Lk at *; simp only [q3_, q5_, Z1p]; omega, fun out lp hb hp => top ?_⟩
  simp only [q3_, q5_, Z1p, q9_] at hb
  show ((Z1n ((Zm.mk 4 (IntKind.i64.wrap (2 * r)) 0 0 0 ([] : List Z8))) out).bind fun r5 =>
   (lget [x] 0).bind fun a6 => (Z1V a6 r5.2 fold lp).bind fun r7 =>
   (Z1n ((Zm.mk 4 (IntKind.i64.wrap ((IntKind.i64.wrap (2 * r)) + 1)) 0 0 0 ([] : List Z8))) r7.1).bind fun r8 => some (r8.2, r7.2)) = _
  rw [wrap_i64 (n := 2 * r) (by omega) (by omega), wrap_i64 (n := 2 * r + 1) (by omega) (by omega), show (Zm.mk 4 (2 * r) 0 0 0 []) = sv (2 * r) from rfl, show (Zm.mk 4 (2 * r + 1) 0 0 0 []) = sv (2 * r + 1) from rfl, Z8x _ _ (by omega), q0_, show lget [x] 0 = some x from rfl, q0_]
  dsimp only
  rw [Zih (o := out ++ [sv (2 * r)]) k2 (a := (out.length : Int) + 1) (lp := lp) (by simp) (by simp only [q3_, q5_, q9_]; omega) (by omega), q0_]
  dsimp only
  rw [Z8x _ _ (by simp only [q3_, q5_, Z1p, q9_]; omega), q0_]
  simp only [Zcw, Z9S, Z9T, ZHL, ZbF, Z9O, ZcA, Zdx]
  rw [show (1 : Int) + out.length = (out.length : Int) + 1 by omega, show (0 : Int) + lp = lp by omega]
 | back r hr =>
  refine ⟨Zly _, fun out lp hb hp => top ?_⟩
  simp only [q5_, q9_] at hb
  have go : ∀ b, Z3f out lp 5 r b 0 0 [] = some (out ++ [⟨5, r, b, 0, 0, []⟩], lp) := by
   intro b
   unfold Z3f
   rw [Z8x _ _ (by omega)]
   rfl
  cases fold with
  | true =>
   show Z3f out lp 5 r 1 0 0 [] = _
   rw [go]
   simp [mvL, mv]
  | false =>
   show Z3f out lp 5 r 0 0 0 [] = _
   rw [go]
   simp [mvL, mv]
 | look m x p v hm hv _ ih =>
  refine ⟨ZoX ih.1, fun out lp hb hp => top ?_⟩
  have hw : ∀ c e, out.length + (Z4K 7 m c e p).1.length ≤ 10000 → Z3g out fold lp ⟨7, 0, 0, m, 0, [], [x]⟩ 7 m 0 c e [] = some (out ++ mvL out.length lp (Z4K 7 m c e p).1, lp + (Z4K 7 m c e p).2) := by
   intro c e hb
   have q : Z7t ⟨7, m, 0, c, e, []⟩ out fold lp ⟨7, 0, 0, m, 0, [], [x]⟩ = some (out ++ mvL out.length lp (Z4K 7 m c e p).1, lp + (Z4K 7 m c e p).2) := by
    apply ZgZ
    unfold Z7m
    refine Znf (g := fun o l => Z7r ⟨7, 0, 0, m, 0, [], [x]⟩ o fold l) ih.1 (fun o l hb hp => ?_) 7 m c e (.inl rfl) out lp hb hp
    apply ZgP
    unfold Z7h
    rw [show lget [x] 0 = some x from rfl, q0_, ih.2 o l hb hp]
    rfl
   unfold Z3g
   rw [q]
   rfl
  have e : Z5d ⟨7, 0, 0, m, 0, [], [x]⟩ out fold lp = (if ((decide (2 ≤ m))) = true then
    ((lget [x] 0).bind fun a9 => (Z3h a9).bind fun r10 =>
    Z3g out fold lp ⟨7, 0, 0, m, 0, [], [x]⟩ 7 m 0 r10.1 r10.2 (([] : List Z8)))
    else (Z3g out fold lp ⟨7, 0, 0, m, 0, [], [x]⟩ 7 m 0 0 0 (([] : List Z8)))) := rfl
  rw [e]
  by_cases h2 : 2 ≤ m
  ·rw [if_pos (Z1Q h2), show lget [x] 0 = some x from rfl, q0_, Zsg hv, q0_]
   simp only [h2, if_true] at hb ⊢
   exact hw _ _ hb
  ·rw [if_neg (Z2a h2)]
   simp only [h2, if_false] at hb ⊢
   exact hw _ _ hb
 | atomic x p _ ih =>
  refine ⟨ZoX ih.1, fun out lp hb hp => top ?_⟩
  show ((Z60 ((Zm.mk 8 0 0 0 0 ([] : List Z8))) out fold lp ⟨8, 0, 0, 0, 0, [], [x]⟩).bind fun r3 => some (r3.1, r3.2)) = _
  have hw : Z60 ((Zm.mk 8 0 0 0 0 ([] : List Z8))) out fold lp ⟨8, 0, 0, 0, 0, [], [x]⟩ = some (out ++ mvL out.length lp (Z4K 8 0 0 0 p).1, lp + (Z4K 8 0 0 0 p).2) := by
   apply ZgX
   unfold Z7l
   refine Znf (g := fun o l => Z7s ⟨8, 0, 0, 0, 0, [], [x]⟩ o fold l) ih.1 (fun o l hb hp => ?_) 8 0 0 0 (.inr rfl) out lp hb hp
   apply ZgR
   unfold Z7i
   rw [show lget [x] 0 = some x from rfl, q0_, ih.2 o l hb hp]
   rfl
  rw [hw]
  rfl
 | edge k hk =>
  refine ⟨Zly _, fun out lp hb hp => top ?_⟩
  simp only [q5_, q9_] at hb
  show ((Z1n ((Zm.mk 6 k 0 0 0 ([] : List Z8))) out).bind fun r12 => some (r12.2, lp)) = _
  rw [Z8x _ _ (by omega)]
  simp [mvL, mv]
end Go.Proofs.YtocikhhkicahoaaDoor.N2
end
