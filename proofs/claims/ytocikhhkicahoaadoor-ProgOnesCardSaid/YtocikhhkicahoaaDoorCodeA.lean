/- What the writer of programs writes: code that can be moved. No condition. -/
import Derived.Test.YtocikhhkicahoaaDoorPlainB
import Derived.Test.YtocikhhkicahoaaDoorSim

set_option linter.unusedSimpArgs false
set_option linter.unusedVariables false
set_option linter.defProp false
section
namespace Go.Proofs.YtocikhhkicahoaaDoor.N2
open Go Go.Abs Go.Proofs.Unis Go.Proofs.Norm
set_option maxRecDepth 100000
def mv (a l : Int) (i : Zw) : Zw :=
 if i.Op = 2 then ⟨i.Op, i.A + a, i.B, i.C, i.D, i.Set⟩
 else if i.Op = 3 then ⟨i.Op, i.A + a, i.B + a, i.C, i.D, i.Set⟩
 else if i.Op = 7 ∨ i.Op = 8 then ⟨i.Op, i.A, i.B + a, i.C, i.D, i.Set⟩
 else if i.Op = 10 ∨ i.Op = 11 then ⟨i.Op, i.A + l, i.B, i.C, i.D, i.Set⟩
 else i
theorem ZHL (a l b m : Int) (i : Zw) : mv a l (mv b m i) = mv (b + a) (m + l) i := by
 unfold mv
 by_cases h2 : i.Op = 2
 ·simp only [h2, if_true, Int.add_assoc]
 by_cases h3 : i.Op = 3
 ·simp [h3, Int.add_assoc]
 by_cases h7 : i.Op = 7 ∨ i.Op = 8
 ·simp only [h2, h3, h7, if_true, if_false, Int.add_assoc]
 by_cases h10 : i.Op = 10 ∨ i.Op = 11
 ·simp only [h2, h3, h7, h10, if_true, if_false, Int.add_assoc]
 ·simp only [h2, h3, h7, h10, if_false]
def mvL (a l : Int) (c : List Zw) : List Zw := c.map (mv a l)
theorem Z1N (a l : Int) (c : List Zw) : (mvL a l c).length = c.length := by simp [mvL]
theorem Zd2 (a l : Int) : mvL a l [] = [] := rfl
theorem Zcr (a l : Int) (i : Zw) (c : List Zw) : mvL a l (i :: c) = mv a l i :: mvL a l c := rfl
theorem Z9P (a l : Int) (c d : List Zw) : mvL a l (c ++ d) = mvL a l c ++ mvL a l d := by simp [mvL]
theorem Z9Q (a l b m : Int) (c : List Zw) : mvL a l (mvL b m c) = mvL (b + a) (m + l) c := by
 simp only [mvL, ZlB]
 exact Zn1 fun i _ => ZHL a l b m i
abbrev Cp := List Zw × Nat
def sp (a b : Int) : Zw := ⟨3, a, b, 0, 0, []⟩
def jp (a : Int) : Zw := ⟨2, a, 0, 0, 0, []⟩
def mk (a : Int) : Zw := ⟨10, a, 0, 0, 0, []⟩
def gd (a : Int) : Zw := ⟨11, a, 0, 0, 0, []⟩
def sv (a : Int) : Zw := ⟨4, a, 0, 0, 0, []⟩
def dn : Zw := ⟨9, 0, 0, 0, 0, []⟩
def spz (z : Bool) (a b : Int) : Zw := if z = true then sp b a else sp a b
theorem Zsx (a l x y : Int) : mv a l (sp x y) = sp (x + a) (y + a) := rfl
theorem Zyt (a l x : Int) : mv a l (jp x) = jp (x + a) := rfl
theorem ZHK (a l x : Int) : mv a l (mk x) = mk (x + l) := rfl
theorem ZHJ (a l x : Int) : mv a l (gd x) = gd (x + l) := rfl
theorem ZHM (a l x : Int) : mv a l (sv x) = sv x := rfl
theorem ZHI (a l : Int) : mv a l dn = dn := rfl
theorem ZBm (z : Bool) (a l x y : Int) : mv a l (spz z x y) = spz z (x + a) (y + a) := by cases z <;> rfl
def seqC : List Cp → Cp
 | [] => ([], 0)
 | d :: r => (d.1 ++ mvL d.1.length d.2 (seqC r).1, d.2 + (seqC r).2)
def preC : Int → List Cp → Cp
 | _, [] => ([], 0)
 | e, d :: r => (sp 1 (d.1.length + 2) :: (mvL 1 0 d.1 ++ jp e :: mvL (d.1.length + 2) d.2 (preC (e - (d.1.length + 2)) r).1), d.2 + (preC (e - (d.1.length + 2)) r).2)
def altC (P : List Cp) (d : Cp) : Cp :=
 ((preC ((preC 0 P).1.length + d.1.length) P).1 ++ mvL (preC 0 P).1.length (preC 0 P).2 d.1, (preC 0 P).2 + d.2)
def optC (z : Bool) (d : Cp) : Int → Nat → Cp
 | _, 0 => ([], 0)
 | e, m + 1 => (spz z 1 e :: (mvL 1 0 d.1 ++ mvL (d.1.length + 1) d.2 (optC z d (e - (d.1.length + 1)) m).1), d.2 + (optC z d (e - (d.1.length + 1)) m).2)
def optH (d : Cp) : Int → Nat → Cp
 | _, 0 => ([], 0)
 | e, m + 1 => (sp e e :: (mvL 1 0 d.1 ++ mvL (d.1.length + 1) d.2 (optH d (e - (d.1.length + 1)) m).1), d.2 + (optH d (e - (d.1.length + 1)) m).2)
def ZbT (z : Bool) (d : Cp) : Cp := (spz z 1 (d.1.length + 4) :: mk 0 :: (mvL 2 1 d.1 ++ [gd 0, jp 0]), d.2 + 1)
def repC (lo hi : Int) (z : Bool) (d : Cp) : Cp :=
 seqC [seqC (List.replicate lo.toNat d), if hi < 0 then ZbT z d else optC z d ((optC z d 0 (hi - lo).toNat).1.length) (hi - lo).toNat]
def Z7A (op a c e : Int) (d : Cp) : Cp := (⟨op, a, d.1.length + 2, c, e, []⟩ :: (mvL 1 0 d.1 ++ [dn]), d.2)
theorem Zlv (P : List Cp) : ∀ (e e' : Int), (preC e P).1.length = (preC e' P).1.length ∧ (preC e P).2 = (preC e' P).2 := by
 induction P with
 | nil => intro e e'; exact ⟨rfl, rfl⟩
 | cons d r ih =>
  intro e e'
  have := ih (e - (d.1.length + 2)) (e' - (d.1.length + 2))
  simp only [preC, q5_, q3_, Z1N, this]
  exact ⟨trivial, trivial⟩
theorem ZiI (z : Bool) (d : Cp) : ∀ (m : Nat) (e e' : Int), (optC z d e m).1.length = (optH d e' m).1.length ∧ (optC z d e m).2 = (optH d e' m).2 := by
 intro m
 induction m with
 | zero => intro e e'; exact ⟨rfl, rfl⟩
 | succ m ih =>
  intro e e'
  have := ih (e - (d.1.length + 1)) (e' - (d.1.length + 1))
  simp only [optC, optH, q5_, q3_, Z1N, this]
  exact ⟨trivial, trivial⟩
def Lk (p : Cp) : Prop := p.2 ≤ p.1.length
theorem ZkI : ∀ {P : List Cp}, (∀ p ∈ P, Lk p) → Lk (seqC P)
 | [], _ => Z2H _
 | d :: r, h => by
  have h1 := h d (Zcu ..)
  have h2 := ZkI (P := r) fun p hp => h p (Zdn _ hp)
  unfold Lk at *
  simp only [seqC, q3_, Z1N]
  omega
theorem ZrN : ∀ {P : List Cp} (e : Int), (∀ p ∈ P, Lk p) → Lk (preC e P)
 | [], _, _ => Z2H _
 | d :: r, e, h => by
  have h1 := h d (Zcu ..)
  have h2 := ZrN (P := r) (e - (d.1.length + 2)) fun p hp => h p (Zdn _ hp)
  unfold Lk at *
  simp only [preC, q3_, q5_, Z1N]
  omega
theorem ZEp {z : Bool} {d : Cp} (h : Lk d) : ∀ (m : Nat) (e : Int), Lk (optC z d e m) := by
 intro m
 induction m with
 | zero => intro e; exact Z2H _
 | succ m ih =>
  intro e
  have := ih (e - (d.1.length + 1))
  unfold Lk at *
  simp only [optC, q3_, q5_, Z1N]
  omega
theorem ZCH {z : Bool} {d : Cp} (h : Lk d) : Lk (ZbT z d) := by
 unfold Lk at *
 simp only [ZbT, q3_, q5_, Z1N, q7_]
 omega
theorem ZDS {P : List Cp} {d : Cp} (h : ∀ p ∈ P, Lk p) (hd : Lk d) : Lk (altC P d) := by
 have h1 := ZrN 0 h
 have h2 := Zlv P ((preC 0 P).1.length + d.1.length) 0
 unfold Lk at *
 simp only [altC, q3_, Z1N]
 omega
theorem Zp3 {op a c e : Int} {d : Cp} (h : Lk d) : Lk (Z7A op a c e d) := by
 unfold Lk at *
 simp only [Z7A, q3_, q5_, Z1N]
 omega
theorem ZrT {lo hi : Int} {z : Bool} {d : Cp} (h : Lk d) : Lk (repC lo hi z d) := by
 unfold repC
 apply ZkI
 intro p hp
 simp only [Z6c, Zvt, or_false] at hp
 rcases hp with rfl | rfl
 ·exact ZkI fun q hq => by rw [ZCZ hq]; exact h
 ·split
  ·exact ZCH h
  ·exact ZEp h _ _
theorem ZEy (a b : Cp) : seqC [a, b] = (a.1 ++ mvL a.1.length a.2 b.1, a.2 + b.2) := by
 simp [seqC, Zd2]
inductive Cd (fold : Bool) (ff : List R2 → List R2) : Zk → Cp → Prop
 | none : Cd fold ff nd0 ([], 0)
 | set (l : List R2) : Z2x l → Cd fold ff (setN l) ([⟨1, 0, 0, 0, 0, (if fold = true then ff l else l).map ofR⟩], 0)
 | cat (l : List Zk) (P : List Cp) : l.length ≤ 3000 → P.length = l.length → (∀ (i : Nat) (x : Zk) (p : Cp), l[i]? = some x → P[i]? = some p → Cd fold ff x p) → Cd fold ff ⟨2, 0, 0, 0, 0, [], l⟩ (seqC P)
 | alt (l : List Zk) (P : List Cp) (y : Zk) (q : Cp) : 1 ≤ l.length → l.length + 1 ≤ 3000 → P.length = l.length → (∀ (i : Nat) (x : Zk) (p : Cp), l[i]? = some x → P[i]? = some p → Cd fold ff x p) → Cd fold ff y q →
   Cd fold ff ⟨3, 0, 0, 0, 0, [], l ++ [y]⟩ (altC P q)
 | rep (lo hi m : Int) (x : Zk) (p : Cp) : 0 ≤ lo ∧ lo ≤ 64 → hi = -1 ∨ (lo ≤ hi ∧ hi ≤ 64) → m ≠ 2 → Cd fold ff x p → Cd fold ff ⟨4, lo, hi, m, 0, [], [x]⟩ (repC lo hi (m == 1) p)
 | repA (lo hi : Int) (x : Zk) (p : Cp) : 0 ≤ lo ∧ lo ≤ 64 → hi = -1 ∨ (lo ≤ hi ∧ hi ≤ 64) → Cd fold ff x p → Cd fold ff ⟨4, lo, hi, 2, 0, [], [x]⟩ (Z7A 8 0 0 0 (repC lo hi false p))
 | group (r : Int) (x : Zk) (p : Cp) : 1 ≤ r ∧ r ≤ 9 → Cd fold ff x p → Cd fold ff ⟨5, 0, 0, 0, r, [], [x]⟩ (sv (2 * r) :: (mvL 1 0 p.1 ++ [sv (2 * r + 1)]), p.2)
 | back (r : Int) : 1 ≤ r ∧ r ≤ 9 → Cd fold ff ⟨6, 0, 0, 0, r, [], []⟩ ([⟨5, r, if fold = true then 1 else 0, 0, 0, []⟩], 0)
 | look (m : Int) (x : Zk) (p : Cp) (v : Sh) : 0 ≤ m ∧ m ≤ 3 → Shp x v → Cd fold ff x p → Cd fold ff ⟨7, 0, 0, m, 0, [], [x]⟩ (Z7A 7 m (if 2 ≤ m then v.lo else 0) (if 2 ≤ m then v.hi else 0) p)
 | atomic (x : Zk) (p : Cp) : Cd fold ff x p → Cd fold ff ⟨8, 0, 0, 0, 0, [], [x]⟩ (Z7A 8 0 0 0 p)
 | edge (k : Int) : 0 ≤ k ∧ k ≤ 3 → Cd fold ff (edge k) ([⟨6, k, 0, 0, 0, []⟩], 0)
theorem ZqD {α β : Type} {l : List α} {P : List β} {R : α → β → Prop} {Q : β → Prop} (hl : P.length = l.length) (h : ∀ (i : Nat) (x : α) (p : β), l[i]? = some x → P[i]? = some p → Q p) : ∀ p ∈ P, Q p := by
 intro p hp
 obtain ⟨i, hi⟩ := Zcv.1 hp
 have hil : i < l.length := by have := (q2_.1 hi).1; omega
 exact h i _ p (q4_ hil) hi
theorem ZnH {α : Type} (l r : List α) (h : l.length + r.length ≤ 1000000000) : lapp l r = some (l ++ r) := by
 unfold lapp
 rw [if_pos (Zho h (by decide))]
theorem Zlj {α : Type} (u : List α) (s : α) (w : List α) {i : Int} (h : i = u.length) : lget (u ++ s :: w) i = some s := by
 subst h
 rw [Z4i]
 simp
theorem Zlm {α : Type} (u : List α) (s t : α) (w : List α) {i : Int} (h : i = u.length) : lset (u ++ s :: w) i t = u ++ t :: w := by
 subst h
 simp [lset]
theorem Zvb {a a' l l' : Int} {c : List Zw} (h : a = a') (h' : l = l') : mvL a l c = mvL a' l' c := by rw [h, h']
theorem Z8G (x : Zw) (out : List Zw) (h : out.length ≤ 100000) : Z1k x out = some ((out.length : Int), out ++ [x]) := by
 apply ZiC
 unfold Z8A
 rw [ZnH _ _ (by simp; omega), ZV, q3_, Zn0, wrap_i64 (by omega) (by omega)]
 congr 2
 omega
theorem Znk (u : List Zw) (s : Zw) (w : List Zw) (at_ p q : Int) (z : Bool) (h : at_ = u.length) :
  Z4S at_ p q z (u ++ s :: w) = some (u ++ ⟨s.Op, if z = true then q else p, if z = true then p else q, s.C, s.D, s.Set⟩ :: w) := by
 apply Zhj
 unfold Z7N Z50
 cases z
 ·rw [if_neg (by simp)]
  simp only [Zlj _ _ _ h, Zlm _ _ _ _ h, ZV]
  rfl
 ·rw [if_pos rfl]
  simp only [Zlj _ _ _ h, Zlm _ _ _ _ h, ZV]
  rfl
def Wr (fold : Bool) (n : Zk) (p : Cp) : Prop :=
 Lk p ∧ ∀ (out : List Zw) (lp : Int), out.length + p.1.length ≤ 10000 → 0 ≤ lp ∧ lp ≤ out.length →
  Z1R n out fold lp = some (out ++ mvL out.length lp p.1, lp + p.2)
theorem Zic {fold : Bool} {n : Zk} {p : Cp} (h : ∀ (out : List Zw) (lp : Int), out.length + p.1.length ≤ 10000 → 0 ≤ lp ∧ lp ≤ out.length → Z1R n out fold lp = some (out ++ mvL out.length lp p.1, lp + p.2))
  {o : List Zw} {a lp : Int} (ha : ((o.length : Nat) : Int) = a) (h1 : o.length + p.1.length ≤ 10000) (h2 : 0 ≤ lp ∧ lp ≤ a) : Z1R n o fold lp = some (o ++ mvL a lp p.1, lp + p.2) := by
 subst ha
 exact h o lp h1 h2
theorem ZqR (o : List Zw) (x : Zw) {k : Int} (h : o.length ≤ 100000) (hk : ((o.length : Nat) : Int) = k) : Z1k x o = some (k, o ++ [x]) := by
 subst hk
 exact Z8G x o h
theorem ZC6 {fold : Bool} {l : List Zk} {P : List Cp} (hl : l.length ≤ 3000) (hP : P.length = l.length) (hK : ∀ (i : Nat) (x : Zk) (p : Cp), l[i]? = some x → P[i]? = some p → Wr fold x p) :
  ∀ (m i : Nat) (out : List Zw) (lp : Int), i + m = l.length → out.length + (seqC (P.drop i)).1.length ≤ 10000 → 0 ≤ lp ∧ lp ≤ out.length →
   Z51 l (l.length : Int) (i : Int) out fold lp = some (out ++ mvL out.length lp (seqC (P.drop i)).1, lp + (seqC (P.drop i)).2) := by
 intro m
 induction m with
 | zero =>
  intro i out lp h hb hp
  apply Zas
  unfold Z4Z
  rw [if_neg (Z21 (by omega)), Zeb (by omega)]
  simp [seqC, Zd2]
 | succ m ih =>
  intro i out lp h hb hp
  have hil : i < l.length := by omega
  obtain ⟨k1, k2⟩ := hK i l[i] P[i] (q4_ hil) (q4_ (by omega))
  rw [Zfa (show i < P.length by omega)] at hb ⊢
  simp only [seqC, q3_, Z1N] at hb
  apply Zas
  unfold Z4Z Z6x
  unfold Lk at k1
  rw [if_pos (Z2f (by omega)), Z4i, q4_ hil, ZV, k2 out lp (by omega) hp, ZV, wrap_i64 (n := (i : Int) + 1) (by omega) (by omega)]
  have e := ih (i + 1) (out ++ mvL out.length lp P[i].1) (lp + P[i].2) (by omega) (by rw [q3_, Z1N]; omega) (by rw [q3_, Z1N]; omega)
  refine e.trans ?_
  simp only [seqC, q3_, Z1N, Z9P, Z9Q, Z8s]
  rw [Zvb (a := ((out.length + P[i].1.length : Nat) : Int)) (a' := (P[i].1.length : Int) + out.length) (l := lp + P[i].2) (l' := (P[i].2 : Int) + lp) (by omega) (by omega)]
  congr 2
  omega
def ZeP (a : Int) : List Cp → List Int
 | [] => []
 | d :: r => (a + d.1.length + 1) :: ZeP (a + (d.1.length + 2)) r
theorem Zpc (P : List Cp) : ∀ a, (ZeP a P).length = P.length := by
 induction P with
 | nil => intro a; rfl
 | cons d r ih => intro a; simp [ZeP, ih]
theorem ZC3 {fold : Bool} {l : List Zk} {P : List Cp} (y : Zk) (hl : l.length + 1 ≤ 3000) (hP : P.length = l.length) (hK : ∀ (i : Nat) (x : Zk) (p : Cp), l[i]? = some x → P[i]? = some p → Wr fold x p) :
  ∀ (m i : Nat) (acc : List Int) (out : List Zw) (lp : Int), i + m = l.length → acc.length = i → out.length + (preC 0 (P.drop i)).1.length ≤ 10000 → 0 ≤ lp ∧ lp ≤ out.length →
   ∀ r, Z5o (l ++ [y]) (acc ++ ZeP out.length (P.drop i)) (l.length : Int) (out ++ mvL out.length lp (preC (-(out.length : Int)) (P.drop i)).1) fold (lp + (preC 0 (P.drop i)).2) = some r →
    Z5P (l ++ [y]) acc (l.length : Int) l (l.length : Int) (i : Int) out fold lp = some r := by
 intro m
 induction m with
 | zero =>
  intro i acc out lp h ha hb hp r e
  apply Zb3
  unfold Z5N
  rw [if_neg (Z21 (by omega))]
  rw [Zeb (by omega)] at e
  simpa [preC, ZeP, Zd2] using e
 | succ m ih =>
  intro i acc out lp h ha hb hp r e
  have hil : i < l.length := by omega
  obtain ⟨k1, k2⟩ := hK i l[i] P[i] (q4_ hil) (q4_ (by omega))
  rw [Zfa (show i < P.length by omega)] at hb e
  unfold Lk at k1
  have hl2 := (Zlv (P.drop (i + 1)) (0 - (P[i].1.length + 2)) 0)
  simp only [preC, q3_, q5_, Z1N, hl2] at hb
  generalize hd : P[i] = d at *
  have s1 := Z8G (sp 0 0) out (by omega)
  have s2 := Zic (o := out ++ [sp 0 0]) k2 (a := (out.length : Int) + 1) (lp := lp) (by simp) (by simp only [q3_, q5_, q7_]; omega) (by omega)
  simp only [Z8s, ZsB] at s2
  have s3 := ZqR (out ++ sp 0 0 :: mvL ((out.length : Int) + 1) lp d.1) (jp 0) (k := out.length + d.1.length + 1) (by simp only [q3_, q5_, Z1N]; omega) (by simp only [q3_, q5_, Z1N]; omega)
  simp only [Z8s, Zb1] at s3
  have s4 := Znk out (sp 0 0) (mvL ((out.length : Int) + 1) lp d.1 ++ [jp 0]) out.length (out.length + 1) ((out.length : Int) + (d.1.length + 2)) false rfl
  have hT : (((out ++ sp 0 0 :: (mvL ((out.length : Int) + 1) lp d.1 ++ [jp 0])).length : Nat) : Int) = (out.length : Int) + (d.1.length + 2) := by
   simp only [q3_, q5_, q7_, Z1N]
   omega
  have e2 := ih (i + 1) (acc ++ [(out.length : Int) + d.1.length + 1]) (out ++ sp (out.length + 1) ((out.length : Int) + (d.1.length + 2)) :: (mvL ((out.length : Int) + 1) lp d.1 ++ [jp 0])) (lp + d.2) (by omega) (by simp only [q3_, Zn0]; omega)
   (by simp only [q3_, q5_, q7_, Z1N]; omega) (by simp only [q3_, q5_, q7_, Z1N]; omega) r ?_
  ·apply Zb3
   unfold Z5N Z7i
   rw [if_pos (Z2f (by omega)), Z4i, q4_ hil, ZV]
   simp only [sp, jp] at s1 s2 s3 s4 hT
   rw [s1, ZV]
   dsimp only
   rw [s2, ZV]
   dsimp only
   rw [s3, ZV]
   dsimp only
   rw [ZnH _ _ (by simp only [Zn0]; omega), ZV, wrap_i64 (n := (i : Int) + 1) (by omega) (by omega), wrap_i64 (n := (out.length : Int) + 1) (by omega) (by omega), hT, s4, ZV]
   exact e2
  ·refine Eq.trans ?_ e
   have hT' : (((out ++ sp (out.length + 1) ((out.length : Int) + (d.1.length + 2)) :: (mvL ((out.length : Int) + 1) lp d.1 ++ [jp 0])).length : Nat) : Int) = (out.length : Int) + (d.1.length + 2) := by
    simp only [q3_, q5_, q7_, Z1N]
    omega
   rw [hT']
   simp only [preC, ZeP, Z9P, Zcr, Z9Q, Zsx, Zyt, Z8s, Zb1, Z9N]
   rw [show (1 : Int) + out.length = (out.length : Int) + 1 by omega, show ((d.1.length : Int) + 2 + out.length) = (out.length : Int) + (d.1.length + 2) by omega, show -(out.length : Int) + out.length = 0 by omega, show (d.2 : Int) + lp = lp + d.2 by omega, show (0 : Int) + lp = lp by omega,
    show -(out.length : Int) - (d.1.length + 2) = -((out.length : Int) + (d.1.length + 2)) by omega, hl2.2]
   congr 1
   omega
theorem ZDb (E : List Int) (hE : E.length ≤ 3000) (T : Int) (lp' : Int) : ∀ (P : List Cp) (j : Nat) (u w : List Zw) (lp e : Int), j + P.length = E.length → E.drop j = ZeP u.length P →
  (((u ++ (mvL u.length lp (preC e P).1 ++ w)).length : Nat) : Int) = T →
  Z5t E (E.length : Int) (j : Int) (u ++ (mvL u.length lp (preC e P).1 ++ w)) lp' = some (u ++ (mvL u.length lp (preC (T - u.length) P).1 ++ w), lp') := by
 intro P
 induction P with
 | nil =>
  intro j u w lp e h1 h2 h3
  apply ZaX
  unfold Z5n
  simp only [q7_] at h1
  rw [if_neg (Z21 (by omega))]
  rfl
 | cons d P ih =>
  intro j u w lp e h1 h2 h3
  simp only [q5_] at h1
  have hj : j < E.length := by omega
  rw [Zfa hj] at h2
  simp only [ZeP, Zly] at h2
  apply ZaX
  unfold Z5n Z71
  rw [if_pos (Z2f (by omega)), Z4i, q4_ hj, ZV, h2.1, h3]
  have eo : ∀ e, u ++ (mvL u.length lp (preC e (d :: P)).1 ++ w) = (u ++ (sp (u.length + 1) (u.length + (d.1.length + 2)) :: mvL (u.length + 1) lp d.1)) ++ jp (e + u.length) :: (mvL (u.length + (d.1.length + 2)) (lp + d.2) (preC (e - (d.1.length + 2)) P).1 ++ w) := by
   intro e
   simp only [preC, Z9P, Zcr, Z9Q, Zsx, Zyt, Z8s, Zb1]
   rw [show (1 : Int) + u.length = (u.length : Int) + 1 by omega, show ((d.1.length : Int) + 2 + u.length) = (u.length : Int) + (d.1.length + 2) by omega, show (d.2 : Int) + lp = lp + d.2 by omega, show (0 : Int) + lp = lp by omega]
  have hu : (u.length : Int) + d.1.length + 1 = (((u ++ (sp (u.length + 1) (u.length + (d.1.length + 2)) :: mvL (u.length + 1) lp d.1)).length : Nat) : Int) := by
   simp only [q3_, q5_, Z1N]
   omega
  rw [eo e, Zlj _ _ _ hu, ZV, ZV, Zlm _ _ _ _ hu, wrap_i64 (n := (j : Int) + 1) (by omega) (by omega)]
  have e2 := ih (j + 1) (u ++ (sp (u.length + 1) (u.length + (d.1.length + 2)) :: (mvL (u.length + 1) lp d.1 ++ [jp T]))) w (lp + d.2) (e - (d.1.length + 2)) (by omega)
   (by rw [h2.2]; congr 1; simp only [q3_, q5_, q7_, Z1N]; omega)
   (by rw [← h3, eo e]; simp only [q3_, q5_, q7_, Z1N]; omega)
  have hu2 : (((u ++ (sp (u.length + 1) (u.length + (d.1.length + 2)) :: (mvL (u.length + 1) lp d.1 ++ [jp T]))).length : Nat) : Int) = u.length + (d.1.length + 2) := by
   simp only [q3_, q5_, q7_, Z1N]
   omega
  rw [hu2] at e2
  rw [eo (T - u.length)]
  simp only [Z8s, Zb1, Z9N] at e2 ⊢
  rw [show T - (u.length : Int) + u.length = T by omega, show T - (u.length : Int) - (d.1.length + 2) = T - (u.length + (d.1.length + 2)) by omega]
  exact e2
theorem ZDc {fold : Bool} {l : List Zk} {P : List Cp} {y : Zk} {q : Cp} (hl : l.length + 1 ≤ 3000) (hP : P.length = l.length) (hK : ∀ (i : Nat) (x : Zk) (p : Cp), l[i]? = some x → P[i]? = some p → Wr fold x p) (hy : Wr fold y q)
  (out : List Zw) (lp : Int) (hb : out.length + (altC P q).1.length ≤ 10000) (hp : 0 ≤ lp ∧ lp ≤ out.length) :
  Z6U (l ++ [y]) out fold lp = some (out ++ mvL out.length lp (altC P q).1, lp + (altC P q).2) := by
 have hlk : Lk (preC 0 P) := ZrN 0 (ZqD (R := fun _ _ => True) hP fun i x p h1 h2 => (hK i x p h1 h2).1)
 unfold Lk at hlk
 have n1 := (Zlv P ((preC 0 P).1.length + q.1.length) 0).1
 have n2 := (Zlv P (-(out.length : Int)) 0).1
 simp only [altC, q3_, Z1N, n1] at hb
 apply ZiA
 unfold Z8z
 have es : lsl (l ++ [y]) 0 (IntKind.i64.wrap (((l ++ [y]).length : Int) - 1)) = some l := by
  rw [q3_, Zn0, wrap_i64 (by omega) (by omega)]
  unfold lsl
  rw [if_pos (by simp only [q3_, Zn0]; omega), show (((l.length + 1 : Nat) : Int) - 1).toNat = l.length by omega]
  simp
 rw [es, ZV, q3_, Zn0, wrap_i64 (by omega) (by omega), show ((l.length + 1 : Nat) : Int) - 1 = l.length by omega]
 have h0 : (0 : Int) = ((0 : Nat) : Int) := rfl
 rw [h0]
 refine ZC3 y hl hP hK l.length 0 [] out lp (by omega) rfl (by rw [ZoV]; omega) hp _ ?_
 rw [ZoV, Z9N]
 unfold Z5o
 have hL : (((out ++ mvL out.length lp (preC (-(out.length : Int)) P).1).length : Nat) : Int) = out.length + (preC 0 P).1.length := by
  rw [q3_, Z1N, n2]; omega
 have hL' : (out ++ mvL out.length lp (preC (-(out.length : Int)) P).1).length = out.length + (preC 0 P).1.length := by omega
 rw [Z4i, ZoP (by omega), show l.length - l.length = 0 by omega]
 rw [show [y][0]? = some y from rfl, ZV, Zic hy.2 hL (by omega) (by omega), ZV]
 dsimp only
 have hT : (((out ++ (mvL out.length lp (preC (-(out.length : Int)) P).1 ++ mvL (out.length + (preC 0 P).1.length) (lp + (preC 0 P).2) q.1)).length : Nat) : Int) = out.length + ((preC 0 P).1.length + q.1.length) := by
  simp only [q3_, Z1N, n2]
  omega
 have e := ZDb (ZeP out.length P) (by rw [Zpc]; omega) _ (lp + ((preC 0 P).2 : Int) + q.2) P 0 out (mvL (out.length + (preC 0 P).1.length) (lp + (preC 0 P).2) q.1) lp (-(out.length : Int)) (by rw [Zpc]; omega) rfl hT
 rw [Z8s]
 refine e.trans ?_
 rw [show (out.length : Int) + ((preC 0 P).1.length + q.1.length) - out.length = (preC 0 P).1.length + q.1.length by omega]
 simp only [altC, Z9P, Z9Q]
 rw [show ((preC 0 P).1.length : Int) + out.length = out.length + (preC 0 P).1.length by omega, show ((preC 0 P).2 : Int) + lp = lp + (preC 0 P).2 by omega]
 congr 2
 omega
end Go.Proofs.YtocikhhkicahoaaDoor.N2
end
section
namespace Go.Proofs.YtocikhhkicahoaaDoor.N2
open Go Go.Abs Go.Proofs.Unis Go.Proofs.Norm
set_option maxRecDepth 100000
def Zfg (a k : Int) : Nat → List Int
 | 0 => []
 | m + 1 => a :: Zfg (a + (k + 1)) k m
theorem Zr2 (k : Int) : ∀ (m : Nat) (a : Int), (Zfg a k m).length = m := by
 intro m
 induction m with
 | zero => intro a; rfl
 | succ m ih => intro a; simp [Zfg, ih]
section
variable {fold : Bool} {n x : Zk} {p : Cp} (hn : n.Kids = [x]) (hx : Wr fold x p)
include hn
include hx in
theorem ZC8 (z : Bool) (cnt : Nat) (hc : cnt ≤ 64) : ∀ (m i : Nat) (acc : List Int) (out : List Zw) (lp : Int), i + m = cnt → acc.length = i → out.length + (optH p 0 m).1.length ≤ 10000 → 0 ≤ lp ∧ lp ≤ out.length →
  ∀ r, Z4x z (acc ++ Zfg out.length p.1.length m) (out ++ mvL out.length lp (optH p (-(out.length : Int)) m).1) (lp + (optH p 0 m).2) = some r →
   Z4C z acc (cnt : Int) (i : Int) out fold lp n = some r := by
 intro m
 induction m with
 | zero =>
  intro i acc out lp h ha hb hp r e
  apply Z9I
  unfold Z4v
  rw [if_neg (Z21 (by omega))]
  simpa [optH, Zfg, Zd2] using e
 | succ m ih =>
  intro i acc out lp h ha hb hp r e
  obtain ⟨k1, k2⟩ := hx
  unfold Lk at k1
  have hl2 : ∀ e, (optH p e m).1.length = (optH p 0 m).1.length ∧ (optH p e m).2 = (optH p 0 m).2 := fun e => by
   have a := ZiI false p m 0 e
   have b := ZiI false p m 0 0
   exact ⟨by omega, by omega⟩
  simp only [optH, q3_, q5_, Z1N, hl2 (0 - (p.1.length + 1))] at hb
  have s1 := Z8G (sp 0 0) out (by omega)
  have s2 := Zic (o := out ++ [sp 0 0]) k2 (a := (out.length : Int) + 1) (lp := lp) (by simp) (by simp only [q3_, q5_, q7_]; omega) (by omega)
  simp only [Z8s, ZsB] at s2
  have hT : (((out ++ sp 0 0 :: mvL ((out.length : Int) + 1) lp p.1).length : Nat) : Int) = (out.length : Int) + (p.1.length + 1) := by
   simp only [q3_, q5_, Z1N]
   omega
  have e2 := ih (i + 1) (acc ++ [(out.length : Int)]) (out ++ sp 0 0 :: mvL ((out.length : Int) + 1) lp p.1) (lp + p.2) (by omega) (by simp only [q3_, Zn0]; omega)
   (by simp only [q3_, q5_, Z1N]; omega) (by omega) r ?_
  ·apply Z9I
   unfold Z4v Z61
   rw [if_pos (Z2f (by omega)), hn]
   simp only [sp] at s1 s2
   rw [s1, ZV]
   dsimp only
   rw [ZnH _ _ (by simp only [Zn0]; omega), ZV, show lget [x] 0 = some x from rfl, ZV, s2, ZV, wrap_i64 (n := (i : Int) + 1) (by omega) (by omega)]
   exact e2
  ·refine Eq.trans ?_ e
   rw [hT]
   simp only [optH, Zfg, Z9P, Zcr, Z9Q, Zsx, Z8s, Zb1, Z9N]
   rw [show (1 : Int) + out.length = (out.length : Int) + 1 by omega, show ((p.1.length : Int) + 1 + out.length) = (out.length : Int) + (p.1.length + 1) by omega, show -(out.length : Int) + out.length = 0 by omega, show (p.2 : Int) + lp = lp + p.2 by omega, show (0 : Int) + lp = lp by omega,
    show -(out.length : Int) - (p.1.length + 1) = -((out.length : Int) + (p.1.length + 1)) by omega]
   have := (hl2 (0 - (p.1.length + 1))).2
   have := (hl2 (-((out.length : Int) + (p.1.length + 1)))).2
   congr 1
   omega
omit hn in
theorem ZDd (z : Bool) (E : List Int) (hE : E.length ≤ 3000) (T : Int) (lp' : Int) (hb : T ≤ 100000) : ∀ (m : Nat) (j : Nat) (u : List Zw) (lp e : Int), j + m = E.length → E.drop j = Zfg u.length p.1.length m →
  (((u ++ mvL u.length lp (optH p e m).1).length : Nat) : Int) = T →
  Z4D z E (E.length : Int) (j : Int) (u ++ mvL u.length lp (optH p e m).1) lp' = some (u ++ mvL u.length lp (optC z p (T - u.length) m).1, lp') := by
 intro m
 induction m with
 | zero =>
  intro j u lp e h1 h2 h3
  apply Z9K
  unfold Z4w
  rw [if_neg (Z21 (by omega))]
  rfl
 | succ m ih =>
  intro j u lp e h1 h2 h3
  have hj : j < E.length := by omega
  rw [Zfa hj] at h2
  simp only [Zfg, Zly] at h2
  have hu : u.length ≤ T := by rw [← h3, q3_]; omega
  apply Z9K
  unfold Z4w Z62
  rw [if_pos (Z2f (by omega)), Z4i, q4_ hj, ZV, h2.1, h3]
  have eo : u ++ mvL u.length lp (optH p e (m + 1)).1 = u ++ sp (e + u.length) (e + u.length) :: (mvL (u.length + 1) lp p.1 ++ mvL (u.length + (p.1.length + 1)) (lp + p.2) (optH p (e - (p.1.length + 1)) m).1) := by
   simp only [optH, Z9P, Zcr, Z9Q, Zsx]
   rw [show (1 : Int) + u.length = (u.length : Int) + 1 by omega, show ((p.1.length : Int) + 1 + u.length) = (u.length : Int) + (p.1.length + 1) by omega, show (p.2 : Int) + lp = lp + p.2 by omega, show (0 : Int) + lp = lp by omega]
  have ec : u ++ mvL u.length lp (optC z p (T - u.length) (m + 1)).1 = u ++ spz z (u.length + 1) T :: (mvL (u.length + 1) lp p.1 ++ mvL (u.length + (p.1.length + 1)) (lp + p.2) (optC z p (T - (u.length + (p.1.length + 1))) m).1) := by
   simp only [optC, Z9P, Zcr, Z9Q, ZBm]
   rw [show (1 : Int) + u.length = (u.length : Int) + 1 by omega, show ((p.1.length : Int) + 1 + u.length) = (u.length : Int) + (p.1.length + 1) by omega, show (p.2 : Int) + lp = lp + p.2 by omega, show (0 : Int) + lp = lp by omega, show T - (u.length : Int) + u.length = T by omega, show T - (u.length : Int) - (p.1.length + 1) = T - (u.length + (p.1.length + 1)) by omega]
  rw [wrap_i64 (n := (u.length : Int) + 1) (by omega) (by omega), wrap_i64 (n := (j : Int) + 1) (by omega) (by omega)]
  have s := Znk u (sp (e + u.length) (e + u.length)) (mvL (u.length + 1) lp p.1 ++ mvL (u.length + (p.1.length + 1)) (lp + p.2) (optH p (e - (p.1.length + 1)) m).1) u.length (u.length + 1) T z rfl
  rw [eo, s, ZV, ec]
  have hu2 : (((u ++ (spz z (u.length + 1) T :: mvL (u.length + 1) lp p.1)).length : Nat) : Int) = u.length + (p.1.length + 1) := by
   simp only [q3_, q5_, Z1N]
   omega
  have e2 := ih (j + 1) (u ++ (spz z (u.length + 1) T :: mvL (u.length + 1) lp p.1)) (lp + p.2) (e - (p.1.length + 1)) (by omega)
   (by rw [h2.2, hu2])
   (by rw [← h3, eo]; simp only [q3_, q5_, Z1N] <;> omega)
  rw [hu2] at e2
  simp only [Z8s, Zb1] at e2
  have hz : (⟨(sp (e + u.length) (e + u.length)).Op, if z = true then T else (u.length : Int) + 1, if z = true then (u.length : Int) + 1 else T, (sp (e + u.length) (e + u.length)).C, (sp (e + u.length) (e + u.length)).D, (sp (e + u.length) (e + u.length)).Set⟩ : Zw) = spz z (u.length + 1) T := by cases z <;> rfl
  rw [hz]
  exact e2
omit hn in
include hx in
theorem ZC7 (z : Bool) (out : List Zw) (lp : Int) (hb : out.length + (ZbT z p).1.length ≤ 10000) (hp : 0 ≤ lp ∧ lp ≤ out.length) :
  Z8f x z out fold lp = some (out ++ mvL out.length lp (ZbT z p).1, lp + (ZbT z p).2) := by
 obtain ⟨k1, k2⟩ := hx
 unfold Lk at k1
 simp only [ZbT, q3_, q5_, Z1N, q7_] at hb
 have s1 := Z8G (sp 0 0) out (by omega)
 have s2 := ZqR (out ++ [sp 0 0]) (mk lp) (k := (out.length : Int) + 1) (by simp <;> omega) (by simp)
 have s3 := Zic (o := out ++ [sp 0 0] ++ [mk lp]) k2 (a := (out.length : Int) + 2) (lp := lp + 1) (by simp <;> omega) (by simp <;> omega) (by omega)
 have s4 := ZqR (out ++ [sp 0 0] ++ [mk lp] ++ mvL (out.length + 2) (lp + 1) p.1) (gd lp) (k := (out.length : Int) + (p.1.length + 2)) (by simp [Z1N] <;> omega) (by simp [Z1N] <;> omega)
 have s5 := ZqR (out ++ [sp 0 0] ++ [mk lp] ++ mvL (out.length + 2) (lp + 1) p.1 ++ [gd lp]) (jp out.length) (k := (out.length : Int) + (p.1.length + 3)) (by simp [Z1N] <;> omega) (by simp [Z1N] <;> omega)
 have hT : (((out ++ sp 0 0 :: mk lp :: (mvL (out.length + 2) (lp + 1) p.1 ++ [gd lp, jp out.length])).length : Nat) : Int) = (out.length : Int) + (p.1.length + 4) := by
  simp only [q3_, q5_, q7_, Z1N]; omega
 have s6 := Znk out (sp 0 0) (mk lp :: (mvL (out.length + 2) (lp + 1) p.1 ++ [gd lp, jp out.length])) out.length (out.length + 1) (out.length + (p.1.length + 4)) z rfl
 simp only [Z8s, ZsB, Zb1, Z9N] at s2 s3 s4 s5
 apply ZhT
 unfold Z8d
 rw [show (Zw.mk 3 0 0 0 0 []) = sp 0 0 from rfl, show (Zw.mk 10 lp 0 0 0 []) = mk lp from rfl, show (Zw.mk 11 lp 0 0 0 []) = gd lp from rfl, s1, ZV]
 dsimp only
 rw [s2, ZV]
 dsimp only
 rw [wrap_i64 (n := lp + 1) (by omega) (by omega), s3, ZV]
 dsimp only
 rw [s4, ZV]
 dsimp only
 rw [show (Zw.mk 2 (out.length : Int) 0 0 0 []) = jp out.length from rfl, s5, ZV]
 dsimp only
 rw [hT, wrap_i64 (by omega) (by omega), s6, ZV]
 simp only [ZbT, Z9P, Zcr, Z9Q, ZBm, ZHK, ZHJ, Zyt, Zd2]
 rw [show (2 : Int) + out.length = (out.length : Int) + 2 by omega, show (1 : Int) + out.length = (out.length : Int) + 1 by omega, show ((p.1.length : Int) + 4 + out.length) = (out.length : Int) + (p.1.length + 4) by omega, show (1 : Int) + lp = lp + 1 by omega, show (0 : Int) + lp = lp by omega, show (0 : Int) + (out.length : Int) = out.length by omega]
 have hz : (⟨(sp 0 0).Op, if z = true then (out.length : Int) + (p.1.length + 4) else (out.length : Int) + 1, if z = true then (out.length : Int) + 1 else (out.length : Int) + (p.1.length + 4), (sp 0 0).C, (sp 0 0).D, (sp 0 0).Set⟩ : Zw) = spz z (out.length + 1) (out.length + (p.1.length + 4)) := by cases z <;> rfl
 rw [hz]
 congr 2
 omega
include hx in
theorem ZCa (z : Bool) (lo hi : Int) (h1 : 0 ≤ lo ∧ lo ≤ 64) (h2 : hi = -1 ∨ (lo ≤ hi ∧ hi ≤ 64)) (hlo : n.Lo = lo) (hhi : n.Hi = hi) (out : List Zw) (lp : Int)
  (hb : out.length + (if hi < 0 then ZbT z p else optC z p ((optC z p 0 (hi - lo).toNat).1.length) (hi - lo).toNat).1.length ≤ 10000) (hp : 0 ≤ lp ∧ lp ≤ out.length) :
  Z3x z out fold lp n = some (out ++ mvL out.length lp (if hi < 0 then ZbT z p else optC z p ((optC z p 0 (hi - lo).toNat).1.length) (hi - lo).toNat).1, lp + (if hi < 0 then ZbT z p else optC z p ((optC z p 0 (hi - lo).toNat).1.length) (hi - lo).toNat).2) := by
 unfold Z3x Z60
 by_cases hh : hi < 0
 ·rw [if_pos (Z2f (by omega)), hn, show lget [x] 0 = some x from rfl, ZV]
  simp only [hh, if_true] at hb ⊢
  rw [ZC7 hx z out lp hb hp, ZV]
 ·rw [if_neg (Z21 (by omega))]
  simp only [hh, if_false] at hb ⊢
  rw [hlo, hhi, wrap_i64 (by omega) (by omega)]
  have hm : hi - lo = (((hi - lo).toNat : Nat) : Int) := by omega
  rw [hm, Int.toNat_natCast]
  have hm64 : (hi - lo).toNat ≤ 64 := by omega
  generalize (hi - lo).toNat = m at *
  have q0 := ZiI z p m ((optC z p 0 m).1.length) 0
  have q1 := ZiI z p m 0 0
  have q2 := ZiI z p m 0 (-(out.length : Int))
  have h0 : (0 : Int) = ((0 : Nat) : Int) := rfl
  conv => lhs; rw [h0]
  refine ZC8 hn hx z m hm64 m 0 [] out lp (by omega) rfl (by omega) hp _ ?_
  unfold Z4x
  rw [Z9N]
  have e := ZDd (p := p) z (Zfg out.length p.1.length m) (by rw [Zr2]; omega) ((out.length : Int) + (optC z p 0 m).1.length) (lp + (optH p 0 m).2) (by omega) m 0 out lp (-(out.length : Int)) (by rw [Zr2]; omega) rfl (by rw [q3_, Z1N]; omega)
  refine e.trans ?_
  rw [show (out.length : Int) + (optC z p 0 m).1.length - out.length = (optC z p 0 m).1.length by omega]
  congr 2
  omega
include hx in
theorem ZC9 (z : Bool) (lo hi : Int) (h1 : 0 ≤ lo ∧ lo ≤ 64) : ∀ (m i : Nat) (out : List Zw) (lp : Int), (i : Int) + m = lo → out.length + (seqC (List.replicate m p)).1.length ≤ 10000 → 0 ≤ lp ∧ lp ≤ out.length →
  ∀ r, Z3x z (out ++ mvL out.length lp (seqC (List.replicate m p)).1) fold (lp + (seqC (List.replicate m p)).2) n = some r → Z4N z lo (i : Int) out fold lp n = some r := by
 obtain ⟨k1, k2⟩ := hx
 unfold Lk at k1
 intro m
 induction m with
 | zero =>
  intro i out lp h hb hp r e
  apply Zac
  unfold Z4L
  rw [if_neg (Z21 (by omega))]
  simpa [seqC, Zd2] using e
 | succ m ih =>
  intro i out lp h hb hp r e
  rw [List.replicate_succ] at hb e
  simp only [seqC, q3_, Z1N] at hb
  apply Zac
  unfold Z4L Z6l Z6m
  rw [if_pos (Z2f (by omega)), hn, show lget [x] 0 = some x from rfl, ZV, k2 out lp (by omega) hp, ZV]
  dsimp only
  by_cases h0 : p.1.length = 0
  ·have e0 : p.1 = [] := Zhm h0
   have e1 : p = ([], 0) := Z3y e0 (by show p.2 = 0; omega)
   have e2 : ∀ m, seqC (List.replicate m (([], 0) : Cp)) = ([], 0) := by
    intro m
    induction m with
    | zero => rfl
    | succ m ih => rw [List.replicate_succ, seqC, ih]; rfl
   rw [if_pos (Z2i (by rw [q3_, Z1N, h0]; omega))]
   rw [e1] at e ⊢
   rw [seqC, e2] at e
   exact e
  ·rw [if_neg (Z2b (by rw [q3_, Z1N]; omega)), wrap_i64 (n := (i : Int) + 1) (by omega) (by omega)]
   refine ih (i + 1) _ _ (by omega) (by rw [q3_, Z1N]; omega) (by rw [q3_, Z1N]; omega) r ?_
   refine Eq.trans ?_ e
   simp only [seqC, q3_, Z1N, Z9P, Z9Q, Z8s]
   rw [Zvb (a := ((out.length + p.1.length : Nat) : Int)) (a' := (p.1.length : Int) + out.length) (l := lp + p.2) (l' := (p.2 : Int) + lp) (by omega) (by omega)]
   congr 1
   omega
include hx in
theorem ZvU (lo hi : Int) (h1 : 0 ≤ lo ∧ lo ≤ 64) (h2 : hi = -1 ∨ (lo ≤ hi ∧ hi ≤ 64)) (hlo : n.Lo = lo) (hhi : n.Hi = hi) (out : List Zw) (lp : Int) (hb : out.length + (repC lo hi (n.Mode == 1) p).1.length ≤ 10000) (hp : 0 ≤ lp ∧ lp ≤ out.length) :
  Z4B n out fold lp = some (out ++ mvL out.length lp (repC lo hi (n.Mode == 1) p).1, lp + (repC lo hi (n.Mode == 1) p).2) := by
 have hk : Lk (seqC (List.replicate lo.toNat p)) := ZkI fun q hq => by rw [ZCZ hq]; exact hx.1
 unfold Lk at hk
 apply ZgP
 unfold Z7m
 unfold repC at hb ⊢
 rw [ZEy] at hb ⊢
 simp only [q3_, Z1N] at hb
 rw [hlo]
 have h0 : (0 : Int) = ((0 : Nat) : Int) := rfl
 conv => lhs; rw [h0]
 refine ZC9 hn hx _ lo hi h1 lo.toNat 0 out lp (by omega) (by omega) hp _ ?_
 have e := ZCa hn hx (n.Mode == 1) lo hi h1 h2 hlo hhi (out ++ mvL out.length lp (seqC (List.replicate lo.toNat p)).1) (lp + (seqC (List.replicate lo.toNat p)).2) (by rw [q3_, Z1N]; omega) (by rw [q3_, Z1N]; omega)
 refine e.trans ?_
 simp only [q3_, Z1N, Z9P, Z9Q, Z8s]
 rw [Zvb (a := ((out.length + (seqC (List.replicate lo.toNat p)).1.length : Nat) : Int)) (a' := ((seqC (List.replicate lo.toNat p)).1.length : Int) + out.length) (l := lp + (seqC (List.replicate lo.toNat p)).2) (l' := ((seqC (List.replicate lo.toNat p)).2 : Int) + lp) (by omega) (by omega)]
 congr 2
 omega
end
end Go.Proofs.YtocikhhkicahoaaDoor.N2
end
section
namespace Go.Proofs.Norm
theorem ZyO : ∀ {l : List R2} {a : Int}, AscF a l → ∀ r ∈ l, a + 2 ≤ r.1
 | [], _, _, r, hr => by simp at hr
 | x :: t, a, h, r, hr => by
  rcases Z6c.1 hr with rfl | hr
  ·exact h.2.1
  ·have := ZyO h.2.2 r hr
   have := h.1
   have := h.2.1
   omega
theorem Zp7 : ∀ {l : List R2} {a : Int}, AscF a l → l.Pairwise (fun a b => a.1 ≤ b.1)
 | [], _, _ => .nil
 | x :: t, a, h => by
  refine .cons (fun r hr => ?_) (Zp7 h.2.2)
  have := ZyO h.2.2 r hr
  have := h.1
  omega
theorem ZsK : ∀ (l acc : List R2) (a : Int), AscF a l → (∀ o os, acc = o :: os → o.2 = a) → l.foldl Z2M acc = l.reverse ++ acc
 | [], _, _, _, _ => rfl
 | r :: t, acc, a, h, ha => by
  have h1 : Z2M acc r = r :: acc := by
   cases acc with
   | nil => rfl
   | cons o os =>
    have := ha o os rfl
    have := h.2.1
    unfold Z2M
    simp only
    rw [if_neg (by omega)]
  rw [Zfb, h1, ZsK t (r :: acc) r.2 h.2.2 (by rintro o os ⟨⟩; rfl)]
  simp
theorem ZqH {l : List R2} (h : Z2x l) : Z5v l = l := by
 have h1 := Z8g.1 h
 rw [← Zkz (List.Perm.refl l) (Zp7 h1) (fun y hy => (h1.right y hy).2.1), ZsK l [] (-2) h1 (by simp)]
 simp
end Go.Proofs.Norm
namespace Go.Proofs.YtocikhhkicahoaaDoor.N2
open Go Go.Abs Go.Proofs.Unis Go.Proofs.Norm
set_option maxRecDepth 100000
theorem ZyV (rs : List R2) (hl : rs.length ≤ 1048576) : Zbl (rs.map ofR) = some (apo .ex (rs.map encR), rs.map ofR) := by
 refine Z1i (fun _ _ ha hb => RRun.uniq Zfv (ha .sh) (hb .sh)) fun o => ?_
 have e : EE 23 [(.p (.lst o ((rs.map ofR).map Zv)))] [] = some ((.p (.lst (apo .ex (rs.map encR)) ((rs.map ofR).map Zv))), []) := by
  rw [show EE 23 = E PP XX HH 23 from rfl, Zso (P := PP) (X := XX) (H := HH) (f := 23) (m := ZkL) (by kernel_rfl), Zkx]
  unfold ZkL
  simp only [Zgn]
  rw [if_pos (by simpa using hl)]
 exact ⟨_, e, [], by simp⟩
theorem ZH1 (xs : List PV) : okA (apo .ex xs) = some () := by cases xs <;> rfl
def twL (l : List R2) : Nat → List R2
 | 0 => []
 | m + 1 => (if l.any (fun r => decide (r.1 ≤ 90 - (m : Int)) && decide (90 - (m : Int) ≤ r.2)) = true ∨ l.any (fun r => decide (r.1 ≤ 122 - (m : Int)) && decide (122 - (m : Int) ≤ r.2)) = true then [(90 - (m : Int), 90 - (m : Int)), (122 - (m : Int), 122 - (m : Int))] else []) ++ twL l m
def Zjg (l : List R2) : List R2 := Z5v (l ++ twL l 26)
theorem ZBZ (l : List R2) : ∀ m : Nat, m ≤ 26 → (twL l m).length ≤ 2 * m ∧ ∀ r ∈ twL l m, 0 ≤ r.1 ∧ r.1 ≤ r.2 ∧ r.2 ≤ 1114367 := by
 intro m
 induction m with
 | zero => intro _; exact ⟨by simp [twL], by simp [twL]⟩
 | succ m ih =>
  intro h
  obtain ⟨h1, h2⟩ := ih (by omega)
  unfold twL
  split
  ·refine ⟨by simp only [q3_, q5_, q7_]; omega, fun r hr => ?_⟩
   rcases Zbs.1 hr with hr | hr
   ·simp only [Z6c, Zvt, or_false] at hr
    rcases hr with rfl | rfl
    ·simp only []; omega
    ·simp only []; omega
   ·exact h2 r hr
  ·exact ⟨by simp only [Z9N]; omega, by simpa using h2⟩
theorem ZHG {l : List R2} (h : Z2x l) : ∀ r ∈ l ++ twL l 26, 0 ≤ r.1 ∧ r.1 ≤ r.2 ∧ r.2 ≤ 1114367 := by
 intro r hr
 rcases Zbs.1 hr with hr | hr
 ·exact Z5U h r hr
 ·exact (ZBZ l 26 (Z2H _)).2 r hr
theorem Zv3 {l : List R2} (h : Z2x l) : Z2x (Zjg l) := (Zf7 (ZHG h)).1
theorem anyR (l : List R2) (u : Int) : (l.map ofR).any (fun r => decide (r.Lo ≤ u) && decide (u ≤ r.Hi)) = l.any (fun r => decide (r.1 ≤ u) && decide (u ≤ r.2)) := by
 rw [List.any_map]
 rfl
theorem ZBe {l : List R2} (h : Z2x l) : ∀ (m : Nat) (acc : List R2), m ≤ 26 → acc.length + 2 * m ≤ 1000000 → (∀ r ∈ acc, 0 ≤ r.1 ∧ r.1 ≤ r.2 ∧ r.2 ≤ 1114367) →
  Z7V (l.map ofR) (acc.map ofR) (91 - (m : Int)) = some ((Z5v (acc ++ twL l m)).map ofR, 0) := by
 have hl := Zd3 h
 intro m
 induction m with
 | zero =>
  intro acc _ hb hr
  apply Zdw
  unfold Z7R Z9B
  rw [if_neg (Z21 (by omega)), Zi0 acc (by omega) hr]
  simp [twL]
 | succ m ih =>
  intro acc hm hb hr
  apply Zdw
  unfold Z7R Z9A
  have w : IntKind.i64.wrap (91 - ((m + 1 : Nat) : Int)) = 90 - (m : Int) := by rw [wrap_i64 (by omega) (by omega)]; omega
  have w2 : IntKind.i64.wrap (IntKind.i32.wrap (91 - ((m + 1 : Nat) : Int) + 32)) = 122 - (m : Int) := by rw [wrap_i32 (by omega) (by omega), wrap_i64 (by omega) (by omega)]; omega
  have w3 : IntKind.i32.wrap (91 - ((m + 1 : Nat) : Int) + 1) = 91 - (m : Int) := by rw [wrap_i32 (by omega) (by omega)]; omega
  rw [if_pos (Z2f (by omega)), ZrJ _ _ (by rw [Z8t]; omega), ZV, ZrJ _ _ (by rw [Z8t]; omega), ZV, anyR, anyR, w, w2]
  have go : Z6r (l.map ofR) (acc.map ofR) (91 - ((m + 1 : Nat) : Int)) = some ((Z5v ((acc ++ [(90 - (m : Int), 90 - (m : Int)), (122 - (m : Int), 122 - (m : Int))]) ++ twL l m)).map ofR, 0) := by
   unfold Z6r Z5h
   rw [w, w2, w3, ZnH _ _ (by simp only [Z8t, q5_, q7_]; omega), ZV]
   have := ih (acc ++ [(90 - (m : Int), 90 - (m : Int)), (122 - (m : Int), 122 - (m : Int))]) (by omega) (by simp only [q3_, q5_, q7_]; omega) (by
    intro r h
    rcases Zbs.1 h with h | h
    ·exact hr r h
    ·simp only [Z6c, Zvt, or_false] at h
     rcases h with rfl | rfl
     ·simp only []; omega
     ·simp only []; omega)
   rw [ZiL] at this
   exact this
  have no : Z5h (l.map ofR) (acc.map ofR) (91 - ((m + 1 : Nat) : Int)) = some ((Z5v (acc ++ twL l m)).map ofR, 0) := by
   unfold Z5h
   rw [w3]
   exact ih acc (by omega) (by omega) hr
  by_cases c1 : l.any (fun r => decide (r.1 ≤ 90 - (m : Int)) && decide (90 - (m : Int) ≤ r.2)) = true
  ·rw [if_pos c1, go, twL, if_pos (.inl c1), Z8s]
  by_cases c2 : l.any (fun r => decide (r.1 ≤ 122 - (m : Int)) && decide (122 - (m : Int) ≤ r.2)) = true
  ·rw [if_neg c1, if_pos c2, go, twL, if_pos (.inr c2), Z8s]
  ·rw [if_neg c1, if_neg c2, no, twL, if_neg (fun h => h.elim c1 c2), Z9N]
theorem ZCx {l : List R2} (h : Z2x l) : Z9o (l.map ofR) = some ((Zjg l).map ofR, 0) := by
 have hl := Zd3 h
 apply ZlR
 unfold Zbb Z9z
 rw [Zb0 h, ZV, if_neg (by simp), ZyV l (by omega), ZV]
 dsimp only
 rw [ZH1, ZV]
 exact ZBe h 26 l (Z2H _) (by omega) (Z5U h)
theorem ZH7 {l : List R2} (h : Z2x l) : Z9e (l.map ofR) [] = some (l.map ofR, 0) := by
 have hl := Zd3 h
 have n0 : Z2x [] := trivial
 apply Zhs
 unfold ZaJ
 rw [Zb0 h, ZV, if_neg (by simp), show ([] : List Z8) = ([] : List R2).map ofR from rfl, Zb0 n0, ZV, if_neg (by simp)]
 unfold Z8L
 rw [Zpb l [] (by simp only [q7_]; omega), ZV, ZiN, Zi0 l (by omega) (Z5U h), ZV, ZqH h]
theorem ZHb (fold : Bool) {l : List R2} (h : Z2x l) : Wr fold (setN l) ([⟨1, 0, 0, 0, 0, (if fold = true then Zjg l else l).map ofR⟩], 0) := by
 refine ⟨ZlC _, fun out lp hb hp => ?_⟩
 have go : ∀ s : List R2, Z2x s → Z3n (s.map ofR) out lp = some (out ++ [⟨1, 0, 0, 0, 0, s.map ofR⟩], lp) := by
  intro s hs
  unfold Z3n
  rw [ZH7 hs, ZV, Z8G _ _ (by simp at hb; omega), ZV]
 apply ZbS
 cases fold with
 | true =>
  show ((Z9o (l.map ofR)).bind fun r1 => Z3n r1.1 out lp) = _
  rw [ZCx h, ZV, go _ (Zv3 h)]
  simp [mvL, mv]
 | false =>
  show Z3n (l.map ofR) out lp = _
  rw [go _ h]
  simp [mvL, mv]
theorem Znm {g : List Zw → Int → Option (List Zw × Int)} {p : Cp} (hk : Lk p) (hg : ∀ (out : List Zw) (lp : Int), out.length + p.1.length ≤ 10000 → 0 ≤ lp ∧ lp ≤ out.length → g out lp = some (out ++ mvL out.length lp p.1, lp + p.2))
  (op a c e : Int) (h7 : op = 7 ∨ op = 8) (out : List Zw) (lp : Int) (hb : out.length + (Z7A op a c e p).1.length ≤ 10000) (hp : 0 ≤ lp ∧ lp ≤ out.length) :
  ((Z1k ⟨op, a, 0, c, e, []⟩ out).bind fun r1 =>
    (g r1.2 lp).bind fun r2 =>
    (Z1k ((Zw.mk 9 0 0 0 0 ([] : List Z8))) r2.1).bind fun r3 =>
    (lget r3.2 r1.1).bind fun a4 =>
    (lget r3.2 r1.1).bind fun a5 =>
    some ((lset r3.2 r1.1 (Zw.mk a5.Op a5.A (r3.2.length : Int) a5.C a5.D a5.Set)), r2.2)) = some (out ++ mvL out.length lp (Z7A op a c e p).1, lp + (Z7A op a c e p).2) := by
 unfold Lk at hk
 simp only [Z7A, q3_, q5_, Z1N, q7_] at hb
 have s2 := hg (out ++ [⟨op, a, 0, c, e, []⟩]) lp (by simp only [q3_, q5_, q7_]; omega) (by simp only [q3_, q5_, q7_]; omega)
 rw [show (((out ++ [(⟨op, a, 0, c, e, []⟩ : Zw)]).length : Nat) : Int) = out.length + 1 by simp] at s2
 simp only [Z8s, ZsB] at s2
 have s3 := Z8G dn (out ++ ⟨op, a, 0, c, e, []⟩ :: mvL (out.length + 1) lp p.1) (by simp only [q3_, q5_, Z1N]; omega)
 simp only [Z8s, Zb1] at s3
 have hT : (((out ++ (⟨op, a, 0, c, e, []⟩ : Zw) :: (mvL (out.length + 1) lp p.1 ++ [dn])).length : Nat) : Int) = (out.length : Int) + (p.1.length + 2) := by
  simp only [q3_, q5_, Z1N, q7_]; omega
 rw [Z8G _ _ (by omega), ZV]
 dsimp only
 rw [s2, ZV]
 dsimp only
 rw [show (Zw.mk 9 0 0 0 0 []) = dn from rfl, s3, ZV]
 dsimp only
 rw [hT, Zlj _ _ _ rfl, ZV, ZV, Zlm _ _ _ _ rfl]
 have hm : mv out.length lp ⟨op, a, (p.1.length : Int) + 2, c, e, []⟩ = ⟨op, a, out.length + (p.1.length + 2), c, e, []⟩ := by
  unfold mv
  dsimp only
  rw [if_neg (by omega), if_neg (by omega), if_pos h7]
  congr 1
  omega
 simp only [Z7A, Zcr, Z9P, Z9Q, ZHI, Zd2, hm]
 rw [show (1 : Int) + out.length = (out.length : Int) + 1 by omega, show (0 : Int) + lp = lp by omega]
theorem ZEe {fold : Bool} {n : Zk} {p : Cp} (h : Cd fold Zjg n p) : Wr fold n p := by
 have top : ∀ {n : Zk} {out : List Zw} {lp : Int} {r}, Z5a n out fold lp = some r → Z1R n out fold lp = some r := fun e => ZbS _ _ _ _ e
 have mem : ∀ {l : List Zk} {P : List Cp}, P.length = l.length → (∀ (i : Nat) (x : Zk) (p : Cp), l[i]? = some x → P[i]? = some p → Wr fold x p) → ∀ p ∈ P, Lk p := fun h1 h2 => ZqD (R := fun _ _ => True) h1 fun i x p a b => (h2 i x p a b).1
 induction h with
 | none =>
  refine ⟨Z2H _, fun out lp _ _ => top ?_⟩
  show some (out, lp) = _
  simp [Zd2]
 | set l hl => exact ZHb fold hl
 | cat l P hl hP _ ih =>
  refine ⟨ZkI (mem hP ih), fun out lp hb hp => top ?_⟩
  have := ZC6 hl hP ih l.length 0 out lp (by omega) hb hp
  exact this
 | alt l P y q _ hl hP _ _ ih ih2 =>
  refine ⟨ZDS (mem hP ih) ih2.1, fun out lp hb hp => top ?_⟩
  show ((Z6U (l ++ [y]) out fold lp).bind fun r2 => some (r2.1, r2.2)) = _
  rw [ZDc hl hP ih ih2 out lp hb hp]
  rfl
 | rep lo hi m x p h1 h2 hm _ ih =>
  refine ⟨ZrT ih.1, fun out lp hb hp => top ?_⟩
  have e : Z5a ⟨4, lo, hi, m, 0, [], [x]⟩ out fold lp = (if ((m == 2)) = true then
   ((Z4E ((Zw.mk 8 0 0 0 0 ([] : List Z8))) out fold lp ⟨4, lo, hi, m, 0, [], [x]⟩).bind fun r3 => some (r3.1, r3.2))
   else ((Z4B ⟨4, lo, hi, m, 0, [], [x]⟩ out fold lp).bind fun r4 => some (r4.1, r4.2))) := rfl
  rw [e, if_neg (Z2b hm), ZvU (n := ⟨4, lo, hi, m, 0, [], [x]⟩) rfl ih lo hi h1 h2 rfl rfl out lp hb hp]
  rfl
 | repA lo hi x p h1 h2 _ ih =>
  refine ⟨Zp3 (ZrT ih.1), fun out lp hb hp => top ?_⟩
  show ((Z4E ((Zw.mk 8 0 0 0 0 ([] : List Z8))) out fold lp ⟨4, lo, hi, 2, 0, [], [x]⟩).bind fun r3 => some (r3.1, r3.2)) = _
  have hw : Z4E ((Zw.mk 8 0 0 0 0 ([] : List Z8))) out fold lp ⟨4, lo, hi, 2, 0, [], [x]⟩ = some (out ++ mvL out.length lp (Z7A 8 0 0 0 (repC lo hi false p)).1, lp + (Z7A 8 0 0 0 (repC lo hi false p)).2) := by
   apply ZgR
   unfold Z7n
   refine Znm (g := fun o l => Z7v ⟨4, lo, hi, 2, 0, [], [x]⟩ o fold l) (ZrT ih.1) (fun o l hb hp => ?_) 8 0 0 0 (.inr rfl) out lp hb hp
   apply ZgJ
   unfold Z7j
   rw [ZvU (n := ⟨4, lo, hi, 2, 0, [], [x]⟩) rfl ih lo hi h1 h2 rfl rfl o l hb hp]
   rfl
  rw [hw]
  rfl
 | group r x p hr _ ih =>
  obtain ⟨k1, k2⟩ := ih
  have k1' := k1
  unfold Lk at k1'
  refine ⟨by unfold Lk at *; simp only [q3_, q5_, Z1N]; omega, fun out lp hb hp => top ?_⟩
  simp only [q3_, q5_, Z1N, q7_] at hb
  show ((Z1k ((Zw.mk 4 (IntKind.i64.wrap (2 * r)) 0 0 0 ([] : List Z8))) out).bind fun r5 =>
   (lget [x] 0).bind fun a6 => (Z1R a6 r5.2 fold lp).bind fun r7 =>
   (Z1k ((Zw.mk 4 (IntKind.i64.wrap ((IntKind.i64.wrap (2 * r)) + 1)) 0 0 0 ([] : List Z8))) r7.1).bind fun r8 => some (r8.2, r7.2)) = _
  rw [wrap_i64 (n := 2 * r) (by omega) (by omega), wrap_i64 (n := 2 * r + 1) (by omega) (by omega), show (Zw.mk 4 (2 * r) 0 0 0 []) = sv (2 * r) from rfl, show (Zw.mk 4 (2 * r + 1) 0 0 0 []) = sv (2 * r + 1) from rfl, Z8G _ _ (by omega), ZV, show lget [x] 0 = some x from rfl, ZV]
  dsimp only
  rw [Zic (o := out ++ [sv (2 * r)]) k2 (a := (out.length : Int) + 1) (lp := lp) (by simp) (by simp only [q3_, q5_, q7_]; omega) (by omega), ZV]
  dsimp only
  rw [Z8G _ _ (by simp only [q3_, q5_, Z1N, q7_]; omega), ZV]
  simp only [Zcr, Z9P, Z9Q, ZHM, Zd2, Z8s, Zb1, Z9N]
  rw [show (1 : Int) + out.length = (out.length : Int) + 1 by omega, show (0 : Int) + lp = lp by omega]
 | back r hr =>
  refine ⟨ZlC _, fun out lp hb hp => top ?_⟩
  simp only [q5_, q7_] at hb
  have go : ∀ b, Z3d out lp 5 r b 0 0 [] = some (out ++ [⟨5, r, b, 0, 0, []⟩], lp) := by
   intro b
   unfold Z3d
   rw [Z8G _ _ (by omega)]
   rfl
  cases fold with
  | true =>
   show Z3d out lp 5 r 1 0 0 [] = _
   rw [go]
   simp [mvL, mv]
  | false =>
   show Z3d out lp 5 r 0 0 0 [] = _
   rw [go]
   simp [mvL, mv]
 | look m x p v hm hv _ ih =>
  refine ⟨Zp3 ih.1, fun out lp hb hp => top ?_⟩
  have hw : ∀ c e, out.length + (Z7A 7 m c e p).1.length ≤ 10000 → Z3e out fold lp ⟨7, 0, 0, m, 0, [], [x]⟩ 7 m 0 c e [] = some (out ++ mvL out.length lp (Z7A 7 m c e p).1, lp + (Z7A 7 m c e p).2) := by
   intro c e hb
   have q : Z7y ⟨7, m, 0, c, e, []⟩ out fold lp ⟨7, 0, 0, m, 0, [], [x]⟩ = some (out ++ mvL out.length lp (Z7A 7 m c e p).1, lp + (Z7A 7 m c e p).2) := by
    apply ZgV
    unfold Z7p
    refine Znm (g := fun o l => Z7w ⟨7, 0, 0, m, 0, [], [x]⟩ o fold l) ih.1 (fun o l hb hp => ?_) 7 m c e (.inl rfl) out lp hb hp
    apply ZgL
    unfold Z7k
    rw [show lget [x] 0 = some x from rfl, ZV, ih.2 o l hb hp]
    rfl
   unfold Z3e
   rw [q]
   rfl
  have e : Z5a ⟨7, 0, 0, m, 0, [], [x]⟩ out fold lp = (if ((decide (2 ≤ m))) = true then
    ((lget [x] 0).bind fun a9 => (Z3f a9).bind fun r10 =>
    Z3e out fold lp ⟨7, 0, 0, m, 0, [], [x]⟩ 7 m 0 r10.1 r10.2 (([] : List Z8)))
    else (Z3e out fold lp ⟨7, 0, 0, m, 0, [], [x]⟩ 7 m 0 0 0 (([] : List Z8)))) := rfl
  rw [e]
  by_cases h2 : 2 ≤ m
  ·rw [if_pos (Z2f h2), show lget [x] 0 = some x from rfl, ZV, Zsj hv, ZV]
   simp only [h2, if_true] at hb ⊢
   exact hw _ _ hb
  ·rw [if_neg (Z21 h2)]
   simp only [h2, if_false] at hb ⊢
   exact hw _ _ hb
 | atomic x p _ ih =>
  refine ⟨Zp3 ih.1, fun out lp hb hp => top ?_⟩
  show ((Z5Q ((Zw.mk 8 0 0 0 0 ([] : List Z8))) out fold lp ⟨8, 0, 0, 0, 0, [], [x]⟩).bind fun r3 => some (r3.1, r3.2)) = _
  have hw : Z5Q ((Zw.mk 8 0 0 0 0 ([] : List Z8))) out fold lp ⟨8, 0, 0, 0, 0, [], [x]⟩ = some (out ++ mvL out.length lp (Z7A 8 0 0 0 p).1, lp + (Z7A 8 0 0 0 p).2) := by
   apply ZgT
   unfold Z7o
   refine Znm (g := fun o l => Z7x ⟨8, 0, 0, 0, 0, [], [x]⟩ o fold l) ih.1 (fun o l hb hp => ?_) 8 0 0 0 (.inr rfl) out lp hb hp
   apply ZgN
   unfold Z7l
   rw [show lget [x] 0 = some x from rfl, ZV, ih.2 o l hb hp]
   rfl
  rw [hw]
  rfl
 | edge k hk =>
  refine ⟨ZlC _, fun out lp hb hp => top ?_⟩
  simp only [q5_, q7_] at hb
  show ((Z1k ((Zw.mk 6 k 0 0 0 ([] : List Z8))) out).bind fun r12 => some (r12.2, lp)) = _
  rw [Z8G _ _ (by omega)]
  simp [mvL, mv]
end Go.Proofs.YtocikhhkicahoaaDoor.N2
end
