/- Sizes of programs; what holds of their instructions. No condition. -/
import Derived.Test.YtocikhhkicahoaaDoorCodeA
import Derived.Test.YtocikhhkicahoaaDoorPlainC

set_option linter.unusedSimpArgs false
set_option linter.unusedVariables false
set_option linter.defProp false
section
namespace Go.Proofs.YtocikhhkicahoaaDoor.N2
open Go Go.Abs Go.Proofs.Unis Go.Proofs.Norm
set_option maxRecDepth 100000
theorem ZH6 (z : Bool) (p : Cp) : ∀ (m : Nat) (e : Int), (optC z p e m).1.length = m * (p.1.length + 1) := by
 intro m
 induction m with
 | zero => intro e; simp [optC]
 | succ m ih =>
  intro e
  simp only [optC, q3_, q5_, Z1N, ih, Zao]
  omega
def mt : Zw := ⟨0, 0, 0, 0, 0, []⟩
def whole (p : Cp) : List Zw := sv 0 :: (mvL 1 0 p.1 ++ [sv 1, mt])
theorem ZkU {n : Zk} {v : Sh} {p : Cp} {f : Bool} (hv : Shp n v) (h : chkF v = 0) (hp : Cd f Zjg n p) (hs : v.sz = min (p.1.length : Int) 1048576) (g : Int) : p.1.length ≤ 1997 ∧ ZaW ⟨n, g, f⟩ = some (whole p, 0) := by
 have hb : p.1.length ≤ 1997 := by
  unfold chkF at h
  split at h
  ·simp at h
  split at h
  ·simp at h
  ·omega
 refine ⟨hb, ?_⟩
 obtain ⟨_, k2⟩ := ZEe hp
 apply ZnX
 unfold ZcI
 rw [ZyT hv, ZV, h, if_neg (by simp)]
 unfold Zaz
 rw [show (Zw.mk 4 0 0 0 0 []) = sv 0 from rfl, show (Zw.mk 4 1 0 0 0 []) = sv 1 from rfl, show (Zw.mk 0 0 0 0 0 []) = mt from rfl, Z8G _ _ (by simp), ZV]
 dsimp only
 rw [Zic (o := [] ++ [sv 0]) k2 (a := 1) (lp := 0) (by simp) (by simp; omega) (by omega), ZV]
 dsimp only
 rw [Z8G _ _ (by simp [Z1N]; omega), ZV]
 dsimp only
 rw [Z8G _ _ (by simp [Z1N]; omega), ZV]
 simp [whole]
theorem ZrL {x : ByteArray} (h : (ZdJ x).2.Code = 0) {l : List Zw} {e : Int} (hc : ZaW (ZdJ x).1 = some (l, e)) : Z3r x = some (l, 0, e) := by
 apply Zj1
 unfold Z90 Z7M
 rw [ZBL, ZV, if_neg (by simpa using h), hc]
 rfl
def marks (l : List Zw) : Nat := l.countP (fun i => i.Op == 10)
theorem Zyp (l : List Zw) (hl : l.length ≤ 1000000) : ∀ (m i : Nat) (c : Int), i + m = l.length → 0 ≤ c ∧ c ≤ i → Za9 c l (l.length : Int) (i : Int) = some (c + marks (l.drop i)) := by
 intro m
 induction m with
 | zero =>
  intro i c h hc
  apply ZgH
  unfold Za2 ZbK
  rw [if_neg (Z21 (by omega)), Zeb (by omega)]
  simp [marks]
 | succ m ih =>
  intro i c h hc
  have hil : i < l.length := by omega
  apply ZgH
  unfold Za2 ZbJ Za3
  rw [if_pos (Z2f (by omega)), Z4i, q4_ hil, ZV, wrap_i64 (n := c + 1) (by omega) (by omega), wrap_i64 (n := (i : Int) + 1) (by omega) (by omega), Zfa hil]
  have e1 := ih (i + 1) (c + 1) (by omega) (by omega)
  have e2 := ih (i + 1) c (by omega) (by omega)
  have hm : marks (l[i] :: l.drop (i + 1)) = marks (l.drop (i + 1)) + if l[i].Op = 10 then 1 else 0 := by
   simp only [marks, List.countP_cons]
   simp
  rw [hm]
  by_cases ho : l[i].Op = 10
  ·rw [if_pos (Z2i ho), if_pos ho]
   refine e1.trans ?_
   congr 1
   omega
  ·rw [if_neg (Z2b ho), if_neg ho]
   refine e2.trans ?_
   congr 1
theorem ZBk (l : List Zw) (hl : l.length ≤ 1000000) : ZeT l = some (marks l : Int) := by
 apply Zqn
 unfold ZeN
 have := Zyp l hl l.length 0 0 (by omega) (by omega)
 rw [ZoV] at this
 refine this.trans ?_
 simp
theorem Zx1 : Z8e = some true := by
 have e1 : (ZdJ (ByteArray.mk #[97, 124, 98])) = (⟨⟨3, 0, 0, 0, 0, [], [setN [(97, 97)]] ++ [setN [(98, 98)]]⟩, 0, false⟩, ⟨0, 0⟩) := by rfl
 have e2 : (ZdJ (ByteArray.mk #[97, 42])) = (⟨⟨4, 0, -1, 0, 0, [], [setN [(97, 97)]]⟩, 0, false⟩, ⟨0, 0⟩) := by rfl
 have nn : ∀ u : Int, 0 ≤ u → u ≤ 1000 → Z2x [(u, u)] := fun u h1 h2 => ZqI ⟨h1, ZiM _, by simp only []; omega⟩
 have c1 : Cd false Zjg ⟨3, 0, 0, 0, 0, [], [setN [(97, 97)]] ++ [setN [(98, 98)]]⟩ _ := Cd.alt [setN [(97, 97)]] [([⟨1, 0, 0, 0, 0, [(97, 97)].map ofR⟩], 0)] (setN [(98, 98)]) _ (by simp) (by simp) rfl
  (by
   intro i x p hx hp
   cases i with
   | zero => simp at hx hp; subst hx hp; exact Cd.set [(97, 97)] (nn 97 (by omega) (by omega))
   | succ i => simp at hx) (Cd.set [(98, 98)] (nn 98 (by omega) (by omega)))
 have c2 : Cd false Zjg ⟨4, 0, -1, 0, 0, [], [setN [(97, 97)]]⟩ _ := Cd.rep 0 (-1) 0 _ _ (by omega) (.inl rfl) (by omega) (Cd.set [(97, 97)] (nn 97 (by omega) (by omega)))
 have v1 := ZDU (Shp.set [(97, 97)]) (Shp.set [(98, 98)])
 have v2 := Shp.rep 0 (-1) 0 _ _ (by omega) (by omega) (Shp.set [(97, 97)])
 have m1 : Z3r (ByteArray.mk #[97, 124, 98]) = some (_, 0, 0) := ZrL (by rw [e1]) (by rw [e1]; exact (ZkU v1 (by decide) c1 (by decide) 0).2)
 have m2 : Z3r (ByteArray.mk #[97, 42]) = some (_, 0, 0) := ZrL (by rw [e2]) (by rw [e2]; exact (ZkU v2 (by decide) c2 (by decide) 0).2)
 apply ZhE
 unfold Z87 Z31
 rw [m1, ZV, m2, ZV]
 rw [if_neg (by decide), if_neg (by decide), if_neg (by decide), if_neg (by decide), if_neg (by decide), if_neg (by decide)]
 unfold Z6W
 rw [ZBk _ (by decide)]
 rfl
end Go.Proofs.YtocikhhkicahoaaDoor.N2
end
section
namespace Go.Proofs.YtocikhhkicahoaaDoor.N2
open Go Go.Abs Go.Proofs.Unis Go.Proofs.Norm
set_option maxRecDepth 100000
structure Mo (φ : Zw → Zw) : Prop where
 mv : ∀ a l i, φ (mv a l i) = N2.mv a l (φ i)
 sp : ∀ a b, φ (sp a b) = N2.sp a b
 jp : ∀ a, φ (jp a) = N2.jp a
 mq : ∀ a, φ (mk a) = N2.mk a
 gd : ∀ a, φ (gd a) = N2.gd a
 dn : φ dn = N2.dn
 wi : ∀ op a b c e, op = 7 ∨ op = 8 → φ ⟨op, a, b, c, e, []⟩ = ⟨op, a, b, c, e, []⟩
def mapP (φ : Zw → Zw) (p : Cp) : Cp := (p.1.map φ, p.2)
theorem Zea (φ : Zw → Zw) (p : Cp) : (mapP φ p).1.length = p.1.length := by simp [mapP]
section
variable {φ : Zw → Zw} (h : Mo φ)
include h
theorem Mo.mvL (a l : Int) (c : List Zw) : (mvL a l c).map φ = N2.mvL a l (c.map φ) := by
 simp only [N2.mvL, ZlB]
 exact Zn1 fun i _ => h.mv a l i
theorem Mo.spz (z : Bool) (a b : Int) : φ (spz z a b) = N2.spz z a b := by cases z <;> exact h.sp _ _
theorem Mo.seq (P : List Cp) : mapP φ (seqC P) = seqC (P.map (mapP φ)) := by
 induction P with
 | nil => rfl
 | cons d P ih =>
  rw [Z9x, seqC, seqC, ← ih]
  simp only [mapP, ZiL, h.mvL, Z8t]
theorem Mo.pre (P : List Cp) : ∀ e, mapP φ (preC e P) = preC e (P.map (mapP φ)) := by
 induction P with
 | nil => intro e; rfl
 | cons d P ih =>
  intro e
  rw [Z9x, preC, preC, Zea, ← ih]
  simp only [mapP, ZiL, Z9x, h.mvL, h.sp, h.jp]
theorem Mo.alt (P : List Cp) (d : Cp) : mapP φ (altC P d) = altC (P.map (mapP φ)) (mapP φ d) := by
 unfold altC
 rw [← h.pre, ← h.pre, Zea, Zea]
 simp only [mapP, ZiL, h.mvL]
theorem Mo.opt (z : Bool) (d : Cp) : ∀ (m : Nat) (e : Int), mapP φ (optC z d e m) = optC z (mapP φ d) e m := by
 intro m
 induction m with
 | zero => intro e; rfl
 | succ m ih =>
  intro e
  rw [optC, optC, Zea, ← ih]
  simp only [mapP, ZiL, Z9x, h.mvL, h.spz]
theorem Mo.loop (z : Bool) (d : Cp) : mapP φ (ZbT z d) = ZbT z (mapP φ d) := by
 unfold ZbT
 rw [Zea]
 simp only [mapP, ZiL, Z9x, Zfc, h.mvL, h.spz, h.mq, h.gd, h.jp]
theorem Mo.rep (lo hi : Int) (z : Bool) (d : Cp) : mapP φ (repC lo hi z d) = repC lo hi z (mapP φ d) := by
 unfold repC
 rw [h.seq, Z9x, Z9x, Zfc, h.seq, List.map_replicate]
 by_cases hh : hi < 0
 ·simp only [hh, if_true, h.loop]
 ·simp only [hh, if_false, h.opt, ZH6, Zea]
theorem Mo.wit (op a c e : Int) (d : Cp) (ho : op = 7 ∨ op = 8) : mapP φ (Z7A op a c e d) = Z7A op a c e (mapP φ d) := by
 unfold Z7A
 rw [Zea]
 simp only [mapP, ZiL, Z9x, Zfc, h.mvL, h.dn, h.wi _ _ _ _ _ ho]
end
end Go.Proofs.YtocikhhkicahoaaDoor.N2
end
section
namespace Go.Proofs.YtocikhhkicahoaaDoor.N2
open Go Go.Abs Go.Proofs.Unis Go.Proofs.Norm
set_option maxRecDepth 100000
structure Al (Ψ : Zw → Prop) : Prop where
 mv : ∀ a l i, Ψ i → Ψ (mv a l i)
 sp : ∀ a b, Ψ (sp a b)
 jp : ∀ a, Ψ (jp a)
 mq : ∀ a, Ψ (mk a)
 gd : ∀ a, Ψ (gd a)
 dn : Ψ dn
 wi : ∀ op a b c e, op = 7 ∨ op = 8 → Ψ ⟨op, a, b, c, e, []⟩
section
variable {Ψ : Zw → Prop} (h : Al Ψ)
include h
theorem Al.mvL {a l : Int} {c : List Zw} (hc : ∀ i ∈ c, Ψ i) : ∀ i ∈ mvL a l c, Ψ i := by
 intro i hi
 obtain ⟨j, hj, rfl⟩ := Z6C.1 hi
 exact h.mv _ _ _ (hc j hj)
theorem Al.spz (z : Bool) (a b : Int) : Ψ (spz z a b) := by cases z <;> exact h.sp _ _
omit h in
theorem ZjT {c d : List Zw} (hc : ∀ i ∈ c, Ψ i) (hd : ∀ i ∈ d, Ψ i) : ∀ i ∈ c ++ d, Ψ i := fun i hi => (Zbs.1 hi).elim (hc i) (hd i)
omit h in
theorem all_cons {x : Zw} {d : List Zw} (hc : Ψ x) (hd : ∀ i ∈ d, Ψ i) : ∀ i ∈ x :: d, Ψ i := fun i hi => (Z6c.1 hi).elim (fun e => e ▸ hc) (hd i)
omit h in
theorem all_nil : ∀ i ∈ ([] : List Zw), Ψ i := by simp
theorem Al.seq {P : List Cp} (hP : ∀ p ∈ P, ∀ i ∈ p.1, Ψ i) : ∀ i ∈ (seqC P).1, Ψ i := by
 induction P with
 | nil => exact all_nil
 | cons d P ih => exact ZjT (hP d (Zcu ..)) (h.mvL (ih fun p hp => hP p (Zdn _ hp)))
theorem Al.pre {P : List Cp} (hP : ∀ p ∈ P, ∀ i ∈ p.1, Ψ i) : ∀ e, ∀ i ∈ (preC e P).1, Ψ i := by
 induction P with
 | nil => intro e; exact all_nil
 | cons d P ih =>
  intro e
  exact all_cons (h.sp _ _) (ZjT (h.mvL (hP d (Zcu ..))) (all_cons (h.jp _) (h.mvL (ih (fun p hp => hP p (Zdn _ hp)) _))))
theorem Al.opt {z : Bool} {d : Cp} (hd : ∀ i ∈ d.1, Ψ i) : ∀ (m : Nat) (e : Int), ∀ i ∈ (optC z d e m).1, Ψ i := by
 intro m
 induction m with
 | zero => intro e; exact all_nil
 | succ m ih => intro e; exact all_cons (h.spz _ _ _) (ZjT (h.mvL hd) (h.mvL (ih _)))
theorem Al.rep {lo hi : Int} {z : Bool} {d : Cp} (hd : ∀ i ∈ d.1, Ψ i) : ∀ i ∈ (repC lo hi z d).1, Ψ i := by
 unfold repC
 apply h.seq
 intro p hp
 simp only [Z6c, Zvt, or_false] at hp
 rcases hp with rfl | rfl
 ·exact h.seq fun q hq => by rw [ZCZ hq]; exact hd
 ·split
  ·exact all_cons (h.spz _ _ _) (all_cons (h.mq _) (ZjT (h.mvL hd) (all_cons (h.gd _) (all_cons (h.jp _) (all_nil)))))
  ·exact h.opt hd _ _
theorem Al.wit {op a c e : Int} {d : Cp} (ho : op = 7 ∨ op = 8) (hd : ∀ i ∈ d.1, Ψ i) : ∀ i ∈ (Z7A op a c e d).1, Ψ i :=
 all_cons (h.wi _ _ _ _ _ ho) (ZjT (h.mvL hd) (all_cons h.dn (all_nil)))
end
theorem ZBR (s : List Z8) (hl : s.length ≤ 1000000) : ∀ (m i : Nat), i + m = s.length → Z5s s s (s.length : Int) (i : Int) = some true := by
 intro m
 induction m with
 | zero =>
  intro i h
  apply ZaP
  unfold Z5k
  rw [if_neg (Z21 (by omega))]
  rfl
 | succ m ih =>
  intro i h
  have hil : i < s.length := by omega
  apply ZaP
  unfold Z5k Z6Y Z6Z
  rw [if_pos (Z2f (by omega)), Z4i, q4_ hil, ZV, ZV, if_neg (by simp), wrap_i64 (n := (i : Int) + 1) (by omega) (by omega)]
  exact ih (i + 1) (by omega)
theorem ZvI (s : List Z8) (hl : s.length ≤ 1000000) : Z6u s s = some true := by
 apply ZhG
 unfold Z88 Z6X
 rw [if_neg (by simp)]
 exact ZBR s hl s.length 0 (by omega)
end Go.Proofs.YtocikhhkicahoaaDoor.N2
end
section
namespace Go.Proofs.YtocikhhkicahoaaDoor.N2
open Go Go.Abs Go.Proofs.Unis Go.Proofs.Norm
set_option maxRecDepth 100000
def er (i : Zw) : Zw := if i.Op = 4 then ⟨i.Op, 0, i.B, i.C, i.D, i.Set⟩ else i
def Loc (N : Int) (c : List Zw) (i : Nat) (x : Zw) : Prop :=
 x.Op ≠ 0 ∧ (x.Op = 2 → 0 ≤ x.A ∧ x.A ≤ N) ∧ (x.Op = 3 → (i : Int) < x.A ∧ (i : Int) < x.B ∧ x.A ≤ N ∧ x.B ≤ N ∧ min x.A x.B = (i : Int) + 1) ∧
 (x.Op = 7 ∨ x.Op = 8 → (i : Int) + 1 < x.B ∧ x.B ≤ N ∧ ∃ j y, x.B = (j : Nat) + 1 ∧ c[j]? = some y ∧ y.Op = 9) ∧
 (x.Op = 10 → x.A = marks (c.take i)) ∧
 (x.Op = 11 → 0 ≤ x.A ∧ x.A < marks (c.take i) ∧ ∃ y j z, c[i + 1]? = some y ∧ y.Op = 2 ∧ y.A = (j : Nat) ∧ c[j]? = some z ∧ z.Op = 3)
def Seg (N : Int) (L : List Zw) (k : Nat) (s : List Zw) : Prop := ∀ (i : Nat) x, s[i]? = some x → Loc N L (k + i) x
theorem Seg.nil {N : Int} {L : List Zw} {k : Nat} : Seg N L k [] := by intro i x h; simp at h
theorem Seg.cons {N : Int} {L : List Zw} {k : Nat} {x : Zw} {s : List Zw} (h : Loc N L k x) (hs : Seg N L (k + 1) s) : Seg N L k (x :: s) := by
 intro i y hy
 cases i with
 | zero => simp at hy; subst hy; exact h
 | succ i =>
  have := hs i y (by simpa using hy)
  rwa [show k + 1 + i = k + (i + 1) by omega] at this
theorem Seg.app {N : Int} {L : List Zw} {k : Nat} {s t : List Zw} (h : Seg N L k s) (ht : Seg N L (k + s.length) t) : Seg N L k (s ++ t) := by
 intro i y hy
 by_cases hi : i < s.length
 ·rw [Zvp hi] at hy
  exact h i y hy
 ·rw [ZoP (by omega)] at hy
  have := ht _ y hy
  rwa [show k + s.length + (i - s.length) = k + i by omega] at this
theorem Loc.mono {N M : Int} {c : List Zw} {i : Nat} {x : Zw} (h : Loc N c i x) (hN : N ≤ M) : Loc M c i x := by
 obtain ⟨h0, h2, h3, h7, h10, h11⟩ := h
 refine ⟨h0, fun e => ?_, fun e => ?_, fun e => ?_, h10, h11⟩
 ·have := h2 e; omega
 ·have := h3 e; omega
 ·obtain ⟨a, b, d⟩ := h7 e
  exact ⟨a, by omega, d⟩
end Go.Proofs.YtocikhhkicahoaaDoor.N2
end
