/- Sizes of programs; what holds of their instructions. No condition. -/
import Derived.Test.YtocikhhkicahoaaDoorCodeA
import Derived.Test.YtocikhhkicahoaaDoorPlainC

set_option linter.unusedSimpArgs false
set_option linter.unusedVariables false
set_option linter.defProp false
section
namespace Go.Proofs.YtocikhhkicahoaaDoor.N2
open Go Go.Abs Go.Proofs.Unis Go.Proofs.Norm
set_option maxRecDepth 100000
theorem Zwr {α β γ : Type} {R : α → β → γ → Prop} : ∀ (l : List α) (P : List β), P.length = l.length → (∀ (i : Nat) x p, l[i]? = some x → P[i]? = some p → ∃ v, R x p v) → ∃ V : List γ, V.length = l.length ∧ ∀ (i : Nat) x p v, l[i]? = some x → P[i]? = some p → V[i]? = some v → R x p v
 | [], _, _, _ => ⟨[], rfl, by simp⟩
 | x :: l, [], h, _ => by simp at h
 | x :: l, p :: P, h, hR => by
  obtain ⟨v, hv⟩ := hR 0 x p rfl rfl
  obtain ⟨V, h1, h2⟩ := Zwr l P (by simpa using h) fun i y q hy hq => hR (i + 1) y q (by simpa using hy) (by simpa using hq)
  refine ⟨v :: V, by simp [h1], fun i y q u hy hq hu => ?_⟩
  cases i with
  | zero => simp at hy hq hu; subst hy hq hu; exact hv
  | succ i => exact h2 i y q u (by simpa using hy) (by simpa using hq) (by simpa using hu)
theorem Zz0 : ∀ (P : List Cp) (V : List Sh) (c : Sh) (k : Nat), V.length = P.length → (∀ (i : Nat) p v, P[i]? = some p → V[i]? = some v → v.sz = min (p.1.length : Int) 1048576) → c.sz = min (k : Int) 1048576 → (V.foldl catS c).sz = min ((k : Int) + (seqC P).1.length) 1048576
 | [], [], c, k, _, _, hc => by simp [seqC, hc]
 | [], _ :: _, _, _, h, _, _ => by simp at h
 | _ :: _, [], _, _, h, _, _ => by simp at h
 | p :: P, v :: V, c, k, h, hR, hc => by
  have h0 := hR 0 p v rfl rfl
  rw [Zdz, Zz0 P V (catS c v) (k + p.1.length) (by simpa using h) (fun i q u hq hu => hR (i + 1) q u (by simpa using hq) (by simpa using hu)) (by show min (c.sz + v.sz) 1048576 = _; omega)]
  simp only [seqC, q3_, Z1p]
  omega
theorem ZyS : ∀ (P : List Cp) (V : List Sh) (c : Sh) (k : Nat), V.length = P.length → (∀ (i : Nat) p v, P[i]? = some p → V[i]? = some v → v.sz = min (p.1.length : Int) 1048576) → c.sz = min (k : Int) 1048576 → (V.foldl altS c).sz = min ((k : Int) + (seqC P).1.length) 1048576
 | [], [], c, k, _, _, hc => by simp [seqC, hc]
 | [], _ :: _, _, _, h, _, _ => by simp at h
 | _ :: _, [], _, _, h, _, _ => by simp at h
 | p :: P, v :: V, c, k, h, hR, hc => by
  have h0 := hR 0 p v rfl rfl
  rw [Zdz, ZyS P V (altS c v) (k + p.1.length) (by simpa using h) (fun i q u hq hu => hR (i + 1) q u (by simpa using hq) (by simpa using hu)) (by show min (c.sz + v.sz) 1048576 = _; omega)]
  simp only [seqC, q3_, Z1p]
  omega
theorem ZH0 (P : List Cp) : ∀ e, (preC e P).1.length = (seqC P).1.length + 2 * P.length := by
 induction P with
 | nil => intro e; rfl
 | cons p P ih =>
  intro e
  have := ih (e - (p.1.length + 2))
  simp only [preC, seqC, q3_, q5_, Z1p, this]
  omega
theorem ZH4 (p : Cp) : ∀ m : Nat, (seqC (List.replicate m p)).1.length = m * p.1.length := by
 intro m
 induction m with
 | zero => simp [seqC]
 | succ m ih =>
  rw [List.replicate_succ, seqC]
  simp only [q3_, Z1p, ih, Z9R]
  omega
theorem ZBR (z : Bool) (p : Cp) : ∀ (m : Nat) (e : Int), (optC z p e m).1.length = m * (p.1.length + 1) := by
 intro m
 induction m with
 | zero => intro e; simp [optC]
 | succ m ih =>
  intro e
  simp only [optC, q3_, q5_, Z1p, ih, Z9R]
  omega
theorem ZwQ {lo hi : Int} {z : Bool} {p : Cp} (h1 : 0 ≤ lo ∧ lo ≤ 64) (h2 : hi = -1 ∨ (lo ≤ hi ∧ hi ≤ 64)) :
  ((repC lo hi z p).1.length : Int) = lo * p.1.length + (if hi < 0 then (p.1.length : Int) + 4 else (hi - lo) * (p.1.length + 1)) := by
 have hlo : ((lo.toNat * p.1.length : Nat) : Int) = lo * p.1.length := by rw [Int.natCast_mul, Int.toNat_of_nonneg h1.1]
 unfold repC
 rw [ZwU]
 simp only [q3_, Z1p, ZH4]
 by_cases hh : hi < 0
 ·simp only [hh, if_true, Z7u, q3_, q5_, q9_, Z1p]
  omega
 ·have hq : (((hi - lo).toNat * (p.1.length + 1) : Nat) : Int) = (hi - lo) * (p.1.length + 1) := by rw [Int.natCast_mul, Int.toNat_of_nonneg (by omega)]; rfl
  simp only [hh, if_false, ZBR]
  omega
theorem ZwR {lo hi m s : Int} {k : Nat} (h1 : 0 ≤ lo ∧ lo ≤ 64) (h2 : hi = -1 ∨ (lo ≤ hi ∧ hi ≤ 64)) (hs : s = min (k : Int) 1048576) :
  repZ lo hi m s = min (lo * k + (if hi < 0 then (k : Int) + 4 else (hi - lo) * (k + 1)) + (if m = 2 then 2 else 0)) 1048576 := by
 unfold repZ
 by_cases hk : (k : Int) ≤ 1048576
 ·rw [show s = (k : Int) by omega]
 ·have hs' : s = 1048576 := by omega
  subst hs'
  have hm : (0 : Int) ≤ if m = 2 then 2 else 0 := by split <;> omega
  generalize (if m = 2 then (2 : Int) else 0) = t at *
  by_cases hlo : 1 ≤ lo
  ·have a1 := Int.mul_le_mul hlo (ZcB (1048576 : Int)) (by omega) (by omega)
   have a2 := Int.mul_le_mul hlo (show (1048576 : Int) ≤ k by omega) (by omega) (by omega)
   by_cases hh : hi < 0
   ·simp only [hh, if_true]; omega
   ·have b1 := Int.mul_nonneg (show 0 ≤ hi - lo by omega) (show (0 : Int) ≤ 1048576 + 1 by omega)
    have b2 := Int.mul_nonneg (show 0 ≤ hi - lo by omega) (show (0 : Int) ≤ (k : Int) + 1 by omega)
    simp only [hh, if_false]; omega
  ·obtain rfl : lo = 0 := by omega
   by_cases hh : hi < 0
   ·simp only [hh, if_true]; omega
   ·simp only [hh, if_false]
    by_cases h0 : hi = 0
    ·subst h0; simp
    ·have b1 := Int.mul_le_mul (show 1 ≤ hi - 0 by omega) (ZcB (1048576 + 1 : Int)) (by omega) (by omega)
     have b2 := Int.mul_le_mul (show 1 ≤ hi - 0 by omega) (show (1048576 + 1 : Int) ≤ (k : Int) + 1 by omega) (by omega) (by omega)
     omega
theorem Zwk (P : List Cp) (q : Cp) : (seqC (P ++ [q])).1.length = (seqC P).1.length + q.1.length := by
 induction P with
 | nil => simp [seqC, ZbF]
 | cons d P ih => simp only [ZcA, seqC, q3_, Z1p, ih]; omega
theorem ZHc {fold : Bool} {ff : List R2 → List R2} {n : Z9} {p : Cp} (h : Cd fold ff n p) : ∃ v, Shp n v ∧ v.sz = min (p.1.length : Int) 1048576 := by
 have kids : ∀ {l : List Z9} {P : List Cp}, P.length = l.length → (∀ (i : Nat) (x : Z9) (p : Cp), l[i]? = some x → P[i]? = some p → ∃ v, Shp x v ∧ v.sz = min (p.1.length : Int) 1048576) →
   ∃ V : List Sh, V.length = l.length ∧ (∀ (i : Nat) (x : Z9) (v : Sh), l[i]? = some x → V[i]? = some v → Shp x v) ∧ ∀ (i : Nat) p v, P[i]? = some p → V[i]? = some v → v.sz = min (p.1.length : Int) 1048576 := by
  intro l P hP hR
  obtain ⟨V, q1, q2⟩ := Zwr l P hP hR
  refine ⟨V, q1, fun i x v hx hv => ?_, fun i p v hp hv => ?_⟩
  ·have hil := (q2_.1 hx).1
   exact (q2 i x _ v hx (q4_ (by omega)) hv).1
  ·have hil := (q2_.1 hp).1
   exact (q2 i _ p v (q4_ (by omega)) hp hv).2
 induction h with
 | none => exact ⟨_, .none, by decide⟩
 | set l _ => exact ⟨_, .set l, by simp only [q5_, q9_]; omega⟩
 | cat l P hl hP _ ih =>
  obtain ⟨V, q1, q2, q3⟩ := kids hP ih
  refine ⟨_, .cat l V hl q1 q2, ?_⟩
  rw [Zz0 P V cat0 0 (by omega) q3 rfl]
  simp
 | alt l P y q h0 hl hP _ _ ih ih2 =>
  obtain ⟨V, q1, q2, q3⟩ := kids hP ih
  obtain ⟨w, w1, w2⟩ := ih2
  refine ⟨_, .alt (l ++ [y]) (V ++ [w]) (by simpa using hl) ?_ (by simp [q1]) ?_, ?_⟩
  ·rw [q3_, ZiR]; omega
  ·intro i x v hx hv
   by_cases hi : i < l.length
   ·rw [ZiO hi] at hx
    rw [ZiO (by omega)] at hv
    exact q2 i x v hx hv
   ·rw [Zei (by omega)] at hx
    rw [Zei (by omega), q1] at hv
    cases hj : i - l.length with
    | zero => rw [hj] at hx hv; simp at hx hv; subst hx hv; exact w1
    | succ j => rw [hj] at hx; simp at hx
  ·have e := ZyS (P ++ [q]) (V ++ [w]) alt0 0 (by simp [q1, hP]) (by
    intro i p v hp hv
    by_cases hi : i < P.length
    ·rw [ZiO hi] at hp
     rw [ZiO (by omega)] at hv
     exact q3 i p v hp hv
    ·rw [Zei (by omega)] at hp
     rw [Zei (by omega), show V.length = P.length by omega] at hv
     cases hj : i - P.length with
     | zero => rw [hj] at hp hv; simp at hp hv; subst hp hv; exact w2
     | succ j => rw [hj] at hp; simp at hp) rfl
   have e2 : (seqC (P ++ [q])).1.length = (seqC P).1.length + q.1.length := by
    exact Zwk P q
   simp only [altC, e, e2, q3_, Z1p, ZH0, ZiR]
   omega
 | rep lo hi m x p h1 h2 hm _ ih =>
  obtain ⟨v, v1, v2⟩ := ih
  refine ⟨_, .rep lo hi m x v h1 h2 v1, ?_⟩
  rw [ZwQ h1 h2]
  refine (ZwR h1 h2 v2).trans ?_
  rw [if_neg hm]
  simp
 | repA lo hi x p h1 h2 _ ih =>
  obtain ⟨v, v1, v2⟩ := ih
  refine ⟨_, .rep lo hi 2 x v h1 h2 v1, ?_⟩
  refine (ZwR h1 h2 v2).trans ?_
  have := ZwQ (z := false) (p := p) h1 h2
  simp only [Z4K, q3_, q5_, q9_, Z1p, if_true]
  omega
 | group r x p _ _ ih =>
  obtain ⟨v, v1, v2⟩ := ih
  refine ⟨_, .group r x v v1, ?_⟩
  simp only [q3_, q5_, q9_, Z1p]
  omega
 | back r _ => exact ⟨_, .back r, by simp only [q5_, q9_]; omega⟩
 | look m x p u _ _ _ ih =>
  obtain ⟨v, v1, v2⟩ := ih
  refine ⟨_, .look m x v v1, ?_⟩
  simp only [Z4K, q3_, q5_, q9_, Z1p]
  omega
 | atomic x p _ ih =>
  obtain ⟨v, v1, v2⟩ := ih
  refine ⟨_, .atomic x v v1, ?_⟩
  simp only [Z4K, q3_, q5_, q9_, Z1p]
  omega
 | edge k _ => exact ⟨_, .edge k, by simp only [q5_, q9_]; omega⟩
def mt : Zm := ⟨0, 0, 0, 0, 0, []⟩
def whole (p : Cp) : List Zm := sv 0 :: (mvL 1 0 p.1 ++ [sv 1, mt])
theorem Zsf (p : Cp) : (whole p).length = p.1.length + 3 := by simp [whole, Z1p]
theorem Zw1 {n : Z9} {v : Sh} (hv : Shp n v) (h : chkF v ≠ 0) (g : Int) (f : Bool) : Z9d ⟨n, g, f⟩ = some ([], chkF v) := by
 apply Zhy
 unfold ZaL
 rw [ZrN hv, q0_, if_pos (by simpa using h)]
theorem ZkZ {n : Z9} {v : Sh} {p : Cp} {f : Bool} (hv : Shp n v) (h : chkF v = 0) (hp : Cd f ZeW n p) (hs : v.sz = min (p.1.length : Int) 1048576) (g : Int) : p.1.length ≤ 1997 ∧ Z9d ⟨n, g, f⟩ = some (whole p, 0) := by
 have hb : p.1.length ≤ 1997 := by
  unfold chkF at h
  split at h
  ·simp at h
  split at h
  ·simp at h
  ·omega
 refine ⟨hb, ?_⟩
 obtain ⟨_, k2⟩ := ZEg hp
 apply Zhy
 unfold ZaL
 rw [ZrN hv, q0_, h, if_neg (by simp)]
 unfold Zax
 rw [show (Zm.mk 4 0 0 0 0 []) = sv 0 from rfl, show (Zm.mk 4 1 0 0 0 []) = sv 1 from rfl, show (Zm.mk 0 0 0 0 0 []) = mt from rfl, Z8x _ _ (by simp), q0_]
 dsimp only
 rw [Zih (o := [] ++ [sv 0]) k2 (a := 1) (lp := 0) (by simp) (by simp; omega) (by omega), q0_]
 dsimp only
 rw [Z8x _ _ (by simp [Z1p]; omega), q0_]
 dsimp only
 rw [Z8x _ _ (by simp [Z1p]; omega), q0_]
 simp [whole]
theorem ZCS {x : ByteArray} (h : (Z4j x).2.Code ≠ 0) : Z3b x = some ([], (Z4j x).2.Code, 0) := by
 apply Zdd
 unfold Z75
 rw [ZmS, q0_, if_pos (by simpa using h)]
theorem ZnD {x : ByteArray} (h : (Z4j x).2.Code = 0) {l : List Zm} {e : Int} (hc : Z9d (Z4j x).1 = some (l, e)) : Z3b x = some (l, 0, e) := by
 apply Zdd
 unfold Z75 Z7F
 rw [ZmS, q0_, if_neg (by simpa using h), hc]
 rfl
theorem Zyr {x : ByteArray} (h : (Z4j x).2.Code = 0) : ∃ v p, Shp (Z4j x).1.Root v ∧ Cd (Z4j x).1.Fold ZeW (Z4j x).1.Root p ∧ v.sz = min (p.1.length : Int) 1048576 ∧
  ((chkF v ≠ 0 ∧ Z3b x = some ([], 0, chkF v)) ∨ (chkF v = 0 ∧ p.1.length ≤ 1997 ∧ Z3b x = some (whole p, 0, 0))) := by
 have hg := ZyA h
 obtain ⟨p, hp⟩ := ZE7 (Z4j x).1.Fold ZeW hg
 obtain ⟨v, hv, hs⟩ := ZHc hp
 refine ⟨v, p, hv, hp, hs, ?_⟩
 by_cases hc : chkF v = 0
 ·obtain ⟨h1, h2⟩ := ZkZ hv hc hp hs (Z4j x).1.Groups
  exact .inr ⟨hc, h1, ZnD h h2⟩
 ·exact .inl ⟨hc, ZnD h (Zw1 hv hc _ _)⟩
def marks (l : List Zm) : Nat := l.countP (fun i => i.Op == 10)
theorem Z9a (a b : List Zm) : marks (a ++ b) = marks a + marks b := by simp [marks]
theorem Z8E (a l : Int) (c : List Zm) : marks (mvL a l c) = marks c := by
 simp only [marks, mvL, List.countP_map]
 congr 1
 funext i
 simp [Zjs]
theorem Zyp (l : List Zm) (hl : l.length ≤ 1000000) : ∀ (m i : Nat) (c : Int), i + m = l.length → 0 ≤ c ∧ c ≤ i → Zaa c l (l.length : Int) (i : Int) = some (c + marks (l.drop i)) := by
 intro m
 induction m with
 | zero =>
  intro i c h hc
  apply ZgL
  unfold Za4 ZbQ
  rw [if_neg (Z2a (by omega)), Zg6 (by omega)]
  simp [marks]
 | succ m ih =>
  intro i c h hc
  have hil : i < l.length := by omega
  apply ZgL
  unfold Za4 ZbP Za5
  rw [if_pos (Z1Q (by omega)), Z44, q4_ hil, q0_, wrap_i64 (n := c + 1) (by omega) (by omega), wrap_i64 (n := (i : Int) + 1) (by omega) (by omega), Zg7 hil]
  have e1 := ih (i + 1) (c + 1) (by omega) (by omega)
  have e2 := ih (i + 1) c (by omega) (by omega)
  have hm : marks (l[i] :: l.drop (i + 1)) = marks (l.drop (i + 1)) + if l[i].Op = 10 then 1 else 0 := by
   simp only [marks, List.countP_cons]
   simp
  rw [hm]
  by_cases ho : l[i].Op = 10
  ·rw [if_pos (Z1L ho), if_pos ho]
   refine e1.trans ?_
   congr 1
   omega
  ·rw [if_neg (Z1R ho), if_neg ho]
   refine e2.trans ?_
   congr 1
theorem Zs0 (l : List Zm) (hl : l.length ≤ 1000000) : Zcl l = some (marks l : Int) := by
 apply Zqi
 unfold ZeR
 have := Zyp l hl l.length 0 0 (by omega) (by omega)
 rw [ZrG] at this
 refine this.trans ?_
 simp
theorem Zx2 : Z85 = some true := by
 have e1 : (Z4j (ByteArray.mk #[97, 124, 98])) = (⟨⟨3, 0, 0, 0, 0, [], [setN [(97, 97)]] ++ [setN [(98, 98)]]⟩, 0, false⟩, ⟨0, 0⟩) := by rfl
 have e2 : (Z4j (ByteArray.mk #[97, 42])) = (⟨⟨4, 0, -1, 0, 0, [], [setN [(97, 97)]]⟩, 0, false⟩, ⟨0, 0⟩) := by rfl
 have nn : ∀ u : Int, 0 ≤ u → u ≤ 1000 → Z2R [(u, u)] := fun u h1 h2 => Zi3 ⟨h1, ZcB _, by simp only []; omega⟩
 have c1 : Cd false ZeW ⟨3, 0, 0, 0, 0, [], [setN [(97, 97)]] ++ [setN [(98, 98)]]⟩ _ := Cd.alt [setN [(97, 97)]] [([⟨1, 0, 0, 0, 0, [(97, 97)].map ofR⟩], 0)] (setN [(98, 98)]) _ (by simp) (by simp) rfl
  (by
   intro i x p hx hp
   cases i with
   | zero => simp at hx hp; subst hx hp; exact Cd.set [(97, 97)] (nn 97 (by omega) (by omega))
   | succ i => simp at hx) (Cd.set [(98, 98)] (nn 98 (by omega) (by omega)))
 have c2 : Cd false ZeW ⟨4, 0, -1, 0, 0, [], [setN [(97, 97)]]⟩ _ := Cd.rep 0 (-1) 0 _ _ (by omega) (.inl rfl) (by omega) (Cd.set [(97, 97)] (nn 97 (by omega) (by omega)))
 have v1 := ZDW (Shp.set [(97, 97)]) (Shp.set [(98, 98)])
 have v2 := Shp.rep 0 (-1) 0 _ _ (by omega) (by omega) (Shp.set [(97, 97)])
 have m1 : Z3b (ByteArray.mk #[97, 124, 98]) = some (_, 0, 0) := ZnD (by rw [e1]) (by rw [e1]; exact (ZkZ v1 (by decide) c1 (by decide) 0).2)
 have m2 : Z3b (ByteArray.mk #[97, 42]) = some (_, 0, 0) := ZnD (by rw [e2]) (by rw [e2]; exact (ZkZ v2 (by decide) c2 (by decide) 0).2)
 apply ZhI
 unfold Z7Z Z35
 rw [m1, q0_, m2, q0_]
 rw [if_neg (by decide), if_neg (by decide), if_neg (by decide), if_neg (by decide), if_neg (by decide), if_neg (by decide)]
 unfold Z6X
 rw [Zs0 _ (by decide)]
 rfl
end Go.Proofs.YtocikhhkicahoaaDoor.N2
end
section
namespace Go.Proofs.YtocikhhkicahoaaDoor.N2
open Go Go.Abs Go.Proofs.Unis Go.Proofs.Norm
set_option maxRecDepth 100000
structure Mo (φ : Zm → Zm) : Prop where
 mv : ∀ a l i, φ (mv a l i) = N2.mv a l (φ i)
 sp : ∀ a b, φ (sp a b) = N2.sp a b
 jp : ∀ a, φ (jp a) = N2.jp a
 mq : ∀ a, φ (mk a) = N2.mk a
 gd : ∀ a, φ (gd a) = N2.gd a
 dn : φ dn = N2.dn
 wi : ∀ op a b c e, op = 7 ∨ op = 8 → φ ⟨op, a, b, c, e, []⟩ = ⟨op, a, b, c, e, []⟩
def mapP (φ : Zm → Zm) (p : Cp) : Cp := (p.1.map φ, p.2)
theorem Zeg (φ : Zm → Zm) (p : Cp) : (mapP φ p).1.length = p.1.length := by simp [mapP]
section
variable {φ : Zm → Zm} (h : Mo φ)
include h
theorem Mo.mvL (a l : Int) (c : List Zm) : (mvL a l c).map φ = N2.mvL a l (c.map φ) := by
 simp only [N2.mvL, ZoL]
 exact ZmV fun i _ => h.mv a l i
theorem Mo.spz (z : Bool) (a b : Int) : φ (spz z a b) = N2.spz z a b := by cases z <;> exact h.sp _ _
theorem Mo.seq (P : List Cp) : mapP φ (seqC P) = seqC (P.map (mapP φ)) := by
 induction P with
 | nil => rfl
 | cons d P ih =>
  rw [Z9w, seqC, seqC, ← ih]
  simp only [mapP, ZiU, h.mvL, Zbq]
theorem Mo.pre (P : List Cp) : ∀ e, mapP φ (preC e P) = preC e (P.map (mapP φ)) := by
 induction P with
 | nil => intro e; rfl
 | cons d P ih =>
  intro e
  rw [Z9w, preC, preC, Zeg, ← ih]
  simp only [mapP, ZiU, Z9w, h.mvL, h.sp, h.jp]
theorem Mo.alt (P : List Cp) (d : Cp) : mapP φ (altC P d) = altC (P.map (mapP φ)) (mapP φ d) := by
 unfold altC
 rw [← h.pre, ← h.pre, Zeg, Zeg]
 simp only [mapP, ZiU, h.mvL]
theorem Mo.opt (z : Bool) (d : Cp) : ∀ (m : Nat) (e : Int), mapP φ (optC z d e m) = optC z (mapP φ d) e m := by
 intro m
 induction m with
 | zero => intro e; rfl
 | succ m ih =>
  intro e
  rw [optC, optC, Zeg, ← ih]
  simp only [mapP, ZiU, Z9w, h.mvL, h.spz]
theorem Mo.loop (z : Bool) (d : Cp) : mapP φ (Z7u z d) = Z7u z (mapP φ d) := by
 unfold Z7u
 rw [Zeg]
 simp only [mapP, ZiU, Z9w, Zfh, h.mvL, h.spz, h.mq, h.gd, h.jp]
theorem Mo.rep (lo hi : Int) (z : Bool) (d : Cp) : mapP φ (repC lo hi z d) = repC lo hi z (mapP φ d) := by
 unfold repC
 rw [h.seq, Z9w, Z9w, Zfh, h.seq, List.map_replicate]
 by_cases hh : hi < 0
 ·simp only [hh, if_true, h.loop]
 ·simp only [hh, if_false, h.opt, ZBR, Zeg]
theorem Mo.wit (op a c e : Int) (d : Cp) (ho : op = 7 ∨ op = 8) : mapP φ (Z4K op a c e d) = Z4K op a c e (mapP φ d) := by
 unfold Z4K
 rw [Zeg]
 simp only [mapP, ZiU, Z9w, Zfh, h.mvL, h.dn, h.wi _ _ _ _ _ ho]
end
end Go.Proofs.YtocikhhkicahoaaDoor.N2
end
section
namespace Go.Proofs.YtocikhhkicahoaaDoor.N2
open Go Go.Abs Go.Proofs.Unis Go.Proofs.Norm
set_option maxRecDepth 100000
structure Al (Ψ : Zm → Prop) : Prop where
 mv : ∀ a l i, Ψ i → Ψ (mv a l i)
 sp : ∀ a b, Ψ (sp a b)
 jp : ∀ a, Ψ (jp a)
 mq : ∀ a, Ψ (mk a)
 gd : ∀ a, Ψ (gd a)
 dn : Ψ dn
 wi : ∀ op a b c e, op = 7 ∨ op = 8 → Ψ ⟨op, a, b, c, e, []⟩
section
variable {Ψ : Zm → Prop} (h : Al Ψ)
include h
theorem Al.mvL {a l : Int} {c : List Zm} (hc : ∀ i ∈ c, Ψ i) : ∀ i ∈ mvL a l c, Ψ i := by
 intro i hi
 obtain ⟨j, hj, rfl⟩ := Z73.1 hi
 exact h.mv _ _ _ (hc j hj)
theorem Al.spz (z : Bool) (a b : Int) : Ψ (spz z a b) := by cases z <;> exact h.sp _ _
omit h in
theorem ZfB {c d : List Zm} (hc : ∀ i ∈ c, Ψ i) (hd : ∀ i ∈ d, Ψ i) : ∀ i ∈ c ++ d, Ψ i := fun i hi => (Z9P.1 hi).elim (hc i) (hd i)
omit h in
theorem all_cons {x : Zm} {d : List Zm} (hc : Ψ x) (hd : ∀ i ∈ d, Ψ i) : ∀ i ∈ x :: d, Ψ i := fun i hi => (Z5C.1 hi).elim (fun e => e ▸ hc) (hd i)
omit h in
theorem all_nil : ∀ i ∈ ([] : List Zm), Ψ i := by simp
theorem Al.seq {P : List Cp} (hP : ∀ p ∈ P, ∀ i ∈ p.1, Ψ i) : ∀ i ∈ (seqC P).1, Ψ i := by
 induction P with
 | nil => exact all_nil
 | cons d P ih => exact ZfB (hP d (Zao ..)) (h.mvL (ih fun p hp => hP p (ZbJ _ hp)))
theorem Al.pre {P : List Cp} (hP : ∀ p ∈ P, ∀ i ∈ p.1, Ψ i) : ∀ e, ∀ i ∈ (preC e P).1, Ψ i := by
 induction P with
 | nil => intro e; exact all_nil
 | cons d P ih =>
  intro e
  exact all_cons (h.sp _ _) (ZfB (h.mvL (hP d (Zao ..))) (all_cons (h.jp _) (h.mvL (ih (fun p hp => hP p (ZbJ _ hp)) _))))
theorem Al.opt {z : Bool} {d : Cp} (hd : ∀ i ∈ d.1, Ψ i) : ∀ (m : Nat) (e : Int), ∀ i ∈ (optC z d e m).1, Ψ i := by
 intro m
 induction m with
 | zero => intro e; exact all_nil
 | succ m ih => intro e; exact all_cons (h.spz _ _ _) (ZfB (h.mvL hd) (h.mvL (ih _)))
theorem Al.rep {lo hi : Int} {z : Bool} {d : Cp} (hd : ∀ i ∈ d.1, Ψ i) : ∀ i ∈ (repC lo hi z d).1, Ψ i := by
 unfold repC
 apply h.seq
 intro p hp
 simp only [Z5C, ZoO, or_false] at hp
 rcases hp with rfl | rfl
 ·exact h.seq fun q hq => by rw [ZyE hq]; exact hd
 ·split
  ·exact all_cons (h.spz _ _ _) (all_cons (h.mq _) (ZfB (h.mvL hd) (all_cons (h.gd _) (all_cons (h.jp _) (all_nil)))))
  ·exact h.opt hd _ _
theorem Al.wit {op a c e : Int} {d : Cp} (ho : op = 7 ∨ op = 8) (hd : ∀ i ∈ d.1, Ψ i) : ∀ i ∈ (Z4K op a c e d).1, Ψ i :=
 all_cons (h.wi _ _ _ _ _ ho) (ZfB (h.mvL hd) (all_cons h.dn (all_nil)))
end
end Go.Proofs.YtocikhhkicahoaaDoor.N2
end
section
namespace Go.Proofs.YtocikhhkicahoaaDoor.N2
open Go Go.Abs Go.Proofs.Unis Go.Proofs.Norm
set_option maxRecDepth 100000
def er (i : Zm) : Zm := if i.Op = 4 then ⟨i.Op, 0, i.B, i.C, i.D, i.Set⟩ else i
def Loc (N : Int) (c : List Zm) (i : Nat) (x : Zm) : Prop :=
 x.Op ≠ 0 ∧ (x.Op = 2 → 0 ≤ x.A ∧ x.A ≤ N) ∧ (x.Op = 3 → (i : Int) < x.A ∧ (i : Int) < x.B ∧ x.A ≤ N ∧ x.B ≤ N ∧ min x.A x.B = (i : Int) + 1) ∧
 (x.Op = 7 ∨ x.Op = 8 → (i : Int) + 1 < x.B ∧ x.B ≤ N ∧ ∃ j y, x.B = (j : Nat) + 1 ∧ c[j]? = some y ∧ y.Op = 9) ∧
 (x.Op = 10 → x.A = marks (c.take i)) ∧
 (x.Op = 11 → 0 ≤ x.A ∧ x.A < marks (c.take i) ∧ ∃ y j z, c[i + 1]? = some y ∧ y.Op = 2 ∧ y.A = (j : Nat) ∧ c[j]? = some z ∧ z.Op = 3)
def Seg (N : Int) (L : List Zm) (k : Nat) (s : List Zm) : Prop := ∀ (i : Nat) x, s[i]? = some x → Loc N L (k + i) x
def Va (N : Int) (c : List Zm) : Prop := Seg N c 0 c
theorem Seg.nil {N : Int} {L : List Zm} {k : Nat} : Seg N L k [] := by intro i x h; simp at h
theorem Seg.cons {N : Int} {L : List Zm} {k : Nat} {x : Zm} {s : List Zm} (h : Loc N L k x) (hs : Seg N L (k + 1) s) : Seg N L k (x :: s) := by
 intro i y hy
 cases i with
 | zero => simp at hy; subst hy; exact h
 | succ i =>
  have := hs i y (by simpa using hy)
  rwa [show k + 1 + i = k + (i + 1) by omega] at this
theorem Seg.app {N : Int} {L : List Zm} {k : Nat} {s t : List Zm} (h : Seg N L k s) (ht : Seg N L (k + s.length) t) : Seg N L k (s ++ t) := by
 intro i y hy
 by_cases hi : i < s.length
 ·rw [ZiO hi] at hy
  exact h i y hy
 ·rw [Zei (by omega)] at hy
  have := ht _ y hy
  rwa [show k + s.length + (i - s.length) = k + i by omega] at this
theorem Loc.mono {N M : Int} {c : List Zm} {i : Nat} {x : Zm} (h : Loc N c i x) (hN : N ≤ M) : Loc M c i x := by
 obtain ⟨h0, h2, h3, h7, h10, h11⟩ := h
 refine ⟨h0, fun e => ?_, fun e => ?_, fun e => ?_, h10, h11⟩
 ·have := h2 e; omega
 ·have := h3 e; omega
 ·obtain ⟨a, b, d⟩ := h7 e
  exact ⟨a, by omega, d⟩
theorem ZrB (u c w : List Zm) (a l : Int) (i : Nat) (hi : i ≤ c.length) : marks ((u ++ (mvL a l c ++ w)).take (u.length + i)) = marks u + marks (c.take i) := by
 rw [List.take_append, Zvm (by omega), show u.length + i - u.length = i by omega, Z9a, ZDO (by rw [Z1p]; exact hi)]
 congr 1
 unfold mvL
 rw [← Zvu]
 exact Z8E a l _
theorem Zry (u c w : List Zm) (a l : Int) (i : Nat) {y : Zm} (h : c[i]? = some y) : (u ++ (mvL a l c ++ w))[u.length + i]? = some (mv a l y) := by
 have hi := (q2_.1 h).1
 rw [Zei (by omega), show u.length + i - u.length = i by omega, ZiO (by rw [Z1p]; exact hi)]
 unfold mvL
 rw [q8_, h]
 rfl
theorem Zbz {N M : Int} {c u w L : List Zm} {a l : Int} (hc : Va N c) (hL : L = u ++ (mvL a l c ++ w)) (ha : a = u.length) (hl : l = marks u) (hM : a + N ≤ M) {k : Nat} (hk : k = u.length) : Seg M L k (mvL a l c) := by
 subst hk hL
 intro i x' hx'
 unfold mvL at hx'
 rw [q8_] at hx'
 obtain ⟨x, hx, rfl⟩ := q6_.1 hx'
 have hi := (q2_.1 hx).1
 have h := hc i x hx
 rw [Zg9] at h
 obtain ⟨h0, h2, h3, h7, h10, h11⟩ := h
 unfold Loc
 rw [Zjs, ZrB _ _ _ _ _ _ (by omega)]
 refine ⟨h0, fun e => ?_, fun e => ?_, fun e => ?_, fun e => ?_, fun e => ?_⟩
 ·have := h2 e
  have q : (mv a l x).A = x.A + a := by unfold mv; rw [if_pos e]
  rw [q]; omega
 ·have := h3 e
  have q1 : (mv a l x).A = x.A + a := by unfold mv; rw [if_neg (by omega), if_pos e]
  have q2 : (mv a l x).B = x.B + a := by unfold mv; rw [if_neg (by omega), if_pos e]
  rw [q1, q2]; omega
 ·obtain ⟨g1, g2, j, y, g3, g4, g5⟩ := h7 e
  have q2 : (mv a l x).B = x.B + a := by unfold mv; rw [if_neg (by omega), if_neg (by omega), if_pos e]
  rw [q2]
  exact ⟨by omega, by omega, u.length + j, _, by omega, Zry u c w a l j g4, by rw [Zjs]; exact g5⟩
 ·have := h10 e
  have q : (mv a l x).A = x.A + l := by unfold mv; rw [if_neg (by omega), if_neg (by omega), if_neg (by omega), if_pos (.inl e)]
  rw [q]; omega
 ·obtain ⟨g1, g2, y, j, z, g3, g4, g5, g6, g7⟩ := h11 e
  have q : (mv a l x).A = x.A + l := by unfold mv; rw [if_neg (by omega), if_neg (by omega), if_neg (by omega), if_pos (.inr e)]
  have q2 : (mv a l y).A = y.A + a := by unfold mv; rw [if_pos g4]
  rw [q]
  exact ⟨by omega, by omega, _, u.length + j, _, by rw [Zn1]; exact Zry u c w a l (i + 1) g3, by rw [Zjs]; exact g4, by rw [q2]; omega, Zry u c w a l j g6, by rw [Zjs]; exact g7⟩
theorem Zv7 {N : Int} {L : List Zm} {k : Nat} {a b : Int} (h : (k : Int) < a ∧ (k : Int) < b ∧ a ≤ N ∧ b ≤ N ∧ min a b = (k : Int) + 1) : Loc N L k (sp a b) := ⟨by simp [sp], by simp [sp], fun _ => h, by simp [sp], by simp [sp], by simp [sp]⟩
theorem ZwC {N : Int} {L : List Zm} {k : Nat} {a b : Int} (z : Bool) (h : (k : Int) < a ∧ (k : Int) < b ∧ a ≤ N ∧ b ≤ N ∧ min a b = (k : Int) + 1) : Loc N L k (spz z a b) := by
 cases z
 ·exact Zv7 h
 ·exact Zv7 (by omega)
theorem ZBt {N : Int} {L : List Zm} {k : Nat} {a : Int} (h : 0 ≤ a ∧ a ≤ N) : Loc N L k (jp a) := ⟨by simp [jp], fun _ => h, by simp [jp], by simp [jp], by simp [jp], by simp [jp]⟩
theorem ZeC {N : Int} {L : List Zm} {k : Nat} {x : Zm} (h : x.Op = 1 ∨ x.Op = 4 ∨ x.Op = 5 ∨ x.Op = 6 ∨ x.Op = 9) : Loc N L k x := ⟨by omega, fun e => by omega, fun e => by omega, fun e => by omega, fun e => by omega, fun e => by omega⟩
def Rc (d : Cp) : Prop := Va d.1.length d.1 ∧ marks d.1 = d.2
theorem Z4i {i : Zm} {c : List Zm} (h : i.Op ≠ 10) : marks (i :: c) = marks c := by simp [marks, h]
theorem ZmM : marks [] = 0 := rfl
theorem ZqQ : ∀ {P : List Cp}, (∀ p ∈ P, Rc p) → Rc (seqC P)
 | [], _ => ⟨Seg.nil, rfl⟩
 | d :: r, h => by
  obtain ⟨h1, h2⟩ := h d (Zao ..)
  obtain ⟨h3, h4⟩ := ZqQ (P := r) fun p hp => h p (ZbJ _ hp)
  refine ⟨?_, by simp only [seqC, Z9a, Z8E, h2, h4]⟩
  simp only [seqC]
  refine Seg.app ?_ ?_
  ·intro i x hx
   have hi := (q2_.1 hx).1
   have := Zbz (N := d.1.length) (M := ((d.1 ++ mvL d.1.length d.2 (seqC r).1).length : Nat)) (u := []) (w := mvL d.1.length d.2 (seqC r).1) (a := 0) (l := 0) h1 rfl rfl rfl (by simp only [q3_]; omega) (k := 0) rfl
   have e : mvL 0 0 d.1 = d.1 := by
    unfold mvL
    have : mv 0 0 = id := by
     funext i
     unfold mv
     simp
    rw [this, List.map_id]
   rw [e] at this
   exact this i x hx
  ·exact Zbz (u := d.1) (w := []) h3 (by simp) rfl (by rw [h2]) (by simp only [q3_, Z1p]; omega) (by omega)
theorem ZC3 : ∀ {P : List Cp}, (∀ p ∈ P, Rc p) → ∀ e N : Int, (preC e P).1.length ≤ e → e ≤ N → Va N (preC e P).1 ∧ marks (preC e P).1 = (preC e P).2
 | [], _, _, _, _, _ => ⟨Seg.nil, rfl⟩
 | d :: r, h, e, N, h5, h6 => by
  obtain ⟨h1, h2⟩ := h d (Zao ..)
  simp only [preC, q3_, q5_, Z1p] at h5
  obtain ⟨h3, h4⟩ := ZC3 (P := r) (fun p hp => h p (ZbJ _ hp)) (e - (d.1.length + 2)) (N - (d.1.length + 2)) (by omega) (by omega)
  refine ⟨?_, by simp only [preC]; rw [Z4i (by simp [sp]), Z9a, Z8E, Z4i (by simp [jp]), Z8E, h2, h4]⟩
  simp only [preC]
  refine Seg.cons (Zv7 ⟨by omega, by omega, by omega, by omega, by omega⟩) (Seg.app ?_ (Seg.cons (ZBt ⟨by omega, by omega⟩) ?_))
  ·exact Zbz (u := [sp 1 (d.1.length + 2)]) (w := jp e :: mvL (d.1.length + 2) d.2 (preC (e - (d.1.length + 2)) r).1) h1 rfl (by simp) rfl (by omega) rfl
  ·refine Zbz (u := sp 1 (d.1.length + 2) :: (mvL 1 0 d.1 ++ [jp e])) (w := []) h3 (by simp) (by simp [Z1p]; omega) ?_ (by omega) (by simp [Z1p]; omega)
   rw [Z4i (by simp [sp]), Z9a, Z8E, Z4i (by simp [jp]), ZmM, h2, Zbr]
theorem ZH7 {P : List Cp} {d : Cp} (h : ∀ p ∈ P, Rc p) (hd : Rc d) : Rc (altC P d) := by
 obtain ⟨d1, d2⟩ := hd
 have l1 := ZiN P ((preC 0 P).1.length + d.1.length) 0
 obtain ⟨h3, h4⟩ := ZC3 h ((preC 0 P).1.length + d.1.length) ((altC P d).1.length) (by omega) (by simp only [altC, q3_, Z1p]; omega)
 refine ⟨?_, by simp only [altC, Z9a, Z8E, h4, l1.2, d2]⟩
 have hlen : ((altC P d).1.length : Int) = (preC 0 P).1.length + d.1.length := by simp only [altC, q3_, Z1p]; omega
 simp only [altC] at hlen h3 ⊢
 refine Seg.app ?_ ?_
 ·have := Zbz (M := ((preC ((preC 0 P).1.length + d.1.length) P).1 ++ mvL (preC 0 P).1.length (preC 0 P).2 d.1).length) (u := []) (w := mvL (preC 0 P).1.length (preC 0 P).2 d.1) (a := 0) (l := 0) h3 rfl rfl rfl (by omega) (k := 0) rfl
  have e : ∀ c, mvL 0 0 c = c := by
   intro c
   unfold mvL
   have : mv 0 0 = id := by
    funext i
    unfold mv
    simp
   rw [this, List.map_id]
  rwa [e] at this
 ·exact Zbz (u := (preC ((preC 0 P).1.length + d.1.length) P).1) (w := []) d1 (by simp) (by omega) (by rw [h4, l1.2]) (by omega) (by omega)
theorem ZH8 {z : Bool} {d : Cp} (hd : Rc d) : ∀ (m : Nat) (e N : Int), (optC z d e m).1.length ≤ e → e ≤ N → Va N (optC z d e m).1 ∧ marks (optC z d e m).1 = (optC z d e m).2 := by
 obtain ⟨h1, h2⟩ := hd
 intro m
 induction m with
 | zero => intro e N _ _; exact ⟨Seg.nil, rfl⟩
 | succ m ih =>
  intro e N h5 h6
  simp only [optC, q3_, q5_, Z1p] at h5
  obtain ⟨h3, h4⟩ := ih (e - (d.1.length + 1)) (N - (d.1.length + 1)) (by omega) (by omega)
  have hz : (spz z 1 e).Op ≠ 10 := by cases z <;> simp [spz, sp]
  refine ⟨?_, by simp only [optC]; rw [Z4i hz, Z9a, Z8E, Z8E, h2, h4]⟩
  simp only [optC]
  refine Seg.cons (ZwC z ⟨by omega, by omega, by omega, by omega, by omega⟩) (Seg.app ?_ ?_)
  ·exact Zbz (u := [spz z 1 e]) (w := mvL (d.1.length + 1) d.2 (optC z d (e - (d.1.length + 1)) m).1) h1 rfl (by simp) (by rw [Z4i hz]; rfl) (by omega) rfl
  ·refine Zbz (u := spz z 1 e :: mvL 1 0 d.1) (w := []) h3 (by simp) (by simp [Z1p]) ?_ (by omega) (by simp [Z1p]; omega)
   rw [Z4i hz, Z8E, h2]
theorem ZED {z : Bool} {d : Cp} (hd : Rc d) : Rc (Z7u z d) := by
 obtain ⟨h1, h2⟩ := hd
 have hz : ∀ a b, (spz z a b).Op ≠ 10 := by intro a b; cases z <;> simp [spz, sp]
 have hz3 : ∀ a b, (spz z a b).Op = 3 := by intro a b; cases z <;> simp [spz, sp]
 have m1 : ∀ c, marks (mk 0 :: c) = marks c + 1 := fun c => by simp [marks, mk]
 have mm : marks (Z7u z d).1 = (Z7u z d).2 := by
  simp only [Z7u]
  rw [Z4i (hz _ _), m1, Z9a, Z8E, h2, Z4i (by simp [gd]), Z4i (by simp [jp])]
  rfl
 refine ⟨?_, mm⟩
 have hlen : ((Z7u z d).1.length : Int) = d.1.length + 4 := by simp only [Z7u, q3_, q5_, q9_, Z1p]; omega
 generalize hN : ((Z7u z d).1.length : Int) = N at *
 simp only [Z7u]
 refine Seg.cons (ZwC z ⟨by omega, by omega, by omega, by omega, by omega⟩) (Seg.cons ?_ (Seg.app ?_ (Seg.cons ?_ (Seg.cons (ZBt ⟨by omega, by omega⟩) Seg.nil))))
 ·refine ⟨by simp [mk], by simp [mk], by simp [mk], by simp [mk], fun _ => ?_, by simp [mk]⟩
  show (0 : Int) = _
  simp [marks, hz]
 ·exact Zbz (u := [spz z 1 (d.1.length + 4), mk 0]) (w := [gd 0, jp 0]) h1 rfl (by simp) (by rw [Z4i (hz _ _), m1]; rfl) (by omega) rfl
 ·refine ⟨by simp [gd], by simp [gd], by simp [gd], by simp [gd], by simp [gd], fun _ => ⟨ZcB _, ?_, jp 0, 0, spz z 1 (d.1.length + 4), ?_, rfl, rfl, rfl, hz3 _ _⟩⟩
  ·show (0 : Int) < _
   have e : (spz z 1 (d.1.length + 4) :: mk 0 :: (mvL 2 1 d.1 ++ [gd 0, jp 0])).take (0 + 1 + 1 + (mvL 2 1 d.1).length) = spz z 1 (d.1.length + 4) :: mk 0 :: mvL 2 1 d.1 := by
    rw [show 0 + 1 + 1 + (mvL 2 1 d.1).length = (mvL 2 1 d.1).length + 1 + 1 by omega, ZyF, ZyF, ZDO (by omega), List.take_length]
   rw [e, Z4i (hz _ _), m1]
   omega
  ·rw [show 0 + 1 + 1 + (mvL 2 1 d.1).length + 1 = (mvL 2 1 d.1).length + 1 + 1 + 1 by omega, ZiQ, ZiQ, Zei (by omega), show (mvL 2 1 d.1).length + 1 - (mvL 2 1 d.1).length = 1 by omega]
   rfl
theorem ZC4 {lo hi : Int} {z : Bool} {d : Cp} (hd : Rc d) : Rc (repC lo hi z d) := by
 unfold repC
 apply ZqQ
 intro p hp
 simp only [Z5C, ZoO, or_false] at hp
 rcases hp with rfl | rfl
 ·exact ZqQ fun q hq => by rw [ZyE hq]; exact hd
 ·split
  ·exact ZED hd
  ·have l1 := Zeh z d (hi - lo).toNat ((optC z d 0 (hi - lo).toNat).1.length) 0
   have l2 := Zeh z d (hi - lo).toNat 0 0
   exact ZH8 hd _ _ _ (by omega) (by omega)
theorem ZrK {op a c e : Int} {d : Cp} (ho : op = 7 ∨ op = 8) (hd : Rc d) : Rc (Z4K op a c e d) := by
 obtain ⟨h1, h2⟩ := hd
 have hlen : ((Z4K op a c e d).1.length : Int) = d.1.length + 2 := by simp only [Z4K, q3_, q5_, q9_, Z1p]; omega
 refine ⟨?_, by simp only [Z4K]; rw [Z4i (by show ¬ op = 10; omega), Z9a, Z8E, h2, Z4i (by simp [dn]), ZmM, Zbr]⟩
 generalize hN : ((Z4K op a c e d).1.length : Int) = N at *
 simp only [Z4K]
 refine Seg.cons ?_ (Seg.app ?_ (Seg.cons (ZeC (by simp [dn])) Seg.nil))
 ·refine ⟨by show ¬ op = 0; omega, fun q => absurd q (by show ¬ op = 2; omega), fun q => absurd q (by show ¬ op = 3; omega), fun _ => ⟨by show _ < (d.1.length : Int) + 2; omega, by show (d.1.length : Int) + 2 ≤ N; omega, d.1.length + 1, dn, by show (d.1.length : Int) + 2 = _; omega, ?_, rfl⟩, fun q => absurd q (by show ¬ op = 10; omega), fun q => absurd q (by show ¬ op = 11; omega)⟩
  rw [ZiQ, Zei (by rw [Z1p]; exact Z2A _), Z1p, Nat.sub_self]
  rfl
 ·refine Zbz (u := [⟨op, a, d.1.length + 2, c, e, []⟩]) (w := [dn]) h1 rfl (by simp) ?_ (by omega) rfl
  rw [Z4i (by show ¬ op = 10; omega)]
  rfl
theorem ZHb {fold : Bool} {ff : List R2 → List R2} {n : Z9} {p : Cp} (h : Cd fold ff n p) : Rc p := by
 induction h with
 | none => exact ⟨Seg.nil, rfl⟩
 | set l _ => exact ⟨Seg.cons (ZeC (by simp)) Seg.nil, rfl⟩
 | cat l P _ hP _ ih => exact ZqQ (Zd5 (R := fun _ _ => True) hP ih)
 | alt l P y q _ _ hP _ _ ih ih2 => exact ZH7 (Zd5 (R := fun _ _ => True) hP ih) ih2
 | rep lo hi m x p _ _ _ _ ih => exact ZC4 ih
 | repA lo hi x p _ _ _ ih => exact ZrK (.inr rfl) (ZC4 ih)
 | group r x p _ _ ih =>
  obtain ⟨h1, h2⟩ := ih
  refine ⟨?_, ?_⟩
  ·refine Seg.cons (ZeC (by simp [sv])) (Seg.app ?_ (Seg.cons (ZeC (by simp [sv])) Seg.nil))
   exact Zbz (u := [sv (2 * r)]) (w := [sv (2 * r + 1)]) h1 rfl (by simp) rfl (by simp only [q3_, q5_, q9_, Z1p]; omega) rfl
  ·simp only
   rw [Z4i (by simp [sv]), Z9a, Z8E, h2, Z4i (by simp [sv]), ZmM, Zbr]
 | back r _ => exact ⟨Seg.cons (ZeC (by simp)) Seg.nil, rfl⟩
 | look m x p v _ _ _ ih => exact ZrK (.inl rfl) ih
 | atomic x p _ ih => exact ZrK (.inr rfl) ih
 | edge k _ => exact ⟨Seg.cons (ZeC (by simp)) Seg.nil, rfl⟩
end Go.Proofs.YtocikhhkicahoaaDoor.N2
end
section
namespace Go.Proofs.YtocikhhkicahoaaDoor.N2
open Go Go.Abs Go.Proofs.Unis Go.Proofs.Norm
set_option maxRecDepth 100000
theorem Z7B (s : St) : (take s).rf = s.rf := by unfold take; split <;> rfl
theorem Z95 {w : List Int} {s s' : St} (h : wd w s = some s') : s'.rf = s.rf := by
 unfold wd at h
 split at h
 ·cases h; rfl
 ·simp at h
theorem Zvk {u p v : Int} {s s' : St} (h : Z8R u p s = .ok v s') : s'.rf = s.rf := by
 unfold Z8R at h
 split at h
 ·cases h; rfl
 split at h
 ·cases h; rfl
 split at h
 ·cases h; rfl
 split at h
 ·split at h
  ·split at h
   ·cases h; rw [Z7B, Z7B]
   ·simp at h
  ·simp at h
 split at h
 ·cases h; rfl
 ·simp at h
theorem ZBw {v : Int × List R2 × Bool} {s s' : St} (h : pMem s = .ok v s') : s'.rf = s.rf := by
 unfold pMem at h
 split at h
 ·cases h; exact Z7B s
 split at h
 ·simp at h
 split at h
 ·cases h; rw [Z7B, Z7B]
 ·obtain ⟨u, s1, h1, h2⟩ := bind_ok h
  cases h2
  rw [Zvk h1, Z7B, Z7B]
theorem ZrP (p : Int) (no : Bool) : ∀ (k : Nat) (fst : Bool) (all : List R2) (s s' : St) (v : Z9), Z5h p no k fst all s = .ok v s' → s'.rf = s.rf := by
 intro k
 induction k with
 | zero => intro fst all s s' v h; simp [Z5h] at h
 | succ k ih =>
  intro fst all s s' v h
  unfold Z5h at h
  split at h
  ·simp at h
  split at h
  ·split at h
   ·simp at h
   ·cases h; exact Z7B s
  split at h
  ·simp at h
  obtain ⟨m, s1, h1, h2⟩ := bind_ok h
  have e1 := ZBw h1
  split at h2
  ·split at h2
   ·simp at h2
   ·exact (ih _ _ _ _ _ h2).trans e1
  split at h2
  ·exact (ih _ _ _ _ _ h2).trans e1
  ·rename_i s2 hw
   have e2 := Z95 hw
   split at h2
   ·simp at h2
   obtain ⟨m2, s3, h3, h4⟩ := bind_ok h2
   have e3 := ZBw h3
   split at h4
   ·simp at h4
   ·exact (ih _ _ _ _ _ h4).trans (e3.trans (e2.trans e1))
theorem ZCp {p : Int} {v : Z9} {s s' : St} (h : Zby p s = .ok v s') : s'.rf = s.rf := by
 unfold Zby at h
 split at h
 ·rename_i s1 hw
  exact (ZrP _ _ _ _ _ _ _ _ h).trans (Z95 hw)
 ·exact ZrP _ _ _ _ _ _ _ _ h
theorem ZqC (s : St) : (pNum s).2.rf = s.rf := by
 unfold pNum
 split
 ·split
  ·show (take (take s)).rf = _
   rw [Z7B, Z7B]
  ·exact Z7B s
 ·rfl
theorem ZBm {p lo hi : Int} {v : Int × Int} {s s' : St} (h : pFin p lo hi s = .ok v s') : s'.rf = s.rf := by
 unfold pFin at h
 split at h
 ·simp at h
 split at h
 ·simp at h
 ·rename_i s1 hw
  cases h
  exact Z95 hw
theorem Zz5 {p : Int} {v : Int × Int} {s s' : St} (h : ZaW p s = .ok v s') : s'.rf = s.rf := by
 unfold ZaW at h
 split at h
 ·exact (ZBm h).trans (ZqC s)
 rename_i s2 hw
 have e := (Z95 hw).trans (ZqC s)
 split at h
 ·split at h
  ·simp at h
  rename_i s4 hw2
  split at h
  ·cases h; exact (Z95 hw2).trans ((ZqC s2).trans e)
  ·simp at h
 ·exact (ZBm h).trans ((ZqC s2).trans e)
theorem ZlA {kid n : Z9} {may : Bool} {p lo hi : Int} {s s' : St} (h : Z8S kid may p lo hi s = .ok n s') : s'.rf = s.rf := by
 unfold Z8S at h
 split at h
 ·simp at h
 split at h
 ·rename_i s1 hw; cases h; exact Z95 hw
 split at h
 ·rename_i s1 hw; cases h; exact Z95 hw
 ·cases h; rfl
theorem ZH3 {kid n : Z9} {may : Bool} {s s' : St} (h : pRep kid may s = .ok n s') : s'.rf = s.rf := by
 unfold pRep at h
 split at h
 ·rename_i s1 hw; exact (ZlA h).trans (Z95 hw)
 split at h
 ·rename_i s1 hw; exact (ZlA h).trans (Z95 hw)
 split at h
 ·rename_i s1 hw; exact (ZlA h).trans (Z95 hw)
 split at h
 ·rename_i s1 hw
  obtain ⟨c, s2, h1, h2⟩ := bind_ok h
  exact (ZlA h2).trans ((Zz5 h1).trans (Z95 hw))
 ·cases h; rfl
inductive Gr (g : Int) (R : List Zz) : Z9 → Prop
 | back (r : Int) (b : Zz) : b ∈ R → b.group = r → Gr g R ⟨6, 0, 0, 0, r, [], []⟩
 | group (r : Int) (x : Z9) : r ≤ g → Gr g R x → Gr g R ⟨5, 0, 0, 0, r, [], [x]⟩
 | node (n : Z9) : n.Kind ≠ 5 → n.Kind ≠ 6 → (∀ x ∈ n.Kids, Gr g R x) → Gr g R n
def Ext (s s' : St) : Prop := s.gr ≤ s'.gr ∧ ∃ t, s'.rf = s.rf ++ t
theorem Ext.same {s s' : St} (h1 : s'.gr = s.gr) (h2 : s'.rf = s.rf) : Ext s s' := ⟨by omega, [], by simp [h2]⟩
theorem Ext.trans {a b c : St} (h : Ext a b) (k : Ext b c) : Ext a c := by
 obtain ⟨h1, t, h2⟩ := h
 obtain ⟨k1, u, k2⟩ := k
 exact ⟨by omega, t ++ u, by rw [k2, h2, Z9O]⟩
theorem Gr.mono {s s' : St} (h : Ext s s') {n : Z9} (hn : Gr s.gr s.rf n) : Gr s'.gr s'.rf n := by
 obtain ⟨h1, t, h2⟩ := h
 induction hn with
 | back r b hb he => exact .back r b (by rw [h2]; exact ZoK _ hb) he
 | group r x hr _ ih => exact .group r x (by omega) ih
 | node n h5 h6 _ ih => exact .node n h5 h6 ih
theorem ZbD {g : Int} {R : List Zz} {n : Z9} (h5 : n.Kind ≠ 5) (h6 : n.Kind ≠ 6) (hk : n.Kids = []) : Gr g R n := .node n h5 h6 (by rw [hk]; simp)
theorem ZrW {g : Int} {R : List Zz} (k : Int) (hk : k = 2 ∨ k = 3) : ∀ l : List Z9, (∀ x ∈ l, Gr g R x) → Gr g R (joined k l)
 | [], _ => ZbD (by simp [joined, nd0]) (by simp [joined, nd0]) rfl
 | [x], h => h x (Zao ..)
 | x :: y :: r, h => .node _ (by show ¬ k = 5; omega) (by show ¬ k = 6; omega) h
theorem ZE0 {p : Int} {v : Z9} {s s' : St} (h : pEsc p s = .ok v s') : Ext s s' ∧ Gr s'.gr s'.rf v := by
 unfold pEsc at h
 split at h
 ·simp at h
 split at h
 ·cases h; exact ⟨.same (Z6V s) (Z7B s), ZbD (by simp [setN]) (by simp [setN]) rfl⟩
 split at h
 ·cases h; exact ⟨.same (Z6V s) (Z7B s), ZbD (by simp [edge]) (by simp [edge]) rfl⟩
 split at h
 ·cases h; exact ⟨.same (Z6V s) (Z7B s), ZbD (by simp [edge]) (by simp [edge]) rfl⟩
 split at h
 ·cases h
  exact ⟨⟨by show s.gr ≤ (take s).gr; rw [Z6V]; omega, _, rfl⟩, .back _ ⟨peek s.us - 48, p⟩ (by simp) rfl⟩
 ·obtain ⟨u, s1, h1, h2⟩ := bind_ok h
  cases h2
  exact ⟨.same ((Zvj h1).trans (Z6V s)) ((Zvk h1).trans (Z7B s)), ZbD (by simp [setN]) (by simp [setN]) rfl⟩
theorem Zp4 (p : Int) (no : Bool) : ∀ (k : Nat) (fst : Bool) (all : List R2) (s : St) (n : Z9) (s' : St), Z5h p no k fst all s = .ok n s' → ∃ l, n = setN l := by
 intro k
 induction k with
 | zero => intro fst all s n s' e; simp [Z5h] at e
 | succ k ih =>
  intro fst all s n s' e
  unfold Z5h at e
  split at e
  ·simp at e
  split at e
  ·split at e
   ·simp at e
   ·cases e; exact ⟨_, rfl⟩
  split at e
  ·simp at e
  obtain ⟨m, s1, _, e⟩ := bind_ok e
  split at e
  ·split at e
   ·simp at e
   ·exact ih _ _ _ _ _ e
  split at e
  ·exact ih _ _ _ _ _ e
  ·split at e
   ·simp at e
   obtain ⟨m2, s3, _, e⟩ := bind_ok e
   split at e
   ·simp at e
   ·exact ih _ _ _ _ _ e
theorem Zz1 {p : Int} {n : Z9} {s s' : St} (h : Zby p s = .ok n s') : ∃ l, n = setN l := by
 unfold Zby at h
 split at h
 ·exact Zp4 _ _ _ _ _ _ _ _ h
 ·exact Zp4 _ _ _ _ _ _ _ _ h
def GP {α : Type} (f : α → Z9) (P : Int → St → Out α) : Prop := ∀ p s v s', P p s = .ok v s' → Ext s s' ∧ Gr s'.gr s'.rf (f v)
section
variable {P : Int → St → Out (Z9 × Bool)} (M : GP Prod.fst P)
include M
theorem ZCm {s s' : St} {v : Z9 × Bool} (h : Zd7 P s = .ok v s') : Ext s s' ∧ Gr s'.gr s'.rf v.1 := by
 have ht : Ext s (take s) := .same (Z6V s) (Z7B s)
 unfold Zd7 at h
 split at h
 ·cases h; exact ⟨ht, ZbD (by simp [setN]) (by simp [setN]) rfl⟩
 split at h
 ·cases h; exact ⟨ht, ZbD (by simp [edge]) (by simp [edge]) rfl⟩
 split at h
 ·cases h; exact ⟨ht, ZbD (by simp [edge]) (by simp [edge]) rfl⟩
 split at h
 ·obtain ⟨u, s1, h1, h2⟩ := bind_ok h
  cases h2
  obtain ⟨q1, q2⟩ := ZE0 h1
  exact ⟨ht.trans q1, q2⟩
 split at h
 ·obtain ⟨u, s1, h1, h2⟩ := bind_ok h
  cases h2
  obtain ⟨l, rfl⟩ := Zz1 h1
  exact ⟨ht.trans (.same (ZCo h1) (ZCp h1)), ZbD (by simp [setN]) (by simp [setN]) rfl⟩
 split at h
 ·obtain ⟨q1, q2⟩ := M _ _ _ _ h
  exact ⟨ht.trans q1, q2⟩
 split at h
 ·simp at h
 split at h
 ·simp at h
 ·cases h; exact ⟨ht, ZbD (by simp [setN]) (by simp [setN]) rfl⟩
theorem Zwq : ∀ (k : Nat) (kids : List Z9) (s : St) (n : Z9) (s' : St), (∀ x ∈ kids, Gr s.gr s.rf x) → Zd8 P k kids s = .ok n s' → Ext s s' ∧ Gr s'.gr s'.rf n := by
 intro k
 induction k with
 | zero => intro kids s n s' _ e; simp [Zd8] at e
 | succ k ih =>
  intro kids s n s' hk e
  unfold Zd8 at e
  split at e
  ·cases e; exact ⟨.same rfl rfl, ZrW 2 (.inl rfl) kids hk⟩
  obtain ⟨m, s1, h1, e⟩ := bind_ok e
  obtain ⟨n2, s2, h2, e⟩ := bind_ok e
  obtain ⟨q1, q2⟩ := ZCm M h1
  have q3 : Ext s1 s2 := .same (ZH1 h2) (ZH3 h2)
  have q4 : Gr s2.gr s2.rf n2 := by
   obtain ⟨q, rfl, _⟩ := ZHP h2
   cases q with
   | none => exact Gr.mono q3 q2
   | some q => exact .node _ (by simp [mkQ]) (by simp [mkQ]) (by simp only [mkQ, Z5C, ZoO, or_false]; rintro x rfl; exact Gr.mono q3 q2)
  obtain ⟨q5, q6⟩ := ih _ _ _ _ (by
   intro x hx
   rcases Z9P.1 hx with hx | hx
   ·exact Gr.mono (q1.trans q3) (hk x hx)
   ·simp at hx; subst hx; exact q4) e
  exact ⟨(q1.trans q3).trans q5, q6⟩
theorem ZCl : ∀ (k : Nat) (kids : List Z9) (s : St) (n : Z9) (s' : St), (∀ x ∈ kids, Gr s.gr s.rf x) → Zgq P k kids s = .ok n s' → Ext s s' ∧ Gr s'.gr s'.rf n := by
 intro k
 induction k with
 | zero => intro kids s n s' _ e; simp [Zgq] at e
 | succ k ih =>
  intro kids s n s' hk e
  unfold Zgq at e
  split at e
  ·cases e; exact ⟨.same rfl rfl, ZrW 3 (.inr rfl) kids hk⟩
  rename_i s1 hw
  have q0 : Ext s s1 := .same (Z8y hw) (Z95 hw)
  obtain ⟨n2, s2, h2, e⟩ := bind_ok e
  obtain ⟨q1, q2⟩ := Zwq M _ _ _ _ _ (by simp) h2
  obtain ⟨q5, q6⟩ := ih _ _ _ _ (by
   intro x hx
   rcases Z9P.1 hx with hx | hx
   ·exact Gr.mono (q0.trans q1) (hk x hx)
   ·simp at hx; subst hx; exact q2) e
  exact ⟨(q0.trans q1).trans q5, q6⟩
theorem ZsG {s s' : St} {n : Z9} (h : Zgp P s = .ok n s') : Ext s s' ∧ Gr s'.gr s'.rf n := by
 unfold Zgp at h
 obtain ⟨n2, s2, h2, e⟩ := bind_ok h
 obtain ⟨q1, q2⟩ := Zwq M _ _ _ _ _ (by simp) h2
 obtain ⟨q5, q6⟩ := ZCl M _ _ _ _ _ (by simpa using q2) e
 exact ⟨q1.trans q5, q6⟩
end
theorem Zwl : ∀ (d : Nat) (s : St) (v : Z9) (s' : St), pAlt d s = .ok v s' → Ext s s' ∧ Gr s'.gr s'.rf v := by
 intro d
 induction d with
 | zero => intro s v s' h; exact ZsG (P := fun p _ => .bad 25 p) (by intro p s v s' e; simp at e) h
 | succ d ih =>
  intro s v s' h
  refine ZsG (P := fun p s => Zff (pAlt d) p s) ?_ h
  clear h
  intro p s v s' h
  unfold Zff at h
  obtain ⟨n0, s1, h1, h⟩ := bind_ok h
  obtain ⟨kid, s2, h2, h⟩ := bind_ok h
  obtain ⟨q1, q2⟩ := ih _ _ _ h2
  split at h
  ·simp at h
  rename_i s3 hw
  have q3 : Ext s2 s3 := .same (Z8y hw) (Z95 hw)
  have q4 := Gr.mono q3 q2
  have go : Ext s s1 → (n0.Kind = 0 ∨ (n0.Kind ≠ 5 ∧ n0.Kind ≠ 6) ∨ (n0 = ⟨5, 0, 0, 0, s1.gr, [], []⟩)) → Ext s s' ∧ Gr s'.gr s'.rf v.1 := by
   intro q0 hk
   split at h
   ·cases h; exact ⟨(q0.trans q1).trans q3, q4⟩
   ·rename_i hk0
    cases h
    refine ⟨(q0.trans q1).trans q3, ?_⟩
    rcases hk with hk | ⟨h5, h6⟩ | rfl
    ·exact absurd hk hk0
    ·exact .node _ h5 h6 (by intro x hx; simp at hx; subst hx; exact q4)
    ·exact .group _ _ (show s1.gr ≤ s'.gr by have := q1.1; have := q3.1; omega) q4
  unfold Zsx at h1
  split at h1
  ·rename_i t hw; cases h1; exact go (.same (Z8y hw) (Z95 hw)) (.inr (.inl (by simp)))
  split at h1
  ·rename_i t hw; cases h1; exact go (.same (Z8y hw) (Z95 hw)) (.inr (.inl (by simp)))
  split at h1
  ·rename_i t hw; cases h1; exact go (.same (Z8y hw) (Z95 hw)) (.inr (.inl (by simp)))
  split at h1
  ·rename_i t hw; cases h1; exact go (.same (Z8y hw) (Z95 hw)) (.inr (.inl (by simp)))
  split at h1
  ·rename_i t hw; cases h1; exact go (.same (Z8y hw) (Z95 hw)) (.inr (.inl (by simp)))
  split at h1
  ·rename_i t hw; cases h1; exact go (.same (Z8y hw) (Z95 hw)) (.inl rfl)
  split at h1
  ·simp at h1
  split at h1
  ·simp at h1
  ·cases h1
   exact go ⟨by show s.gr ≤ s.gr + 1; omega, [], by simp⟩ (.inr (.inr rfl))
theorem ZD6 {x : ByteArray} (h : (Z4j x).2.Code = 0) : 0 ≤ (Z4j x).1.Groups ∧ ∃ R, Gr (Z4j x).1.Groups R (Z4j x).1.Root ∧ (∀ b ∈ R, b.group ≤ (Z4j x).1.Groups) := by
 unfold Z4j at h ⊢
 split at h
 ·simp at h
 rename_i hx
 rw [if_neg hx]
 have key : ∀ (fold : Bool) (s : St), (pEnd fold (pAlt 32 s)).2.Code = 0 → (∀ c p, pAlt 32 s = .bad c p → c ≠ 0) → 0 ≤ s.gr → 0 ≤ (pEnd fold (pAlt 32 s)).1.Groups ∧ ∃ R, Gr (pEnd fold (pAlt 32 s)).1.Groups R (pEnd fold (pAlt 32 s)).1.Root ∧ (∀ b ∈ R, b.group ≤ (pEnd fold (pAlt 32 s)).1.Groups) := by
  intro fold s hc hb h0
  obtain ⟨n, s2, e, _, hf, e2⟩ := Zs5 hc hb
  rw [e2]
  refine ⟨by have := (Zwl 32 s n s2 e).1.1; show 0 ≤ s2.gr; omega, s2.rf, (Zwl 32 s n s2 e).2, fun b hb => ?_⟩
  rw [ZyB] at hf
  have := hf b hb
  simp at this
  exact this
 have hx' : (bytes x).length ≤ 256 := by
  change ¬ 256 < (bytes x).length at hx
  omega
 change (ZaX (unis (bytes x))).2.Code = 0 at h
 show 0 ≤ (ZaX (unis (bytes x))).1.Groups ∧ ∃ R, Gr (ZaX (unis (bytes x))).1.Groups R (ZaX (unis (bytes x))).1.Root ∧ (∀ b ∈ R, b.group ≤ (ZaX (unis (bytes x))).1.Groups)
 generalize bytes x = l at hx' h ⊢
 have hat : At l ⟨unis l, 0, 0, []⟩ := ⟨0, by omega, rfl, rfl⟩
 have hi : Inv l ⟨unis l, 0, 0, []⟩ := ⟨hat, by simp, by simp, by have := hat.len; simp only [] at this; simp; omega⟩
 have hbad : ∀ s, Inv l s → ∀ c p, pAlt 32 s = .bad c p → c ≠ 0 := by
  intro s hs c p hp
  have := Znj (l := l) (by omega) 32 0 (by omega) (by omega) s hs
  rw [hp] at this
  exact this.1
 unfold ZaX at h ⊢
 split at h
 ·rename_i s1 hw
  exact key true s1 h (hbad s1 (((Z2u wFo hat (by omega) hw).2.1.mv hi).inv hi)) (by rw [Z8y hw]; exact ZcB _)
 ·rename_i hw
  exact key false _ h (hbad _ hi) (ZcB _)
def InsG (g : Int) (i : Zm) : Prop := (i.Op = 1 → ∃ l, Z2R l ∧ i.Set = l.map ofR) ∧ (i.Op = 4 → 0 ≤ i.A ∧ i.A < 2 * g + 2) ∧ (i.Op = 5 → 1 ≤ i.A ∧ i.A ≤ g)
theorem Zwy (g : Int) : Al (InsG g) where
 mv := by
  intro a l i ⟨h1, h2, h3⟩
  have hs : (mv a l i).Set = i.Set := by
   unfold mv
   repeat' split
   all_goals rfl
  have hA : i.Op = 4 ∨ i.Op = 5 → (mv a l i).A = i.A := by
   intro h
   unfold mv
   rw [if_neg (by omega), if_neg (by omega), if_neg (by omega), if_neg (by omega)]
  refine ⟨?_, ?_, ?_⟩
  ·rw [Zjs, hs]; exact h1
  ·rw [Zjs]; intro e; rw [hA (.inl e)]; exact h2 e
  ·rw [Zjs]; intro e; rw [hA (.inr e)]; exact h3 e
 sp := fun a b => by simp [InsG, sp]
 jp := fun a => by simp [InsG, jp]
 mq := fun a => by simp [InsG, mk]
 gd := fun a => by simp [InsG, gd]
 dn := by simp [InsG, dn]
 wi := by
  intro op a b c e h
  exact ⟨fun q => absurd q (by show ¬ op = 1; omega), fun q => absurd q (by show ¬ op = 4; omega), fun q => absurd q (by show ¬ op = 5; omega)⟩
theorem ZeB {g : Int} {R : List Zz} {n : Z9} (h : Gr g R n) : (∀ x ∈ n.Kids, Gr g R x) ∧ (n.Kind = 5 → n.Ref ≤ g) ∧ (n.Kind = 6 → ∃ b ∈ R, b.group = n.Ref) := by
 cases h with
 | back r b hb he => exact ⟨by simp, by simp, fun _ => ⟨b, hb, he⟩⟩
 | group r x hr hx => exact ⟨by simpa using hx, fun _ => hr, by simp⟩
 | node n h5 h6 h => exact ⟨h, fun e => absurd e h5, fun e => absurd e h6⟩
theorem ZHa {fold : Bool} {g : Int} {R : List Zz} (hR : ∀ b ∈ R, b.group ≤ g) {n : Z9} {p : Cp} (h : Cd fold ZeW n p) : Gr g R n → ∀ i ∈ p.1, InsG g i := by
 have h0 := Zwy g
 induction h with
 | none => intro _; exact all_nil
 | set l hl =>
  intro _
  refine all_cons ⟨fun _ => ?_, by simp, by simp⟩ all_nil
  cases fold with
  | true => exact ⟨ZeW l, Zms hl, rfl⟩
  | false => exact ⟨l, hl, rfl⟩
 | cat l P _ hP _ ih =>
  intro hg
  exact h0.seq (Zd5 (R := fun _ _ => True) hP fun i x p hx hp => ih i x p hx hp ((ZeB hg).1 x (q7_ hx)))
 | alt l P y q _ _ hP _ _ ih ih2 =>
  intro hg
  have hg := (ZeB hg).1
  exact ZfB (h0.pre (Zd5 (R := fun _ _ => True) hP fun i x p hx hp => ih i x p hx hp (hg x (ZoK _ (q7_ hx)))) _) (h0.mvL (ih2 (hg y (by simp))))
 | rep lo hi m x p _ _ _ _ ih => intro hg; exact h0.rep (ih ((ZeB hg).1 x (by simp)))
 | repA lo hi x p _ _ _ ih => intro hg; exact h0.wit (.inr rfl) (h0.rep (ih ((ZeB hg).1 x (by simp))))
 | group r x p hr _ ih =>
  intro hg
  obtain ⟨g1, g2, _⟩ := ZeB hg
  have g2 := g2 rfl
  simp only at g2
  have sv' : ∀ a, 0 ≤ a ∧ a < 2 * g + 2 → InsG g (sv a) := fun a h => ⟨by simp [sv], fun _ => h, by simp [sv]⟩
  exact all_cons (sv' _ (by omega)) (ZfB (h0.mvL (ih (g1 x (by simp)))) (all_cons (sv' _ (by omega)) all_nil))
 | back r hr =>
  intro hg
  obtain ⟨b, hb, he⟩ := (ZeB hg).2.2 rfl
  have := hR b hb
  simp only at he
  exact all_cons ⟨by simp, by simp, fun _ => ⟨hr.1, by show r ≤ g; omega⟩⟩ all_nil
 | look m x p v _ _ _ ih => intro hg; exact h0.wit (.inl rfl) (ih ((ZeB hg).1 x (by simp)))
 | atomic x p _ ih => intro hg; exact h0.wit (.inr rfl) (ih ((ZeB hg).1 x (by simp)))
 | edge k _ => intro _; exact all_cons (by simp [InsG]) all_nil
end Go.Proofs.YtocikhhkicahoaaDoor.N2
end
