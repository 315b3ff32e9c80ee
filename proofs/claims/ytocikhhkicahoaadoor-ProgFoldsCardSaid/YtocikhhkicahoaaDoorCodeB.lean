/- Sizes of programs; what holds of their instructions. No condition. -/
import Derived.Test.YtocikhhkicahoaaDoorCodeA
import Derived.Test.YtocikhhkicahoaaDoorPlainC

set_option linter.unusedSimpArgs false
set_option linter.unusedVariables false
set_option linter.defProp false
section
namespace Go.Proofs.YtocikhhkicahoaaDoor.N2
open Go Go.Abs Go.Proofs.Unis Go.Proofs.Norm
set_option maxRecDepth 100000
theorem Zx2 {α β γ : Type} {R : α → β → γ → Prop} : ∀ (l : List α) (P : List β), P.length = l.length → (∀ (i : Nat) x p, l[i]? = some x → P[i]? = some p → ∃ v, R x p v) → ∃ V : List γ, V.length = l.length ∧ ∀ (i : Nat) x p v, l[i]? = some x → P[i]? = some p → V[i]? = some v → R x p v
 | [], _, _, _ => ⟨[], rfl, by simp⟩
 | x :: l, [], h, _ => by simp at h
 | x :: l, p :: P, h, hR => by
  obtain ⟨v, hv⟩ := hR 0 x p rfl rfl
  obtain ⟨V, h1, h2⟩ := Zx2 l P (by simpa using h) fun i y q hy hq => hR (i + 1) y q (by simpa using hy) (by simpa using hq)
  refine ⟨v :: V, by simp [h1], fun i y q u hy hq hu => ?_⟩
  cases i with
  | zero => simp at hy hq hu; subst hy hq hu; exact hv
  | succ i => exact h2 i y q u (by simpa using hy) (by simpa using hq) (by simpa using hu)
theorem ZzK : ∀ (P : List Cp) (V : List Sh) (c : Sh) (k : Nat), V.length = P.length → (∀ (i : Nat) p v, P[i]? = some p → V[i]? = some v → v.sz = min (p.1.length : Int) 1048576) → c.sz = min (k : Int) 1048576 → (V.foldl catS c).sz = min ((k : Int) + (seqC P).1.length) 1048576
 | [], [], c, k, _, _, hc => by simp [seqC, hc]
 | [], _ :: _, _, _, h, _, _ => by simp at h
 | _ :: _, [], _, _, h, _, _ => by simp at h
 | p :: P, v :: V, c, k, h, hR, hc => by
  have h0 := hR 0 p v rfl rfl
  rw [ZdG, ZzK P V (catS c v) (k + p.1.length) (by simpa using h) (fun i q u hq hu => hR (i + 1) q u (by simpa using hq) (by simpa using hu)) (by show min (c.sz + v.sz) 1048576 = _; omega)]
  simp only [seqC, q3_, Z1w]
  omega
theorem ZzB : ∀ (P : List Cp) (V : List Sh) (c : Sh) (k : Nat), V.length = P.length → (∀ (i : Nat) p v, P[i]? = some p → V[i]? = some v → v.sz = min (p.1.length : Int) 1048576) → c.sz = min (k : Int) 1048576 → (V.foldl altS c).sz = min ((k : Int) + (seqC P).1.length) 1048576
 | [], [], c, k, _, _, hc => by simp [seqC, hc]
 | [], _ :: _, _, _, h, _, _ => by simp at h
 | _ :: _, [], _, _, h, _, _ => by simp at h
 | p :: P, v :: V, c, k, h, hR, hc => by
  have h0 := hR 0 p v rfl rfl
  rw [ZdG, ZzB P V (altS c v) (k + p.1.length) (by simpa using h) (fun i q u hq hu => hR (i + 1) q u (by simpa using hq) (by simpa using hu)) (by show min (c.sz + v.sz) 1048576 = _; omega)]
  simp only [seqC, q3_, Z1w]
  omega
theorem ZIc (P : List Cp) : ∀ e, (preC e P).1.length = (seqC P).1.length + 2 * P.length := by
 induction P with
 | nil => intro e; rfl
 | cons p P ih =>
  intro e
  have := ih (e - (p.1.length + 2))
  simp only [preC, seqC, q3_, q5_, Z1w, this]
  omega
theorem ZIe (p : Cp) : ∀ m : Nat, (seqC (List.replicate m p)).1.length = m * p.1.length := by
 intro m
 induction m with
 | zero => simp [seqC]
 | succ m ih =>
  rw [List.replicate_succ, seqC]
  simp only [q3_, Z1w, ih, Z9X]
  omega
theorem ZCG (z : Bool) (p : Cp) : ∀ (m : Nat) (e : Int), (optC z p e m).1.length = m * (p.1.length + 1) := by
 intro m
 induction m with
 | zero => intro e; simp [optC]
 | succ m ih =>
  intro e
  simp only [optC, q3_, q5_, Z1w, ih, Z9X]
  omega
theorem Zxu {lo hi : Int} {z : Bool} {p : Cp} (h1 : 0 ≤ lo ∧ lo ≤ 64) (h2 : hi = -1 ∨ (lo ≤ hi ∧ hi ≤ 64)) :
  ((repC lo hi z p).1.length : Int) = lo * p.1.length + (if hi < 0 then (p.1.length : Int) + 4 else (hi - lo) * (p.1.length + 1)) := by
 have hlo : ((lo.toNat * p.1.length : Nat) : Int) = lo * p.1.length := by rw [Int.natCast_mul, Int.toNat_of_nonneg h1.1]
 unfold repC
 rw [Zxy]
 simp only [q3_, Z1w, ZIe]
 by_cases hh : hi < 0
 ·simp only [hh, if_true, ZbC, q3_, q5_, q9_, Z1w]
  omega
 ·have hq : (((hi - lo).toNat * (p.1.length + 1) : Nat) : Int) = (hi - lo) * (p.1.length + 1) := by rw [Int.natCast_mul, Int.toNat_of_nonneg (by omega)]; rfl
  simp only [hh, if_false, ZCG]
  omega
theorem Zxv {lo hi m s : Int} {k : Nat} (h1 : 0 ≤ lo ∧ lo ≤ 64) (h2 : hi = -1 ∨ (lo ≤ hi ∧ hi ≤ 64)) (hs : s = min (k : Int) 1048576) :
  repZ lo hi m s = min (lo * k + (if hi < 0 then (k : Int) + 4 else (hi - lo) * (k + 1)) + (if m = 2 then 2 else 0)) 1048576 := by
 unfold repZ
 by_cases hk : (k : Int) ≤ 1048576
 ·rw [show s = (k : Int) by omega]
 ·have hs' : s = 1048576 := by omega
  subst hs'
  have hm : (0 : Int) ≤ if m = 2 then 2 else 0 := by split <;> omega
  generalize (if m = 2 then (2 : Int) else 0) = t at *
  by_cases hlo : 1 ≤ lo
  ·have a1 := Int.mul_le_mul hlo (ZdJ (1048576 : Int)) (by omega) (by omega)
   have a2 := Int.mul_le_mul hlo (show (1048576 : Int) ≤ k by omega) (by omega) (by omega)
   by_cases hh : hi < 0
   ·simp only [hh, if_true]; omega
   ·have b1 := Int.mul_nonneg (show 0 ≤ hi - lo by omega) (show (0 : Int) ≤ 1048576 + 1 by omega)
    have b2 := Int.mul_nonneg (show 0 ≤ hi - lo by omega) (show (0 : Int) ≤ (k : Int) + 1 by omega)
    simp only [hh, if_false]; omega
  ·obtain rfl : lo = 0 := by omega
   by_cases hh : hi < 0
   ·simp only [hh, if_true]; omega
   ·simp only [hh, if_false]
    by_cases h0 : hi = 0
    ·subst h0; simp
    ·have b1 := Int.mul_le_mul (show 1 ≤ hi - 0 by omega) (ZdJ (1048576 + 1 : Int)) (by omega) (by omega)
     have b2 := Int.mul_le_mul (show 1 ≤ hi - 0 by omega) (show (1048576 + 1 : Int) ≤ (k : Int) + 1 by omega) (by omega) (by omega)
     omega
theorem ZwX (P : List Cp) (q : Cp) : (seqC (P ++ [q])).1.length = (seqC P).1.length + q.1.length := by
 induction P with
 | nil => simp [seqC, ZbU]
 | cons d P ih => simp only [ZbI, seqC, q3_, Z1w, ih]; omega
theorem ZIi {fold : Bool} {ff : List R2 → List R2} {n : Z9} {p : Cp} (h : Cd fold ff n p) : ∃ v, Shp n v ∧ v.sz = min (p.1.length : Int) 1048576 := by
 have kids : ∀ {l : List Z9} {P : List Cp}, P.length = l.length → (∀ (i : Nat) (x : Z9) (p : Cp), l[i]? = some x → P[i]? = some p → ∃ v, Shp x v ∧ v.sz = min (p.1.length : Int) 1048576) →
   ∃ V : List Sh, V.length = l.length ∧ (∀ (i : Nat) (x : Z9) (v : Sh), l[i]? = some x → V[i]? = some v → Shp x v) ∧ ∀ (i : Nat) p v, P[i]? = some p → V[i]? = some v → v.sz = min (p.1.length : Int) 1048576 := by
  intro l P hP hR
  obtain ⟨V, q1, q2⟩ := Zx2 l P hP hR
  refine ⟨V, q1, fun i x v hx hv => ?_, fun i p v hp hv => ?_⟩
  ·have hil := (q2_.1 hx).1
   exact (q2 i x _ v hx (q4_ (by omega)) hv).1
  ·have hil := (q2_.1 hp).1
   exact (q2 i _ p v (q4_ (by omega)) hp hv).2
 induction h with
 | none => exact ⟨_, .none, by decide⟩
 | set l _ => exact ⟨_, .set l, by simp only [q5_, q9_]; omega⟩
 | cat l P hl hP _ ih =>
  obtain ⟨V, q1, q2, q3⟩ := kids hP ih
  refine ⟨_, .cat l V hl q1 q2, ?_⟩
  rw [ZzK P V cat0 0 (by omega) q3 rfl]
  simp
 | alt l P y q h0 hl hP _ _ ih ih2 =>
  obtain ⟨V, q1, q2, q3⟩ := kids hP ih
  obtain ⟨w, w1, w2⟩ := ih2
  refine ⟨_, .alt (l ++ [y]) (V ++ [w]) (by simpa using hl) ?_ (by simp [q1]) ?_, ?_⟩
  ·rw [q3_, Zje]; omega
  ·intro i x v hx hv
   by_cases hi : i < l.length
   ·rw [Znq hi] at hx
    rw [Znq (by omega)] at hv
    exact q2 i x v hx hv
   ·rw [Zkc (by omega)] at hx
    rw [Zkc (by omega), q1] at hv
    cases hj : i - l.length with
    | zero => rw [hj] at hx hv; simp at hx hv; subst hx hv; exact w1
    | succ j => rw [hj] at hx; simp at hx
  ·have e := ZzB (P ++ [q]) (V ++ [w]) alt0 0 (by simp [q1, hP]) (by
    intro i p v hp hv
    by_cases hi : i < P.length
    ·rw [Znq hi] at hp
     rw [Znq (by omega)] at hv
     exact q3 i p v hp hv
    ·rw [Zkc (by omega)] at hp
     rw [Zkc (by omega), show V.length = P.length by omega] at hv
     cases hj : i - P.length with
     | zero => rw [hj] at hp hv; simp at hp hv; subst hp hv; exact w2
     | succ j => rw [hj] at hp; simp at hp) rfl
   have e2 : (seqC (P ++ [q])).1.length = (seqC P).1.length + q.1.length := by
    exact ZwX P q
   simp only [altC, e, e2, q3_, Z1w, ZIc, Zje]
   omega
 | rep lo hi m x p h1 h2 hm _ ih =>
  obtain ⟨v, v1, v2⟩ := ih
  refine ⟨_, .rep lo hi m x v h1 h2 v1, ?_⟩
  rw [Zxu h1 h2]
  refine (Zxv h1 h2 v2).trans ?_
  rw [if_neg hm]
  simp
 | repA lo hi x p h1 h2 _ ih =>
  obtain ⟨v, v1, v2⟩ := ih
  refine ⟨_, .rep lo hi 2 x v h1 h2 v1, ?_⟩
  refine (Zxv h1 h2 v2).trans ?_
  have := Zxu (z := false) (p := p) h1 h2
  simp only [Z6t, q3_, q5_, q9_, Z1w, if_true]
  omega
 | group r x p _ _ ih =>
  obtain ⟨v, v1, v2⟩ := ih
  refine ⟨_, .group r x v v1, ?_⟩
  simp only [q3_, q5_, q9_, Z1w]
  omega
 | back r _ => exact ⟨_, .back r, by simp only [q5_, q9_]; omega⟩
 | look m x p u _ _ _ ih =>
  obtain ⟨v, v1, v2⟩ := ih
  refine ⟨_, .look m x v v1, ?_⟩
  simp only [Z6t, q3_, q5_, q9_, Z1w]
  omega
 | atomic x p _ ih =>
  obtain ⟨v, v1, v2⟩ := ih
  refine ⟨_, .atomic x v v1, ?_⟩
  simp only [Z6t, q3_, q5_, q9_, Z1w]
  omega
 | edge k _ => exact ⟨_, .edge k, by simp only [q5_, q9_]; omega⟩
def mt : Zo := ⟨0, 0, 0, 0, 0, []⟩
def whole (p : Cp) : List Zo := sv 0 :: (mvL 1 0 p.1 ++ [sv 1, mt])
theorem ZD5 (p : Cp) : (whole p).length = p.1.length + 3 := by simp [whole, Z1w]
theorem Zox {n : Z9} {v : Sh} (hv : Shp n v) (h : chkF v ≠ 0) (g : Int) (f : Bool) : Z9l ⟨n, g, f⟩ = some ([], chkF v) := by
 apply ZhT
 unfold ZaX
 rw [Zsm hv, ZW, if_pos (by simpa using h)]
theorem ZhX {n : Z9} {v : Sh} {p : Cp} {f : Bool} (hv : Shp n v) (h : chkF v = 0) (hp : Cd f Z8J n p) (hs : v.sz = min (p.1.length : Int) 1048576) (g : Int) : p.1.length ≤ 1997 ∧ Z9l ⟨n, g, f⟩ = some (whole p, 0) := by
 have hb : p.1.length ≤ 1997 := by
  unfold chkF at h
  split at h
  ·simp at h
  split at h
  ·simp at h
  ·omega
 refine ⟨hb, ?_⟩
 obtain ⟨_, k2⟩ := ZFn hp
 apply ZhT
 unfold ZaX
 rw [Zsm hv, ZW, h, if_neg (by simp)]
 unfold ZaH
 rw [show (Zo.mk 4 0 0 0 0 []) = sv 0 from rfl, show (Zo.mk 4 1 0 0 0 []) = sv 1 from rfl, show (Zo.mk 0 0 0 0 0 []) = mt from rfl, Z8N _ _ (by simp), ZW]
 dsimp only
 rw [ZiJ (o := [] ++ [sv 0]) k2 (a := 1) (lp := 0) (by simp) (by simp; omega) (by omega), ZW]
 dsimp only
 rw [Z8N _ _ (by simp [Z1w]; omega), ZW]
 dsimp only
 rw [Z8N _ _ (by simp [Z1w]; omega), ZW]
 simp [whole]
theorem ZlM {x : ByteArray} (h : (Z4h x).2.Code ≠ 0) : Z2l x = some ([], (Z4h x).2.Code, 0) := by
 apply Zdq
 unfold Z7c
 rw [ZsE, ZW, if_pos (by simpa using h)]
theorem ZiI {x : ByteArray} (h : (Z4h x).2.Code = 0) {l : List Zo} {e : Int} (hc : Z9l (Z4h x).1 = some (l, e)) : Z2l x = some (l, 0, e) := by
 apply Zdq
 unfold Z7c Z7M
 rw [ZsE, ZW, if_neg (by simpa using h), hc]
 rfl
theorem ZlN {x : ByteArray} (h : (Z4h x).2.Code = 0) : ∃ v p, Shp (Z4h x).1.Root v ∧ Cd (Z4h x).1.Fold Z8J (Z4h x).1.Root p ∧ v.sz = min (p.1.length : Int) 1048576 ∧
  ((chkF v ≠ 0 ∧ Z2l x = some ([], 0, chkF v)) ∨ (chkF v = 0 ∧ p.1.length ≤ 1997 ∧ Z2l x = some (whole p, 0, 0))) := by
 have hg := Zzj h
 obtain ⟨p, hp⟩ := ZFe (Z4h x).1.Fold Z8J hg
 obtain ⟨v, hv, hs⟩ := ZIi hp
 refine ⟨v, p, hv, hp, hs, ?_⟩
 by_cases hc : chkF v = 0
 ·obtain ⟨h1, h2⟩ := ZhX hv hc hp hs (Z4h x).1.Groups
  exact .inr ⟨hc, h1, ZiI h h2⟩
 ·exact .inl ⟨hc, ZiI h (Zox hv hc _ _)⟩
def marks (l : List Zo) : Nat := l.countP (fun i => i.Op == 10)
theorem Zz7 (l : List Zo) (hl : l.length ≤ 1000000) : ∀ (m i : Nat) (c : Int), i + m = l.length → 0 ≤ c ∧ c ≤ i → Zaj c l (l.length : Int) (i : Int) = some (c + marks (l.drop i)) := by
 intro m
 induction m with
 | zero =>
  intro i c h hc
  apply Zh4
  unfold Zad Zc3
  rw [if_neg (Z25 (by omega)), Zgq (by omega)]
  simp [marks]
 | succ m ih =>
  intro i c h hc
  have hil : i < l.length := by omega
  apply Zh4
  unfold Zad Zc2 Zae
  rw [if_pos (Z2j (by omega)), Z3X, q4_ hil, ZW, wrap_i64 (n := c + 1) (by omega) (by omega), wrap_i64 (n := (i : Int) + 1) (by omega) (by omega), Zgr hil]
  have e1 := ih (i + 1) (c + 1) (by omega) (by omega)
  have e2 := ih (i + 1) c (by omega) (by omega)
  have hm : marks (l[i] :: l.drop (i + 1)) = marks (l.drop (i + 1)) + if l[i].Op = 10 then 1 else 0 := by
   simp only [marks, List.countP_cons]
   simp
  rw [hm]
  by_cases ho : l[i].Op = 10
  ·rw [if_pos (Z29 ho), if_pos ho]
   refine e1.trans ?_
   congr 1
   omega
  ·rw [if_neg (Z28 ho), if_neg ho]
   refine e2.trans ?_
   congr 1
theorem ZCj (l : List Zo) (hl : l.length ≤ 1000000) : Zfb l = some (marks l : Int) := by
 apply ZqS
 unfold Zf4
 have := Zz7 l hl l.length 0 0 (by omega) (by omega)
 rw [Zsf] at this
 refine this.trans ?_
 simp
theorem ZxH : Z8g = some true := by
 have e1 : (Z4h (ByteArray.mk #[97, 124, 98])) = (⟨⟨3, 0, 0, 0, 0, [], [setN [(97, 97)]] ++ [setN [(98, 98)]]⟩, 0, false⟩, ⟨0, 0⟩) := by rfl
 have e2 : (Z4h (ByteArray.mk #[97, 42])) = (⟨⟨4, 0, -1, 0, 0, [], [setN [(97, 97)]]⟩, 0, false⟩, ⟨0, 0⟩) := by rfl
 have nn : ∀ u : Int, 0 ≤ u → u ≤ 1000 → Z2N [(u, u)] := fun u h1 h2 => Zis ⟨h1, ZdJ _, by simp only []; omega⟩
 have c1 : Cd false Z8J ⟨3, 0, 0, 0, 0, [], [setN [(97, 97)]] ++ [setN [(98, 98)]]⟩ _ := Cd.alt [setN [(97, 97)]] [([⟨1, 0, 0, 0, 0, [(97, 97)].map ofR⟩], 0)] (setN [(98, 98)]) _ (by simp) (by simp) rfl
  (by
   intro i x p hx hp
   cases i with
   | zero => simp at hx hp; subst hx hp; exact Cd.set [(97, 97)] (nn 97 (by omega) (by omega))
   | succ i => simp at hx) (Cd.set [(98, 98)] (nn 98 (by omega) (by omega)))
 have c2 : Cd false Z8J ⟨4, 0, -1, 0, 0, [], [setN [(97, 97)]]⟩ _ := Cd.rep 0 (-1) 0 _ _ (by omega) (.inl rfl) (by omega) (Cd.set [(97, 97)] (nn 97 (by omega) (by omega)))
 have v1 := ZF3 (Shp.set [(97, 97)]) (Shp.set [(98, 98)])
 have v2 := Shp.rep 0 (-1) 0 _ _ (by omega) (by omega) (Shp.set [(97, 97)])
 have m1 : Z2l (ByteArray.mk #[97, 124, 98]) = some (_, 0, 0) := ZiI (by rw [e1]) (by rw [e1]; exact (ZhX v1 (by decide) c1 (by decide) 0).2)
 have m2 : Z2l (ByteArray.mk #[97, 42]) = some (_, 0, 0) := ZiI (by rw [e2]) (by rw [e2]; exact (ZhX v2 (by decide) c2 (by decide) 0).2)
 apply Zi4
 unfold Z89 Z34
 rw [m1, ZW, m2, ZW]
 rw [if_neg (by decide), if_neg (by decide), if_neg (by decide), if_neg (by decide), if_neg (by decide), if_neg (by decide)]
 unfold Z72
 rw [ZCj _ (by decide)]
 rfl
end Go.Proofs.YtocikhhkicahoaaDoor.N2
end
section
namespace Go.Proofs.YtocikhhkicahoaaDoor.N2
open Go Go.Abs Go.Proofs.Unis Go.Proofs.Norm
set_option maxRecDepth 100000
structure Mo (φ : Zo → Zo) : Prop where
 mv : ∀ a l i, φ (mv a l i) = N2.mv a l (φ i)
 sp : ∀ a b, φ (sp a b) = N2.sp a b
 jp : ∀ a, φ (jp a) = N2.jp a
 mq : ∀ a, φ (mk a) = N2.mk a
 gd : ∀ a, φ (gd a) = N2.gd a
 dn : φ dn = N2.dn
 wi : ∀ op a b c e, op = 7 ∨ op = 8 → φ ⟨op, a, b, c, e, []⟩ = ⟨op, a, b, c, e, []⟩
def mapP (φ : Zo → Zo) (p : Cp) : Cp := (p.1.map φ, p.2)
theorem ZcJ (φ : Zo → Zo) (p : Cp) : (mapP φ p).1.length = p.1.length := by simp [mapP]
section
variable {φ : Zo → Zo} (h : Mo φ)
include h
theorem Mo.mvL (a l : Int) (c : List Zo) : (mvL a l c).map φ = N2.mvL a l (c.map φ) := by
 simp only [N2.mvL, Znu]
 exact Znr fun i _ => h.mv a l i
theorem Mo.spz (z : Bool) (a b : Int) : φ (spz z a b) = N2.spz z a b := by cases z <;> exact h.sp _ _
theorem Mo.seq (P : List Cp) : mapP φ (seqC P) = seqC (P.map (mapP φ)) := by
 induction P with
 | nil => rfl
 | cons d P ih =>
  rw [Z8S, seqC, seqC, ← ih]
  simp only [mapP, Zgu, h.mvL, Zax]
theorem Mo.pre (P : List Cp) : ∀ e, mapP φ (preC e P) = preC e (P.map (mapP φ)) := by
 induction P with
 | nil => intro e; rfl
 | cons d P ih =>
  intro e
  rw [Z8S, preC, preC, ZcJ, ← ih]
  simp only [mapP, Zgu, Z8S, h.mvL, h.sp, h.jp]
theorem Mo.alt (P : List Cp) (d : Cp) : mapP φ (altC P d) = altC (P.map (mapP φ)) (mapP φ d) := by
 unfold altC
 rw [← h.pre, ← h.pre, ZcJ, ZcJ]
 simp only [mapP, Zgu, h.mvL]
theorem Mo.opt (z : Bool) (d : Cp) : ∀ (m : Nat) (e : Int), mapP φ (optC z d e m) = optC z (mapP φ d) e m := by
 intro m
 induction m with
 | zero => intro e; rfl
 | succ m ih =>
  intro e
  rw [optC, optC, ZcJ, ← ih]
  simp only [mapP, Zgu, Z8S, h.mvL, h.spz]
theorem Mo.loop (z : Bool) (d : Cp) : mapP φ (ZbC z d) = ZbC z (mapP φ d) := by
 unfold ZbC
 rw [ZcJ]
 simp only [mapP, Zgu, Z8S, ZdH, h.mvL, h.spz, h.mq, h.gd, h.jp]
theorem Mo.rep (lo hi : Int) (z : Bool) (d : Cp) : mapP φ (repC lo hi z d) = repC lo hi z (mapP φ d) := by
 unfold repC
 rw [h.seq, Z8S, Z8S, ZdH, h.seq, List.map_replicate]
 by_cases hh : hi < 0
 ·simp only [hh, if_true, h.loop]
 ·simp only [hh, if_false, h.opt, ZCG, ZcJ]
theorem Mo.wit (op a c e : Int) (d : Cp) (ho : op = 7 ∨ op = 8) : mapP φ (Z6t op a c e d) = Z6t op a c e (mapP φ d) := by
 unfold Z6t
 rw [ZcJ]
 simp only [mapP, Zgu, Z8S, ZdH, h.mvL, h.dn, h.wi _ _ _ _ _ ho]
end
theorem Zxd {α : Type} {l : List α} {P : List Cp} {R : α → Cp → Prop} {φ : Cp → Cp} (h : ∀ (i : Nat) x p, l[i]? = some x → P[i]? = some p → R x (φ p)) : ∀ (i : Nat) x p, l[i]? = some x → (P.map φ)[i]? = some p → R x p := by
 intro i x p hx hp
 rw [q8_] at hp
 obtain ⟨q, hq, rfl⟩ := q6_.1 hp
 exact h i x q hx hq
def Z3K (i : Zo) : Zo := ⟨i.Op, i.A, if i.Op = 5 then 1 else i.B, i.C, i.D, if i.Op = 1 then (Z8J (i.Set.map toR)).map ofR else i.Set⟩
theorem ZxD (l : List R2) : (l.map ofR).map toR = l := by
 rw [Znu]
 exact List.map_id'' (fun _ => rfl) l
theorem Zbu : Mo Z3K where
 mv := by
  intro a l i
  unfold mv
  have hop : (Z3K i).Op = i.Op := rfl
  rw [hop]
  by_cases h2 : i.Op = 2
  ·simp [Z3K, h2]
  by_cases h3 : i.Op = 3
  ·simp [Z3K, h3]
  by_cases h7 : i.Op = 7 ∨ i.Op = 8
  ·have h5 : i.Op ≠ 5 := by omega
   have h1 : i.Op ≠ 1 := by omega
   simp [Z3K, h2, h3, h7, h5, h1]
  by_cases h10 : i.Op = 10 ∨ i.Op = 11
  ·have h5 : i.Op ≠ 5 := by omega
   have h1 : i.Op ≠ 1 := by omega
   simp [Z3K, h2, h3, h7, h10, h5, h1]
  ·simp [Z3K, h2, h3, h7, h10]
 sp := fun a b => by simp [Z3K, sp]
 jp := fun a => by simp [Z3K, jp]
 mq := fun a => by simp [Z3K, mk]
 gd := fun a => by simp [Z3K, gd]
 dn := by simp [Z3K, dn]
 wi := by
  intro op a b c e h
  have h5 : op ≠ 5 := by omega
  have h1 : op ≠ 1 := by omega
  simp [Z3K, h5, h1]
theorem ZF5 {n : Z9} {p : Cp} (h : Cd false Z8J n p) : Cd true Z8J n (mapP Z3K p) := by
 induction h with
 | none => exact .none
 | set l hl =>
  have := Cd.set (fold := true) (ff := Z8J) l hl
  have e : mapP Z3K ([⟨1, 0, 0, 0, 0, (if false = true then Z8J l else l).map ofR⟩], 0) = ([⟨1, 0, 0, 0, 0, (if true = true then Z8J l else l).map ofR⟩], 0) := by
   have q : (Z8J ((l.map ofR).map toR)).map ofR = (Z8J l).map ofR := by rw [ZxD]
   simpa [mapP, Z3K] using q
  rw [e]
  exact this
 | cat l P hl hP _ ih =>
  rw [Zbu.seq]
  exact .cat l _ hl (by simpa using hP) (Zxd ih)
 | alt l P y q h0 hl hP _ _ ih ih2 =>
  rw [Zbu.alt]
  exact .alt l _ y _ h0 hl (by simpa using hP) (Zxd ih) ih2
 | rep lo hi m x p h1 h2 hm _ ih => rw [Zbu.rep]; exact .rep lo hi m x _ h1 h2 hm ih
 | repA lo hi x p h1 h2 _ ih => rw [Zbu.wit _ _ _ _ _ (.inr rfl), Zbu.rep]; exact .repA lo hi x _ h1 h2 ih
 | group r x p hr _ ih =>
  have e : mapP Z3K (sv (2 * r) :: (mvL 1 0 p.1 ++ [sv (2 * r + 1)]), p.2) = (sv (2 * r) :: (mvL 1 0 (mapP Z3K p).1 ++ [sv (2 * r + 1)]), (mapP Z3K p).2) := by
   simp only [mapP, Z8S, Zgu, ZdH, Zbu.mvL]
   simp [Z3K, sv]
  rw [e]
  exact .group r x _ hr ih
 | back r hr =>
  have := Cd.back (fold := true) (ff := Z8J) r hr
  have e : mapP Z3K ([⟨5, r, if false = true then 1 else 0, 0, 0, []⟩], 0) = ([⟨5, r, if true = true then 1 else 0, 0, 0, []⟩], 0) := by simp [mapP, Z3K]
  rw [e]
  exact this
 | look m x p v hm hv _ ih => rw [Zbu.wit _ _ _ _ _ (.inl rfl)]; exact .look m x _ v hm hv ih
 | atomic x p _ ih => rw [Zbu.wit _ _ _ _ _ (.inr rfl)]; exact .atomic x _ ih
 | edge k hk =>
  have e : mapP Z3K ([⟨6, k, 0, 0, 0, []⟩], 0) = ([⟨6, k, 0, 0, 0, []⟩], 0) := by simp [mapP, Z3K]
  rw [e]
  exact .edge k hk
end Go.Proofs.YtocikhhkicahoaaDoor.N2
end
section
namespace Go.Proofs.YtocikhhkicahoaaDoor.N2
open Go Go.Abs Go.Proofs.Unis Go.Proofs.Norm
set_option maxRecDepth 100000
structure Al (Ψ : Zo → Prop) : Prop where
 mv : ∀ a l i, Ψ i → Ψ (mv a l i)
 sp : ∀ a b, Ψ (sp a b)
 jp : ∀ a, Ψ (jp a)
 mq : ∀ a, Ψ (mk a)
 gd : ∀ a, Ψ (gd a)
 dn : Ψ dn
 wi : ∀ op a b c e, op = 7 ∨ op = 8 → Ψ ⟨op, a, b, c, e, []⟩
section
variable {Ψ : Zo → Prop} (h : Al Ψ)
include h
theorem Al.mvL {a l : Int} {c : List Zo} (hc : ∀ i ∈ c, Ψ i) : ∀ i ∈ mvL a l c, Ψ i := by
 intro i hi
 obtain ⟨j, hj, rfl⟩ := Z6K.1 hi
 exact h.mv _ _ _ (hc j hj)
theorem Al.spz (z : Bool) (a b : Int) : Ψ (spz z a b) := by cases z <;> exact h.sp _ _
omit h in
theorem ZeB {c d : List Zo} (hc : ∀ i ∈ c, Ψ i) (hd : ∀ i ∈ d, Ψ i) : ∀ i ∈ c ++ d, Ψ i := fun i hi => (Zbc.1 hi).elim (hc i) (hd i)
omit h in
theorem all_cons {x : Zo} {d : List Zo} (hc : Ψ x) (hd : ∀ i ∈ d, Ψ i) : ∀ i ∈ x :: d, Ψ i := fun i hi => (Z6i.1 hi).elim (fun e => e ▸ hc) (hd i)
omit h in
theorem all_nil : ∀ i ∈ ([] : List Zo), Ψ i := by simp
theorem Al.seq {P : List Cp} (hP : ∀ p ∈ P, ∀ i ∈ p.1, Ψ i) : ∀ i ∈ (seqC P).1, Ψ i := by
 induction P with
 | nil => exact all_nil
 | cons d P ih => exact ZeB (hP d (ZbH ..)) (h.mvL (ih fun p hp => hP p (ZcP _ hp)))
theorem Al.pre {P : List Cp} (hP : ∀ p ∈ P, ∀ i ∈ p.1, Ψ i) : ∀ e, ∀ i ∈ (preC e P).1, Ψ i := by
 induction P with
 | nil => intro e; exact all_nil
 | cons d P ih =>
  intro e
  exact all_cons (h.sp _ _) (ZeB (h.mvL (hP d (ZbH ..))) (all_cons (h.jp _) (h.mvL (ih (fun p hp => hP p (ZcP _ hp)) _))))
theorem Al.opt {z : Bool} {d : Cp} (hd : ∀ i ∈ d.1, Ψ i) : ∀ (m : Nat) (e : Int), ∀ i ∈ (optC z d e m).1, Ψ i := by
 intro m
 induction m with
 | zero => intro e; exact all_nil
 | succ m ih => intro e; exact all_cons (h.spz _ _ _) (ZeB (h.mvL hd) (h.mvL (ih _)))
theorem Al.rep {lo hi : Int} {z : Bool} {d : Cp} (hd : ∀ i ∈ d.1, Ψ i) : ∀ i ∈ (repC lo hi z d).1, Ψ i := by
 unfold repC
 apply h.seq
 intro p hp
 simp only [Z6i, Zrl, or_false] at hp
 rcases hp with rfl | rfl
 ·exact h.seq fun q hq => by rw [List.eq_of_mem_replicate hq]; exact hd
 ·split
  ·exact all_cons (h.spz _ _ _) (all_cons (h.mq _) (ZeB (h.mvL hd) (all_cons (h.gd _) (all_cons (h.jp _) (all_nil)))))
  ·exact h.opt hd _ _
theorem Al.wit {op a c e : Int} {d : Cp} (ho : op = 7 ∨ op = 8) (hd : ∀ i ∈ d.1, Ψ i) : ∀ i ∈ (Z6t op a c e d).1, Ψ i :=
 all_cons (h.wi _ _ _ _ _ ho) (ZeB (h.mvL hd) (all_cons h.dn (all_nil)))
theorem Al.cd {fold : Bool} {ff : List R2 → List R2} (hs : ∀ l : List R2, Z2N l → Ψ ⟨1, 0, 0, 0, 0, (if fold = true then ff l else l).map ofR⟩) (hv : ∀ a, Ψ (sv a)) (hb : ∀ r, 1 ≤ r ∧ r ≤ 9 → Ψ ⟨5, r, if fold = true then 1 else 0, 0, 0, []⟩) (he : ∀ k, Ψ ⟨6, k, 0, 0, 0, []⟩)
  {n : Z9} {p : Cp} (hc : Cd fold ff n p) : ∀ i ∈ p.1, Ψ i := by
 induction hc with
 | none => exact all_nil
 | set l hl => exact all_cons (hs l hl) (all_nil)
 | cat l P _ hP _ ih => exact h.seq (Zir (R := fun _ _ => True) hP ih)
 | alt l P y q _ _ hP _ _ ih ih2 => exact ZeB (h.pre (Zir (R := fun _ _ => True) hP ih) _) (h.mvL ih2)
 | rep lo hi m x p _ _ _ _ ih => exact h.rep ih
 | repA lo hi x p _ _ _ ih => exact h.wit (.inr rfl) (h.rep ih)
 | group r x p _ _ ih => exact all_cons (hv _) (ZeB (h.mvL ih) (all_cons (hv _) (all_nil)))
 | back r hr => exact all_cons (hb r hr) (all_nil)
 | look m x p v _ _ _ ih => exact h.wit (.inl rfl) ih
 | atomic x p _ ih => exact h.wit (.inr rfl) ih
 | edge k _ => exact all_cons (he k) (all_nil)
end
def InsF (i : Zo) : Prop := (i.Op = 1 → ∃ l, Z2N l ∧ i.Set = l.map ofR) ∧ (i.Op ≠ 1 → i.Set = []) ∧ (i.Op = 5 → i.B = 0)
theorem Zx9 : Al InsF where
 mv := by
  intro a l i ⟨h1, h2, h3⟩
  have hs : (mv a l i).Set = i.Set := by
   unfold mv
   repeat' split
   all_goals rfl
  refine ⟨?_, ?_, ?_⟩
  ·rw [Zzd, hs]; exact h1
  ·rw [Zzd, hs]; exact h2
  ·rw [Zzd]
   intro h5
   have : mv a l i = i := by unfold mv; rw [if_neg (by omega), if_neg (by omega), if_neg (by omega), if_neg (by omega)]
   rw [this]
   exact h3 h5
 sp := fun a b => by simp [InsF, sp]
 jp := fun a => by simp [InsF, jp]
 mq := fun a => by simp [InsF, mk]
 gd := fun a => by simp [InsF, gd]
 dn := by simp [InsF, dn]
 wi := by
  intro op a b c e h
  exact ⟨fun h1 => absurd h1 (by show ¬ op = 1; omega), fun _ => rfl, fun h5 => absurd h5 (by show ¬ op = 5; omega)⟩
theorem ZFP {n : Z9} {p : Cp} (hc : Cd false Z8J n p) : ∀ i ∈ whole p, InsF i := by
 have sv' : ∀ a, InsF (sv a) := fun a => by simp [InsF, sv]
 have h := Zx9.cd (fold := false) (ff := Z8J) (fun l hl => ⟨fun _ => ⟨l, hl, rfl⟩, fun h => absurd rfl h, fun h => absurd h (by show ¬ (1 : Int) = 5; omega)⟩) sv' (fun r _ => by simp [InsF]) (fun k => by simp [InsF]) hc
 exact all_cons (sv' 0) (ZeB (Zx9.mvL h) (all_cons (sv' 1) (all_cons (by simp [InsF, mt]) (all_nil))))
theorem ZCO (s : List Z8) (hl : s.length ≤ 1000000) : ∀ (m i : Nat), i + m = s.length → Z5t s s (s.length : Int) (i : Int) = some true := by
 intro m
 induction m with
 | zero =>
  intro i h
  apply Zb0
  unfold Z5l
  rw [if_neg (Z25 (by omega))]
  rfl
 | succ m ih =>
  intro i h
  have hil : i < s.length := by omega
  apply Zb0
  unfold Z5l Z74 Z75
  rw [if_pos (Z2j (by omega)), Z3X, q4_ hil, ZW, ZW, if_neg (by simp), wrap_i64 (n := (i : Int) + 1) (by omega) (by omega)]
  exact ih (i + 1) (by omega)
theorem ZEh (s : List Z8) (hl : s.length ≤ 1000000) : Z8h s s = some true := by
 apply Zi6
 unfold Z8a Z73
 rw [if_neg (by simp)]
 exact ZCO s hl s.length 0 (by omega)
theorem Zz9 (x : ByteArray) : ∃ l f e, Z2l x = some (l, f, e) := by
 by_cases h : (Z4h x).2.Code = 0
 ·obtain ⟨v, p, _, _, _, h1⟩ := ZlN h
  rcases h1 with ⟨_, h1⟩ | ⟨_, _, h1⟩
  ·exact ⟨_, _, _, h1⟩
  ·exact ⟨_, _, _, h1⟩
 ·exact ⟨_, _, _, ZlM h⟩
theorem ZDF {us t : List Un} (h : isW [40, 63, 105, 41] us = some t) : ∃ a b c d, us = (40, a) :: (63, b) :: (105, c) :: (41, d) :: t := by
 rcases us with _ | ⟨⟨u1, a⟩, us⟩
 ·simp [isW] at h
 simp only [isW] at h
 split at h
 case isFalse => simp at h
 subst u1
 rcases us with _ | ⟨⟨u2, b⟩, us⟩
 ·simp at h
 simp only at h
 split at h
 case isFalse => simp at h
 subst u2
 rcases us with _ | ⟨⟨u3, c⟩, us⟩
 ·simp at h
 simp only at h
 split at h
 case isFalse => simp at h
 subst u3
 rcases us with _ | ⟨⟨u4, d⟩, us⟩
 ·simp at h
 simp only at h
 split at h
 case isFalse => simp at h
 subst u4
 cases h
 exact ⟨a, b, c, d, rfl⟩
theorem ZyY (a b c d : Int) (t : List Un) (pos : Int) : pAlt 32 ⟨(40, a) :: (63, b) :: (105, c) :: (41, d) :: t, pos, 0, []⟩ = .bad 20 pos := rfl
end Go.Proofs.YtocikhhkicahoaaDoor.N2
end
