/- What the parser gives is right; widths and sizes are in order. No condition. -/
import Derived.Test.YtocikhhkicahoaaDoorPlain
import Derived.Test.YtocikhhkicahoaaDoorTypB
import Derived.Test.YtocikhhkicahoaaDoorTypC

set_option linter.unusedSimpArgs false
set_option linter.unusedVariables false
set_option linter.defProp false
section
namespace Go.Proofs.YtocikhhkicahoaaDoor.N2
open Go Go.Abs Go.Proofs.Unis Go.Proofs.Norm
set_option maxRecDepth 100000
inductive Good : Zk → Prop
 | none : Good nd0
 | set (l : List R2) : Z2x l → Good (setN l)
 | row (k : Int) (l : List Zk) : k = 2 ∨ k = 3 → 2 ≤ l.length → l.length ≤ 3000 → (∀ x ∈ l, Good x) → Good ⟨k, 0, 0, 0, 0, [], l⟩
 | rep (lo hi m : Int) (x : Zk) : 0 ≤ lo ∧ lo ≤ 64 → hi = -1 ∨ (lo ≤ hi ∧ hi ≤ 64) → 0 ≤ m ∧ m ≤ 2 → Good x → Good ⟨4, lo, hi, m, 0, [], [x]⟩
 | group (r : Int) (x : Zk) : 1 ≤ r ∧ r ≤ 9 → Good x → Good ⟨5, 0, 0, 0, r, [], [x]⟩
 | back (r : Int) : 1 ≤ r ∧ r ≤ 9 → Good ⟨6, 0, 0, 0, r, [], []⟩
 | look (m : Int) (x : Zk) : 0 ≤ m ∧ m ≤ 3 → Good x → Good ⟨7, 0, 0, m, 0, [], [x]⟩
 | atomic (x : Zk) : Good x → Good ⟨8, 0, 0, 0, 0, [], [x]⟩
 | edge (k : Int) : 0 ≤ k ∧ k ≤ 3 → Good (edge k)
section
variable {l : List UInt8} (hl : l.length ≤ 1000) {d : Int} {P : Int → St → Out (Zk × Bool)} (HP : ∀ p s, Inv l s → AtmR l d s (P p s) (Z4W p (bl l) s.pos s.gr d s.rf 0 0))
 (HG : ∀ p s n s', Inv l s → P p s = .ok n s' → Good n.1)
end
end Go.Proofs.YtocikhhkicahoaaDoor.N2
end
section
namespace Go.Proofs.YtocikhhkicahoaaDoor.N2
open Go Go.Abs Go.Proofs.Unis Go.Proofs.Norm
set_option maxRecDepth 100000
def Wok (lo hi : Int) : Prop := 0 ≤ lo ∧ lo ≤ 1048576 ∧ -1 ≤ hi ∧ hi ≤ 1048576 ∧ (hi < 0 ∨ lo ≤ hi)
def sumF (a b : Int) : Int := if a < 0 ∨ b < 0 then -1 else if 1048576 < a + b then -1 else a + b
def ZkK (h n : Int) : Int := if h = 0 ∨ n = 0 then 0 else if h < 0 ∨ n < 0 then -1 else if 1048576 < h * n then -1 else h * n
theorem Zvc (h : Int) : Zci h = some (if 1048576 < h then -1 else h) := by
 apply Zqp
 unfold ZeO ZbN
 by_cases c : 1048576 < h
 ·rw [if_pos (Z2f c), if_pos c]
 ·rw [if_neg (Z21 c), if_neg c]
theorem ZEC (a b : Int) (ha : -1 ≤ a ∧ a ≤ 1048576) (hb : -1 ≤ b ∧ b ≤ 1048576) : Zgi a b = some (sumF a b) := by
 apply ZrG
 unfold Zgg sumF ZaN ZcJ
 by_cases h1 : a < 0
 ·rw [if_pos (Z2f h1), if_pos (.inl h1)]
 by_cases h2 : b < 0
 ·rw [if_neg (Z21 h1), if_pos (Z2f h2), if_pos (.inr h2)]
 rw [if_neg (Z21 h1), if_neg (Z21 h2), if_neg (show ¬ (a < 0 ∨ b < 0) by omega), wrap_i64 (by omega) (by omega), Zvc]
 rfl
theorem ZEB {a b l m : Int} (h1 : Wok l a) (h2 : Wok m b) : Wok (min (l + m) 1048576) (sumF a b) := by
 unfold Wok at *
 unfold sumF
 split
 ·omega
 split
 ·omega
 ·omega
theorem Zb6 {a b x y : Int} (h1 : 0 ≤ a ∧ a ≤ x) (h2 : 0 ≤ b ∧ b ≤ y) : 0 ≤ a * b ∧ a * b ≤ x * y :=
 ⟨Int.mul_nonneg h1.1 h2.1, Int.mul_le_mul h1.2 h2.2 h2.1 (Zn8 h1.1 h1.2)⟩
theorem ZBY (h n : Int) (hh : -1 ≤ h ∧ h ≤ 1048576) (hn : -1 ≤ n ∧ n ≤ 64) : Zbx h n = some (ZkK h n) := by
 apply ZoE
 unfold ZdP ZkK Z9m Zbf Z9n Zbg
 by_cases h1 : h = 0
 ·rw [if_pos (Z2i h1), if_pos (.inl h1)]
 by_cases h2 : n = 0
 ·rw [if_neg (Z2b h1), if_pos (Z2i h2), if_pos (.inr h2)]
 rw [if_neg (Z2b h1), if_neg (Z2b h2), if_neg (show ¬ (h = 0 ∨ n = 0) by omega)]
 by_cases h3 : h < 0
 ·rw [if_pos (Z2f h3), if_pos (.inl h3)]
 by_cases h4 : n < 0
 ·rw [if_neg (Z21 h3), if_pos (Z2f h4), if_pos (.inr h4)]
 have hb := Zb6 (a := h) (b := n) (x := 1048576) (y := 64) (by omega) (by omega)
 rw [if_neg (Z21 h3), if_neg (Z21 h4), if_neg (show ¬ (h < 0 ∨ n < 0) by omega), wrap_i64 (by omega) (by omega), Zvc]
 rfl

structure Sh where
 lo : Int
 hi : Int
 sz : Int
 bd : Bool
def Sh.Ok (v : Sh) : Prop := Wok v.lo v.hi ∧ 0 ≤ v.sz ∧ v.sz ≤ 1048576
def catS (c v : Sh) : Sh := ⟨min (c.lo + v.lo) 1048576, sumF c.hi v.hi, min (c.sz + v.sz) 1048576, c.bd && v.bd⟩
def altS (c v : Sh) : Sh := ⟨min c.lo v.lo, if v.hi < 0 ∨ c.hi < 0 then -1 else max c.hi v.hi, min (c.sz + v.sz) 1048576, c.bd && v.bd⟩
def cat0 : Sh := ⟨0, 0, 0, true⟩
def alt0 : Sh := ⟨1048576, 0, 0, true⟩
def repZ (lo hi m c : Int) : Int := min (lo * c + (if hi < 0 then c + 4 else (hi - lo) * (c + 1)) + (if m = 2 then 2 else 0)) 1048576
def Zyn (m : Int) (v : Sh) : Bool := v.bd && (decide (m < 2) || (decide (0 ≤ v.hi) && decide (v.hi ≤ 32)))
inductive Shp : Zk → Sh → Prop
 | none : Shp nd0 ⟨0, 0, 0, true⟩
 | set (l : List R2) : Shp (setN l) ⟨1, 1, 1, true⟩
 | cat (l : List Zk) (V : List Sh) : l.length ≤ 3000 → V.length = l.length → (∀ (i : Nat) (x : Zk) (v : Sh), l[i]? = some x → V[i]? = some v → Shp x v) → Shp ⟨2, 0, 0, 0, 0, [], l⟩ (V.foldl catS cat0)
 | alt (l : List Zk) (V : List Sh) : l.length ≤ 3000 → 2 ≤ l.length → V.length = l.length → (∀ (i : Nat) (x : Zk) (v : Sh), l[i]? = some x → V[i]? = some v → Shp x v) →
   Shp ⟨3, 0, 0, 0, 0, [], l⟩ { V.foldl altS alt0 with sz := min ((V.foldl altS alt0).sz + 2 * ((l.length : Int) - 1)) 1048576 }
 | rep (lo hi m : Int) (x : Zk) (v : Sh) : 0 ≤ lo ∧ lo ≤ 64 → hi = -1 ∨ (lo ≤ hi ∧ hi ≤ 64) → Shp x v → Shp ⟨4, lo, hi, m, 0, [], [x]⟩ ⟨min (v.lo * lo) 1048576, ZkK v.hi hi, repZ lo hi m v.sz, v.bd⟩
 | group (r : Int) (x : Zk) (v : Sh) : Shp x v → Shp ⟨5, 0, 0, 0, r, [], [x]⟩ { v with sz := min (v.sz + 2) 1048576 }
 | back (r : Int) : Shp ⟨6, 0, 0, 0, r, [], []⟩ ⟨0, -1, 1, true⟩
 | look (m : Int) (x : Zk) (v : Sh) : Shp x v → Shp ⟨7, 0, 0, m, 0, [], [x]⟩ ⟨0, 0, min (v.sz + 2) 1048576, Zyn m v⟩
 | atomic (x : Zk) (v : Sh) : Shp x v → Shp ⟨8, 0, 0, 0, 0, [], [x]⟩ { v with sz := min (v.sz + 2) 1048576 }
 | edge (k : Int) : Shp (edge k) ⟨0, 0, 1, true⟩
theorem Zwt {c v : Sh} (hc : c.Ok) (hv : v.Ok) : (catS c v).Ok := by
 obtain ⟨h1, h2⟩ := hc
 obtain ⟨h3, h4⟩ := hv
 exact ⟨ZEB h1 h3, by simp only [catS]; omega, by simp only [catS]; omega⟩
theorem Zo6 : ∀ (V : List Sh) (c : Sh), c.Ok → (∀ v ∈ V, v.Ok) → (V.foldl catS c).Ok
 | [], _, hc, _ => hc
 | v :: V, c, hc, h => Zo6 V _ (Zwt hc (h v (Zcu ..))) fun u hu => h u (Zdn _ hu)
theorem w00 : Wok 0 0 := by unfold Wok; omega
theorem w11 : Wok 1 1 := by unfold Wok; omega
theorem w0n : Wok 0 (-1) := by unfold Wok; omega
theorem Zws : cat0.Ok := ⟨w00, by simp [cat0], by simp [cat0]⟩
def ZDh (c : Sh) : Prop := c.Ok ∨ (c.lo = 1048576 ∧ c.hi = 0 ∧ c.sz = 0)
theorem ZDT {c v : Sh} (hc : ZDh c) (hv : v.Ok) : (altS c v).Ok := by
 obtain ⟨h3, h4⟩ := hv
 unfold Wok at h3
 have hb : ((0 ≤ c.lo ∧ c.lo ≤ 1048576 ∧ -1 ≤ c.hi ∧ c.hi ≤ 1048576 ∧ (c.hi < 0 ∨ c.lo ≤ c.hi)) ∨ (c.lo = 1048576 ∧ c.hi = 0)) ∧ 0 ≤ c.sz ∧ c.sz ≤ 1048576 := by
  rcases hc with ⟨h1, h2⟩ | ⟨h1, h2, h3⟩
  ·unfold Wok at h1; exact ⟨.inl h1, h2⟩
  ·exact ⟨.inr ⟨h1, h2⟩, by omega⟩
 unfold Sh.Ok Wok altS
 dsimp only
 split <;> omega
theorem Zo2 : ∀ (V : List Sh) (c : Sh), V ≠ [] → ZDh c → (∀ v ∈ V, v.Ok) → (V.foldl altS c).Ok := by
 intro V
 induction V with
 | nil => intro c h; exact absurd rfl h
 | cons v V ih =>
  intro c _ hc h
  have h1 := ZDT hc (h v (Zcu ..))
  by_cases hV : V = []
  ·subst hV; exact h1
  ·exact ih _ hV (.inl h1) fun u hu => h u (Zdn _ hu)
theorem ZHa {lo hi m : Int} {v : Sh} (h1 : 0 ≤ lo ∧ lo ≤ 64) (h2 : hi = -1 ∨ (lo ≤ hi ∧ hi ≤ 64)) (hv : v.Ok) : (⟨min (v.lo * lo) 1048576, ZkK v.hi hi, repZ lo hi m v.sz, v.bd⟩ : Sh).Ok := by
 obtain ⟨w, z0, z1⟩ := hv
 unfold Wok at w
 have hb := Zb6 (a := v.lo) (b := lo) (x := 1048576) (y := 64) (by omega) (by omega)
 have hc := Zb6 (a := lo) (b := v.sz) (x := 64) (y := 1048576) (by omega) (by omega)
 refine ⟨?_, ?_, ?_⟩
 ·show Wok (min (v.lo * lo) 1048576) (ZkK v.hi hi)
  unfold ZkK
  split
  ·rename_i hc
   have : v.lo * lo = 0 := by
    rcases hc with hc | hc
    ·have : v.lo = 0 := by omega
     rw [this, Int.zero_mul]
    ·have : lo = 0 := by omega
     rw [this, Int.mul_zero]
   unfold Wok
   omega
  split
  ·unfold Wok; omega
  split
  ·unfold Wok; omega
  ·have hb2 := Zb6 (a := v.lo) (b := lo) (x := v.hi) (y := hi) (by omega) (by omega)
   unfold Wok
   omega
 ·show 0 ≤ repZ lo hi m v.sz
  unfold repZ
  split
  ·split <;> omega
  ·have hb2 := Zb6 (a := hi - lo) (b := v.sz + 1) (x := 64) (y := 1048577) (by omega) (by omega)
   split <;> omega
 ·show repZ lo hi m v.sz ≤ 1048576
  unfold repZ
  omega
theorem Zcw {n : Zk} {v : Sh} (h : Shp n v) : v.Ok := by
 have z : Wok 0 0 := by unfold Wok; omega
 have mem : ∀ {l : List Zk} {V : List Sh}, V.length = l.length → (∀ (i : Nat) (x : Zk) (v : Sh), l[i]? = some x → V[i]? = some v → v.Ok) → ∀ v ∈ V, v.Ok := by
  intro l V h1 h2 v hv
  obtain ⟨i, hi⟩ := Zcv.1 hv
  have hil : i < l.length := by have := (q2_.1 hi).1; omega
  exact h2 i _ v (q4_ hil) hi
 induction h with
 | none => exact ⟨z, by simp, by simp⟩
 | set l => exact ⟨w11, by simp, by simp⟩
 | cat l V _ h1 _ ih => exact Zo6 V _ Zws (mem h1 ih)
 | alt l V _ h2 h1 _ ih =>
  have := Zo2 V alt0 (by rintro rfl; simp at h1; omega) (.inr ⟨rfl, rfl, rfl⟩) (mem h1 ih)
  obtain ⟨q1, q2, q3⟩ := this
  exact ⟨q1, by simp only []; omega, by simp only []; omega⟩
 | rep lo hi m x v h1 h2 _ ih => exact ZHa h1 h2 ih
 | group r x v _ ih => exact ⟨ih.1, by have := ih.2; simp only []; omega, by simp only []; omega⟩
 | back r => exact ⟨w0n, by simp, by simp⟩
 | look m x v _ ih => exact ⟨z, by have := ih.2; simp only []; omega, by simp only []; omega⟩
 | atomic x v _ ih => exact ⟨ih.1, by have := ih.2; simp only []; omega, by simp only []; omega⟩
 | edge k => exact ⟨z, by simp, by simp⟩
def Kid {α : Type} (f : Zk → Option α) (g : Sh → α) (K : List Zk) (V : List Sh) : Prop := ∀ (i : Nat) (x : Zk) (v : Sh), K[i]? = some x → V[i]? = some v → f x = some (g v)
theorem Zw5 (K : List Zk) (V : List Sh) (hl : K.length ≤ 3000) (hV : V.length = K.length) (hK : Kid Z3f (fun v => (v.lo, v.hi)) K V) (hO : ∀ v ∈ V, v.Ok) : ∀ (m i : Nat) (c : Sh), i + m = K.length → c.Ok →
  Z9q c.lo c.hi K (K.length : Int) (i : Int) = some (((V.drop i).foldl catS c).lo, ((V.drop i).foldl catS c).hi) := by
 intro m
 induction m with
 | zero =>
  intro i c h hc
  apply Zfy
  unfold Z9l
  rw [if_neg (Z21 (by omega)), Zeb (by omega)]
  rfl
 | succ m ih =>
  intro i c h hc
  have hil : i < K.length := by omega
  have hv : V[i]? = some V[i] := q4_ (by omega)
  have e1 := hK i K[i] V[i] (q4_ hil) hv
  have hvo := hO V[i] (Zlz _)
  have hb := hc.1
  have hb2 := hvo.1
  unfold Wok at hb hb2
  have e2 := ih (i + 1) _ (by omega) (Zwt hc hvo)
  apply Zfy
  unfold Z9l Zbe
  rw [if_pos (Z2f (by omega)), Z4i, q4_ hil, ZV, e1, ZV, ZEC _ _ (by omega) (by simp only []; omega), ZV]
  dsimp only
  rw [wrap_i64 (n := c.lo + V[i].lo) (by omega) (by omega), wrap_i64 (n := (i : Int) + 1) (by omega) (by omega), Zfa (show i < V.length by omega), Zfb]
  exact e2
theorem ZvY (K : List Zk) (V : List Sh) (hl : K.length ≤ 3000) (hV : V.length = K.length) (hK : Kid Z3f (fun v => (v.lo, v.hi)) K V) : ∀ (m i : Nat) (c : Sh), i + m = K.length →
  Z8T c.lo c.hi K (K.length : Int) (i : Int) = some (((V.drop i).foldl altS c).lo, ((V.drop i).foldl altS c).hi) := by
 intro m
 induction m with
 | zero =>
  intro i c h
  apply ZeX
  unfold Z8O
  rw [if_neg (Z21 (by omega)), Zeb (by omega)]
  rfl
 | succ m ih =>
  intro i c h
  have hil : i < K.length := by omega
  have hv : V[i]? = some V[i] := q4_ (by omega)
  have e1 := hK i K[i] V[i] (q4_ hil) hv
  have e2 := ih (i + 1) (altS c V[i]) (by omega)
  apply ZeX
  unfold Z8O ZaA Z8P ZaB Z8Q
  rw [if_pos (Z2f (by omega)), Z4i, q4_ hil, ZV, e1, ZV]
  dsimp only
  rw [wrap_i64 (n := (i : Int) + 1) (by omega) (by omega), Zfa (show i < V.length by omega), Zfb]
  unfold altS at e2 ⊢
  dsimp only at e2
  by_cases c1 : V[i].hi < 0
  ·rw [if_pos (Z2f c1)]
   rw [if_pos (.inl c1)] at e2
   simp only [c1, true_or, if_true]
   exact e2
  by_cases c2 : c.hi < 0
  ·rw [if_neg (Z21 c1), if_pos (Z2f c2)]
   rw [if_pos (.inr c2)] at e2
   simp only [c2, or_true, if_true]
   exact e2
  ·rw [if_neg (Z21 c1), if_neg (Z21 c2)]
   rw [if_neg (show ¬ (V[i].hi < 0 ∨ c.hi < 0) by omega)] at e2
   simp only [c1, c2, or_self, if_false]
   exact e2
theorem Zsj {n : Zk} {v : Sh} (h : Shp n v) : Z3f n = some (v.lo, v.hi) := by
 have top : ∀ {n : Zk} {r}, ZdO n = some r → Z3f n = some r := fun e => ZoC _ e
 have mem : ∀ {l : List Zk} {V : List Sh}, V.length = l.length → (∀ (i : Nat) (x : Zk) (v : Sh), l[i]? = some x → V[i]? = some v → Shp x v) → ∀ v ∈ V, v.Ok := by
  intro l V h1 h2 v hv
  obtain ⟨i, hi⟩ := Zcv.1 hv
  have hil : i < l.length := by have := (q2_.1 hi).1; omega
  exact Zcw (h2 i _ v (q4_ hil) hi)
 induction h with
 | none => exact top rfl
 | set l => exact top rfl
 | back r => exact top rfl
 | edge k => exact top rfl
 | look m x v _ _ => exact top rfl
 | group r x v _ ih =>
  refine top ?_
  show ((lget [x] 0).bind fun a4 => (Z3f a4).bind fun r5 => some (r5.1, r5.2)) = _
  rw [show lget [x] 0 = some x from rfl, ZV, ih]
  rfl
 | atomic x v _ ih =>
  refine top ?_
  show ((lget [x] 0).bind fun a4 => (Z3f a4).bind fun r5 => some (r5.1, r5.2)) = _
  rw [show lget [x] 0 = some x from rfl, ZV, ih]
  rfl
 | cat l V hl h1 h2 ih => exact top (Zw5 l V hl h1 ih (mem h1 h2) l.length 0 cat0 (by omega) Zws)
 | alt l V hl _ h1 _ ih => exact top (ZvY l V hl h1 ih l.length 0 alt0 (by omega))
 | rep lo hi m x v h1 h2 hx ih =>
  have w := (Zcw hx).1
  unfold Wok at w
  have hb := Zb6 (a := v.lo) (b := lo) (x := 1048576) (y := 64) (by omega) (by omega)
  refine top ?_
  show ((lget [x] 0).bind fun a1 => (Z3f a1).bind fun r2 => (Zbx r2.2 hi).bind fun r3 => some ((min (IntKind.i64.wrap (r2.1 * lo)) 1048576), r3)) = _
  rw [show lget [x] 0 = some x from rfl, ZV, ih, ZV, ZBY _ _ (by simp only []; omega) (by omega), ZV]
  dsimp only
  rw [wrap_i64 (by omega) (by omega)]
theorem ZjN (n : Zk) (K : List Zk) (S : List Int) (hl : K.length ≤ 3000) (hV : S.length = K.length) (hK : ∀ (i : Nat) (x : Zk) (s : Int), K[i]? = some x → S[i]? = some s → Z5R x = some s ∧ 0 ≤ s ∧ s ≤ 1048576) : ∀ (m i : Nat) (c : Int), i + m = K.length → 0 ≤ c ∧ c ≤ 1048576 →
  ∀ r, Z5p ((S.drop i).foldl (fun c s => min (c + s) 1048576) c) n = some r → Z6o c K (K.length : Int) (i : Int) n = some r := by
 intro m
 induction m with
 | zero =>
  intro i c h hc r e
  rw [Zeb (by omega)] at e
  apply ZgX
  unfold Za4
  rw [if_neg (Z21 (by omega))]
  exact e
 | succ m ih =>
  intro i c h hc r e
  have hil : i < K.length := by omega
  obtain ⟨e1, v0, v1⟩ := hK i K[i] S[i] (q4_ hil) (q4_ (by omega))
  rw [Zfa (show i < S.length by omega), Zfb] at e
  apply ZgX
  unfold Za4 ZbL
  rw [if_pos (Z2f (by omega)), Z4i, q4_ hil, ZV, e1, ZV, wrap_i64 (n := c + S[i]) (by omega) (by omega), wrap_i64 (n := (i : Int) + 1) (by omega) (by omega)]
  exact ih (i + 1) _ (by omega) (by omega) r e
theorem ZlH {n x : Zk} {s r : Int} (hk : n.Kids = [x]) (h : Z5R x = some s ∧ 0 ≤ s ∧ s ≤ 1048576) (e : Z5p s n = some r) : Z5R n = some r := by
 apply ZeW
 show Z6o 0 n.Kids (n.Kids.length : Int) 0 n = some r
 rw [hk]
 refine ZjN n [x] [s] (by simp) rfl ?_ 1 0 0 rfl (by omega) r ?_
 ·intro i y t hy ht
  cases i with
  | zero => simp at hy ht; subst hy ht; exact h
  | succ i => simp at hy
 ·show Z5p (min (0 + s) 1048576) n = some r
  rw [show min (0 + s) 1048576 = s by omega]
  exact e
theorem Zjs {n : Zk} {r : Int} (hk : n.Kids = []) (e : Z5p 0 n = some r) : Z5R n = some r := by
 apply ZeW
 show Z6o 0 n.Kids (n.Kids.length : Int) 0 n = some r
 rw [hk]
 exact ZjN n [] [] (by simp) rfl (by simp) 0 0 0 rfl (by omega) r e
theorem Zo8 : ∀ (V : List Sh) (c : Sh), (V.map Sh.sz).foldl (fun c s => min (c + s) 1048576) c.sz = (V.foldl catS c).sz
 | [], _ => rfl
 | v :: V, c => Zo8 V (catS c v)
theorem Zo7 : ∀ (V : List Sh) (c : Sh), (V.map Sh.sz).foldl (fun c s => min (c + s) 1048576) c.sz = (V.foldl altS c).sz
 | [], _ => rfl
 | v :: V, c => Zo7 V (altS c v)
theorem ZvL {n : Zk} {l : List Zk} {V : List Sh} {r : Int} (hk : n.Kids = l) (hl : l.length ≤ 3000) (h1 : V.length = l.length) (h : ∀ (i : Nat) (x : Zk) (v : Sh), l[i]? = some x → V[i]? = some v → Z5R x = some v.sz ∧ v.Ok)
  (e : Z5p ((V.map Sh.sz).foldl (fun c s => min (c + s) 1048576) 0) n = some r) : Z5R n = some r := by
 apply ZeW
 show Z6o 0 n.Kids (n.Kids.length : Int) 0 n = some r
 rw [hk]
 refine ZjN n l (V.map Sh.sz) hl (by simp [h1]) ?_ l.length 0 0 (by omega) (by omega) r e
 intro i x s hx hs
 rw [q8_] at hs
 obtain ⟨v, hv, rfl⟩ := q6_.1 hs
 obtain ⟨q1, q2⟩ := h i x v hx hv
 exact ⟨q1, q2.2⟩
theorem ZiO (c : Int) : Z1u c = some (min c 1048576) := rfl
theorem ZD6 {n : Zk} {v : Sh} (h : Shp n v) : Z5R n = some v.sz := by
 induction h with
 | none => exact Zjs rfl rfl
 | set l => exact Zjs rfl rfl
 | back r => exact Zjs rfl rfl
 | edge k => exact Zjs rfl rfl
 | look m x v hx ih =>
  have ok := Zcw hx
  obtain ⟨_, z0, z1⟩ := ok
  refine ZlH rfl ⟨ih, z0, z1⟩ ?_
  show Z1u (IntKind.i64.wrap (v.sz + 2)) = _
  rw [wrap_i64 (by omega) (by omega), ZiO]
 | group r x v hx ih =>
  have ok := Zcw hx
  obtain ⟨_, z0, z1⟩ := ok
  refine ZlH rfl ⟨ih, z0, z1⟩ ?_
  show Z1u (IntKind.i64.wrap (v.sz + 2)) = _
  rw [wrap_i64 (by omega) (by omega), ZiO]
 | atomic x v hx ih =>
  have ok := Zcw hx
  obtain ⟨_, z0, z1⟩ := ok
  refine ZlH rfl ⟨ih, z0, z1⟩ ?_
  show Z1u (IntKind.i64.wrap (v.sz + 2)) = _
  rw [wrap_i64 (by omega) (by omega), ZiO]
 | cat l V hl h1 h2 ih =>
  refine ZvL rfl hl h1 (fun i x v hx hv => ⟨ih i x v hx hv, Zcw (h2 i x v hx hv)⟩) ?_
  have ok : (V.foldl catS cat0).Ok := Zcw (.cat l V hl h1 h2)
  have e := Zo8 V cat0
  rw [show cat0.sz = 0 from rfl] at e
  rw [e]
  show Z1u _ = _
  obtain ⟨_, z0, z1⟩ := ok
  rw [ZiO, show min (V.foldl catS cat0).sz 1048576 = (V.foldl catS cat0).sz by omega]
 | alt l V hl h0 h1 h2 ih =>
  refine ZvL rfl hl h1 (fun i x v hx hv => ⟨ih i x v hx hv, Zcw (h2 i x v hx hv)⟩) ?_
  have e := Zo7 V alt0
  rw [show alt0.sz = 0 from rfl] at e
  rw [e]
  have ok : (V.foldl altS alt0).Ok := by
   refine Zo2 V alt0 (by rintro rfl; simp at h1; omega) (.inr ⟨rfl, rfl, rfl⟩) ?_
   intro v hv
   obtain ⟨i, hi⟩ := Zcv.1 hv
   have hil : i < l.length := by have := (q2_.1 hi).1; omega
   exact Zcw (h2 i _ v (q4_ hil) hi)
  obtain ⟨_, z0, z1⟩ := ok
  show Z1u (IntKind.i64.wrap ((V.foldl altS alt0).sz + IntKind.i64.wrap (2 * IntKind.i64.wrap ((l.length : Int) - 1)))) = _
  rw [wrap_i64 (n := (l.length : Int) - 1) (by omega) (by omega), wrap_i64 (n := 2 * ((l.length : Int) - 1)) (by omega) (by omega), wrap_i64 (by omega) (by omega), ZiO]
 | rep lo hi m x v q1 q2 hx ih =>
  have ok := Zcw hx
  obtain ⟨_, z0, z1⟩ := ok
  refine ZlH rfl ⟨ih, z0, z1⟩ ?_
  have r24 : ∀ z, 0 ≤ z → z ≤ 1000000000 → Z1O z ⟨4, lo, hi, m, 0, [], [x]⟩ = some (min (z + (if m = 2 then 2 else 0)) 1048576) := by
   intro z z0 z1
   unfold Z1O
   dsimp only
   by_cases hm : m = 2
   ·rw [if_pos (Z2i hm), if_pos hm, wrap_i64 (by omega) (by omega), ZiO]
   ·rw [if_neg (Z2b hm), if_neg hm, ZiO, Int.add_zero]
  have hb := Zb6 (a := lo) (b := v.sz) (x := 64) (y := 1048576) (by omega) (by omega)
  generalize v.sz = c at *
  have e : Z5p c ⟨4, lo, hi, m, 0, [], [x]⟩ = (if ((decide (hi < 0))) = true then (Z1O ((IntKind.i64.wrap ((IntKind.i64.wrap (lo * c)) + (IntKind.i64.wrap (c + 4))))) ⟨4, lo, hi, m, 0, [], [x]⟩) else (Z1O ((IntKind.i64.wrap ((IntKind.i64.wrap (lo * c)) + (IntKind.i64.wrap ((IntKind.i64.wrap (hi - lo)) * (IntKind.i64.wrap (c + 1))))))) ⟨4, lo, hi, m, 0, [], [x]⟩)) := rfl
  rw [e]
  show _ = some (repZ lo hi m c)
  unfold repZ
  by_cases hh : hi < 0
  ·rw [if_pos (Z2f hh), if_pos hh, wrap_i64 (n := lo * c) (by omega) (by omega), wrap_i64 (n := c + 4) (by omega) (by omega), wrap_i64 (by omega) (by omega)]
   exact r24 _ (by omega) (by omega)
  ·have hb2 := Zb6 (a := hi - lo) (b := c + 1) (x := 64) (y := 1048577) (by omega) (by omega)
   rw [if_neg (Z21 hh), if_neg hh, wrap_i64 (n := lo * c) (by omega) (by omega), wrap_i64 (n := hi - lo) (by omega) (by omega), wrap_i64 (n := c + 1) (by omega) (by omega), wrap_i64 (n := (hi - lo) * (c + 1)) (by omega) (by omega), wrap_i64 (by omega) (by omega)]
   exact r24 _ (by omega) (by omega)
theorem ZE8 (K : List Zk) (V : List Sh) (hl : K.length ≤ 3000) (hV : V.length = K.length) (hK : Kid Z4e Sh.bd K V) : ∀ (m i : Nat), i + m = K.length →
  ∃ r, Z4f K (K.length : Int) (i : Int) = some r ∧ decide (0 ≤ r) = !(V.drop i).all Sh.bd := by
 intro m
 induction m with
 | zero =>
  intro i h
  refine ⟨-1, ?_, by rw [Zeb (by omega)]; rfl⟩
  apply Z6w
  unfold Z3A
  rw [if_neg (Z21 (by omega))]
  rfl
 | succ m ih =>
  intro i h
  have hil : i < K.length := by omega
  have hv : V[i]? = some V[i] := q4_ (by omega)
  have e1 := hK i K[i] V[i] (q4_ hil) hv
  obtain ⟨r, e2, e3⟩ := ih (i + 1) (by omega)
  have hd : V.drop i = V[i] :: V.drop (i + 1) := Zfa (by omega)
  have hb1 : ZaE K[i] = some (!V[i].bd) := by
   apply Zlb
   unfold ZaC
   rw [e1]
   rfl
  rw [hd]
  cases hbd : V[i].bd with
  | false =>
   refine ⟨i, ?_, by rw [List.all_cons, hbd, Bool.false_and]; simp⟩
   apply Z6w
   unfold Z3A Z48
   rw [if_pos (Z2f (by omega)), Z4i, q4_ hil, ZV, hb1, ZV, hbd, if_pos (by rfl)]
  | true =>
   refine ⟨r, ?_, by rw [List.all_cons, hbd, ZrS]; exact e3⟩
   apply Z6w
   unfold Z3A Z48 Z5r
   rw [if_pos (Z2f (by omega)), Z4i, q4_ hil, ZV, hb1, ZV, hbd, if_neg (by simp), wrap_i64 (n := (i : Int) + 1) (by omega) (by omega)]
   exact e2
theorem r5_b {n : Zk} {K : List Zk} {V : List Sh} (hk : n.Kids = K) (hl : K.length ≤ 3000) (hV : V.length = K.length) (hK : Kid Z4e Sh.bd K V) : Z3I n = some (V.all Sh.bd) := by
 obtain ⟨r, e1, e2⟩ := ZE8 K V hl hV hK K.length 0 (by omega)
 have e3 : Z5u n.Kids = some (!V.all Sh.bd) := by
  apply ZdC
  unfold Z5q
  have : Z6p n.Kids = some r := by
   apply Zf1
   unfold Z6n
   rw [hk]
   exact e1
  rw [this, ZV, e2]
  rfl
 unfold Z3I
 rw [e3, ZV, Bool.not_not]
theorem ZyS : ∀ (V : List Sh) (c : Sh), (V.foldl catS c).bd = (c.bd && V.all Sh.bd)
 | [], c => by simp
 | v :: V, c => by rw [Zfb, ZyS V, List.all_cons]; simp [catS, Bool.and_assoc]
theorem ZyN : ∀ (V : List Sh) (c : Sh), (V.foldl altS c).bd = (c.bd && V.all Sh.bd)
 | [], c => by simp
 | v :: V, c => by rw [Zfb, ZyN V, List.all_cons]; simp [altS, Bool.and_assoc]
theorem ZEa {x : Zk} {v : Sh} (h : Z4e x = some v.bd) : Kid Z4e Sh.bd [x] [v] := by
 intro i y u hy hu
 cases i with
 | zero => simp at hy hu; subst hy hu; exact h
 | succ i => simp at hy
theorem Zw1 {n : Zk} {v : Sh} (h : Shp n v) : Z4e n = some v.bd := by
 have top : ∀ {n : Zk} {r}, ZbM n = some r → Z4e n = some r := fun e => ZmI _ e
 have one : ∀ {n x : Zk} {v : Sh}, n.Kids = [x] → Z4e x = some v.bd → Z3I n = some v.bd := by
  intro n x v h1 h2
  have := r5_b h1 (by simp) rfl (ZEa h2)
  simpa using this
 have zero : ∀ {n : Zk}, n.Kids = [] → Z3I n = some true := fun h1 => r5_b (V := []) h1 (by simp) rfl (fun i x v hx => by simp at hx)
 induction h with
 | none => exact top (zero rfl)
 | set l => exact top (zero rfl)
 | back r => exact top (zero rfl)
 | edge k => exact top (zero rfl)
 | group r x v _ ih => exact top (one rfl ih)
 | atomic x v _ ih => exact top (one rfl ih)
 | rep lo hi m x v _ _ _ ih => exact top (one rfl ih)
 | cat l V hl h1 _ ih =>
  refine top (Eq.trans (r5_b rfl hl h1 ih) ?_)
  rw [ZyS]
  rfl
 | alt l V hl _ h1 _ ih =>
  refine top (Eq.trans (r5_b rfl hl h1 ih) ?_)
  show _ = some (V.foldl altS alt0).bd
  rw [ZyN]
  rfl
 | look m x v hx ih =>
  refine top ?_
  have hw := Zsj hx
  have o := one (n := ⟨7, 0, 0, m, 0, [], [x]⟩) rfl ih
  show (if (decide (2 ≤ m)) = true then Z8l ⟨7, 0, 0, m, 0, [], [x]⟩ else Z3I ⟨7, 0, 0, m, 0, [], [x]⟩) = some (Zyn m v)
  unfold Zyn
  by_cases h2 : 2 ≤ m
  ·rw [if_pos (Z2f h2), decide_eq_false (show ¬ m < 2 by omega), Bool.false_or]
   unfold Z8l Z8m
   rw [show lget [x] 0 = some x from rfl, ZV, hw, ZV]
   dsimp only
   by_cases h3 : v.hi < 0
   ·rw [if_pos (Z2f h3), decide_eq_false (show ¬ 0 ≤ v.hi by omega)]
    simp
   by_cases h4 : 32 < v.hi
   ·rw [if_neg (Z21 h3), if_pos (Z2f h4), decide_eq_false (show ¬ v.hi ≤ 32 by omega)]
    simp
   ·rw [if_neg (Z21 h3), if_neg (Z21 h4), decide_eq_true (show 0 ≤ v.hi by omega), decide_eq_true (show v.hi ≤ 32 by omega), o]
    simp
  ·rw [if_neg (Z21 h2), decide_eq_true (show m < 2 by omega), o]
   simp
def chkF (v : Sh) : Int := if v.bd = false then 27 else if 1997 < v.sz then 28 else 0
theorem ZyT {n : Zk} {v : Sh} (h : Shp n v) (g : Int) (f : Bool) : ZdS ⟨n, g, f⟩ = some (chkF v) := by
 obtain ⟨_, z0, z1⟩ := Zcw h
 apply Zoz
 unfold ZdN Zbd chkF
 rw [Zw1 h, ZV, ZD6 h]
 cases v.bd with
 | false => rfl
 | true =>
  rw [if_neg (by simp), if_neg (by simp), ZV, wrap_i64 (by omega) (by omega)]
  by_cases c : 1997 < v.sz
  ·rw [if_pos (Z2f (by omega)), if_pos c]
  ·rw [if_neg (Z21 (by omega)), if_neg c]
theorem ZHc {l : List Zk} {x y : Zk} {a b : Sh} (hl : l = [x, y]) (hx : Shp x a) (hy : Shp y b) : ∀ (i : Nat) (z : Zk) (v : Sh), l[i]? = some z → [a, b][i]? = some v → Shp z v := by
 subst hl
 intro i z v hz hv
 match i, hz, hv with
 | 0, hz, hv => simp at hz hv; subst hz hv; exact hx
 | 1, hz, hv => simp at hz hv; subst hz hv; exact hy
 | i + 2, hz, hv => simp at hz
theorem ZDU {x y : Zk} {a b : Sh} (hx : Shp x a) (hy : Shp y b) : Shp ⟨3, 0, 0, 0, 0, [], [x, y]⟩ { altS (altS alt0 a) b with sz := min ((altS (altS alt0 a) b).sz + 2 * ((2 : Int) - 1)) 1048576 } := .alt [x, y] [a, b] (by simp) (by simp) rfl (ZHc rfl hx hy)
end Go.Proofs.YtocikhhkicahoaaDoor.N2
end
