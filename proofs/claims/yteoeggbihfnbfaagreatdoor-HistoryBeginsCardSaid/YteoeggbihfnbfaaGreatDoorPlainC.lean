/- Rules, sets, deltas, verdicts, as plain functions. No condition. -/
import Derived.Test.YteoeggbihfnbfaaGreatDoorPlain
import Derived.Test.YteoeggbihfnbfaaGreatDoorTypB
import Derived.Test.YteoeggbihfnbfaaGreatDoorTypC
import Derived.Test.YteoeggbihfnbfaaGreatDoorPlainB

set_option linter.unusedSimpArgs false
set_option linter.unusedVariables false
set_option linter.defProp false
section
namespace Go.Proofs.YteoeggbihfnbfaaGreatDoor
open Go Go.Abs
def okR (r : N2.Zw) : Bool := decide (1 ≤ r.ID ∧ r.ID ≤ 1099511627776 ∧ 0 ≤ r.Priority ∧ r.Priority ≤ 1000 ∧ 0 ≤ r.Action ∧ r.Action ≤ 255 ∧ 1 ≤ r.Scope ∧ r.Scope ≤ 65535 ∧ (r.Pattern.size : Int) ≤ 256)
def okN (a b c d : Int) : Bool := decide (0 ≤ a ∧ a ≤ 255 ∧ 0 ≤ b ∧ b ≤ 255 ∧ 1 ≤ c ∧ c ≤ 1048576 ∧ 0 ≤ d ∧ d ≤ 4096)
def asc : Int → List N2.Zw → Bool
 | _, [] => true
 | n, r :: l => okR r && decide (n < r.ID) && asc r.ID l
def okS (s : N2.ZC) : Bool := okN s.Default s.Closed s.Fuel s.Stack && decide (s.Rules.length ≤ 16) && asc 0 s.Rules
namespace N2
theorem ZaI (r : N2.Zw) : Z9s r = some (okR r) := by
 apply Zr1
 unfold Zd8 okR
 repeat' split
 all_goals simp_all
 all_goals omega
theorem Zgk (s : N2.ZC) : Z9Q s = some (okN s.Default s.Closed s.Fuel s.Stack) := by
 apply Zow
 unfold Zc5 okN
 repeat' split
 all_goals simp_all
 all_goals omega
theorem ZkQ {i : Int} (h1 : 0 ≤ i) (h2 : i ≤ 1000000000) : IntKind.i64.wrap (i + 1) = i + 1 := wrap_i64 (by omega) (by omega)
theorem ZpE (L : List N2.Zw) (hl : L.length ≤ 1000000) : ∀ (d i : Nat) (n : Int), i + d = L.length → Z9P n L (L.length : Int) (i : Int) = some (asc n (L.drop i)) := by
 intro d
 induction d with
 | zero =>
  intro i n h
  apply Zh2
  unfold Z9J
  rw [if_neg (by simp; omega), q9_ (by omega)]
  rfl
 | succ d ih =>
  intro i n h
  apply Zh2
  unfold Z9J
  have hi : i < L.length := by omega
  rw [if_pos (by simp; omega)]
  unfold Zc3
  rw [Z2T, q2_ hi, Zbe hi]
  simp only [q0_, ZaI, asc, Z9L, Zc4, Zb4]
  cases h1 : okR L[i] with
  | false => simp
  | true =>
   simp only [Znf, Zef, if_false, Zw1]
   by_cases h2 : L[i].ID ≤ n
   ·rw [if_pos (by simpa using h2)]
    have : ¬ n < L[i].ID := by omega
    simp [this]
   ·rw [if_neg (by simpa using h2), ZkQ (by omega) (by omega)]
    have := ih (i + 1) L[i].ID (by omega)
    rw [show ((i : Int) + 1) = ((i + 1 : Nat) : Int) by omega, this]
    have : n < L[i].ID := by omega
    simp [this]
theorem Zjb (s : N2.ZC) : ZbK s = some (okS s) := by
 apply Zs9
 unfold ZdZ
 simp only [Zgk, q0_, Z9K, Zc2, okS]
 cases h : okN s.Default s.Closed s.Fuel s.Stack with
 | false => simp
 | true =>
  by_cases h2 : s.Rules.length ≤ 16
  ·have h3 : ¬ 16 < (s.Rules.length : Int) := by omega
   simp only [Znf, Zef, if_false, h3, decide_false, h2, decide_true, Zw1]
   exact ZpE s.Rules (by omega) s.Rules.length 0 0 (by omega)
  ·have h3 : 16 < (s.Rules.length : Int) := by omega
   simp [h2, h3]
end N2
end Go.Proofs.YteoeggbihfnbfaaGreatDoor
end
section
namespace Go.Proofs.YteoeggbihfnbfaaGreatDoor
open Go Go.Abs
def Z8n : List Int → List (Int × Bool) → Bool × List (Int × Bool)
 | [], m => (false, m)
 | x :: xs, m => if (getM m x).getD false = true then (true, putM m x true) else Z8n xs (putM m x true)
def ids (l : List N2.Zw) : List Int := l.map (·.ID)
theorem ZCl {α : Type} (m : List (Int × α)) (n k : Int) (y : α) : getM (putM m n y) k = if k = n then some y else getM m k := by
 induction m with
 | nil => simp only [putM, getM]; by_cases h : n = k <;> simp [h, eq_comm]
 | cons q r ih =>
  simp only [putM]
  split
  ·rename_i h
   simp only [getM]
   by_cases hk : n = k
   ·simp [hk]
   ·simp only [if_neg hk]; rw [h, if_neg hk, if_neg (fun e => hk e.symm)]
  ·rename_i h
   simp only [getM, ih]
   by_cases hk : q.1 = k
   ·rw [if_pos hk]; have : k ≠ n := fun e => h (hk.trans e); rw [if_neg this, if_pos hk]
   ·rw [if_neg hk]; split <;> simp [hk]
theorem ZrK : ∀ (xs : List Int) (m : List (Int × Bool)) (seen : List Int), (∀ x, (getM m x).getD false = decide (x ∈ seen)) → (Z8n xs m).1 = !decide (xs.Nodup ∧ ∀ x ∈ xs, x ∉ seen) ∧
  ((Z8n xs m).1 = false → ∀ x, (getM (Z8n xs m).2 x).getD false = decide (x ∈ xs ∨ x ∈ seen))
 | [], m, seen, h => by simpa [Z8n] using h
 | x :: xs, m, seen, h => by
  unfold Z8n
  rw [h x]
  by_cases hx : x ∈ seen
  ·rw [decide_eq_true hx]
   simp only [if_true]
   refine ⟨?_, fun e => by cases e⟩
   have : ¬ ((x :: xs).Nodup ∧ ∀ y ∈ x :: xs, y ∉ seen) := fun hh => hh.2 x (by simp) hx
   simp only [decide_eq_false this, Bool.not_false]
  ·rw [if_neg (by simpa using hx)]
   have hm : ∀ y, (getM (putM m x true) y).getD false = decide (y ∈ x :: seen) := by
    intro y
    rw [ZCl]
    by_cases hy : y = x
    ·simp [hy]
    ·rw [if_neg hy, h y]; simp [hy]
   obtain ⟨h1, h2⟩ := ZrK xs _ (x :: seen) hm
   refine ⟨?_, fun e y => ?_⟩
   ·rw [h1]
    congr 2
    apply propext
    simp only [Ztr, Z5x, not_or, forall_eq_or_imp]
    constructor
    ·rintro ⟨a, b⟩
     exact ⟨⟨fun hh => (b x hh).1 rfl, a⟩, hx, fun y hy => (b y hy).2⟩
    ·rintro ⟨⟨a, b⟩, _, c⟩
     exact ⟨b, fun y hy => ⟨fun e => a (e ▸ hy), c y hy⟩⟩
   ·rw [h2 e y]
    congr 1
    apply propext
    simp only [Z5x]
    constructor
    ·rintro (a | a | a)
     ·exact .inl (.inr a)
     ·exact .inl (.inl a)
     ·exact .inr a
    ·rintro ((a | a) | a)
     ·exact .inr (.inl a)
     ·exact .inl a
     ·exact .inr (.inr a)
namespace N2
theorem Zi4 (L : List N2.Zw) (hl : L.length ≤ 1000000) : ∀ (d i : Nat), i + d = L.length → ∃ n, Z5t L (L.length : Int) (i : Int) = some n ∧ decide (0 ≤ n) = (L.drop i).any fun r => !okR r := by
 intro d
 induction d with
 | zero =>
  intro i h
  refine ⟨-1, ?_, by rw [q9_ (by omega)]; rfl⟩
  apply Z8c
  unfold Z4r
  rw [if_neg (by simp; omega)]
  rfl
 | succ d ih =>
  intro i h
  have hi : i < L.length := by omega
  rw [Zbe hi]
  obtain ⟨n, h1, h2⟩ := ih (i + 1) (by omega)
  cases hr : okR L[i] with
  | false =>
   refine ⟨i, ?_, by simp only [Zw4, hr]; simp⟩
   apply Z8c
   unfold Z4r
   rw [if_pos (by simp; omega)]
   unfold Z5l
   have h43 : Z8P L[i] = some true := Zfm _ (by unfold Z8F; simp [ZaI, hr])
   simp [Z2T, q2_ hi, h43]
  | true =>
   refine ⟨n, ?_, by simp only [Zw4, hr, h2]; simp⟩
   apply Z8c
   unfold Z4r
   rw [if_pos (by simp; omega)]
   unfold Z5l
   have h43 : Z8P L[i] = some false := Zfm _ (by unfold Z8F; simp [ZaI, hr])
   simp only [Z2T, q2_ hi, h43, q0_, Zef, if_false, Z6S]
   rw [ZkQ (by omega) (by omega), show ((i : Int) + 1) = ((i + 1 : Nat) : Int) by omega]
   exact h1
theorem ZnO (L : List N2.Zw) (hl : L.length ≤ 1000000) : Zcd L = some (L.all okR) := by
 obtain ⟨n, h1, h2⟩ := Zi4 L hl L.length 0 (by omega)
 apply Zox
 have h52 : Z83 L = some n := Zjl _ (by unfold Z7Y; exact h1)
 have h42 : Z6X L = some (decide (0 ≤ n)) := Zha _ (by unfold Z6O; rw [h52]; rfl)
 unfold Zc6
 rw [h42, h2]
 simp [List.all_eq_not_any_not]
theorem Za0 (n : Int) (m : List (Int × Bool)) : Z7t n m = some ((getM m n).getD false, putM m n true) := Zld _ _ rfl
theorem ZdA (r : N2.Zw) (m : List (Int × Bool)) : Z9k r m = some ((getM m r.ID).getD false, putM m r.ID true) := Zle _ _ (by unfold Z9c; rw [Za0]; rfl)
theorem Zi5 (L : List N2.Zw) (hl : L.length ≤ 1000000) : ∀ (d i : Nat) (m : List (Int × Bool)), i + d = L.length →
  ∃ n, Z5u L (L.length : Int) (i : Int) m = some (n, (Z8n (ids (L.drop i)) m).2) ∧ decide (0 ≤ n) = (Z8n (ids (L.drop i)) m).1 := by
 intro d
 induction d with
 | zero =>
  intro i m h
  rw [q9_ (by omega)]
  refine ⟨-1, ?_, rfl⟩
  apply Z8d
  unfold Z4s
  rw [if_neg (by simp; omega)]
  rfl
 | succ d ih =>
  intro i m h
  have hi : i < L.length := by omega
  rw [Zbe hi]
  obtain ⟨n, h1, h2⟩ := ih (i + 1) (putM m L[i].ID true) (by omega)
  simp only [ids, Z90, Z8n]
  by_cases hs : (getM m L[i].ID).getD false = true
  ·rw [if_pos hs]
   refine ⟨i, ?_, by simp⟩
   apply Z8d
   unfold Z4s
   rw [if_pos (by simp; omega)]
   unfold Z5m
   simp [Z2T, q2_ hi, ZdA, hs]
  ·rw [if_neg hs]
   refine ⟨n, ?_, h2⟩
   apply Z8d
   unfold Z4s
   rw [if_pos (by simp; omega)]
   unfold Z5m
   simp only [Z2T, q2_ hi, ZdA, q0_, if_neg hs, Z6T]
   rw [ZkQ (by omega) (by omega), show ((i : Int) + 1) = ((i + 1 : Nat) : Int) by omega]
   exact h1
theorem ZiQ (L : List Int) (hl : L.length ≤ 1000000) : ∀ (d i : Nat) (m : List (Int × Bool)), i + d = L.length →
  ∃ n, Z5G L (L.length : Int) (i : Int) m = some (n, (Z8n (L.drop i) m).2) ∧ decide (0 ≤ n) = (Z8n (L.drop i) m).1 := by
 intro d
 induction d with
 | zero =>
  intro i m h
  rw [q9_ (by omega)]
  refine ⟨-1, ?_, rfl⟩
  apply Z8s
  unfold Z4B
  rw [if_neg (by simp; omega)]
  rfl
 | succ d ih =>
  intro i m h
  have hi : i < L.length := by omega
  rw [Zbe hi]
  obtain ⟨n, h1, h2⟩ := ih (i + 1) (putM m L[i] true) (by omega)
  simp only [Z8n]
  by_cases hs : (getM m L[i]).getD false = true
  ·rw [if_pos hs]
   refine ⟨i, ?_, by simp⟩
   apply Z8s
   unfold Z4B
   rw [if_pos (by simp; omega)]
   unfold Z5E
   simp [Z2T, q2_ hi, Za0, hs]
  ·rw [if_neg hs]
   refine ⟨n, ?_, h2⟩
   apply Z8s
   unfold Z4B
   rw [if_pos (by simp; omega)]
   unfold Z5E
   simp only [Z2T, q2_ hi, Za0, q0_, if_neg hs, Z7e]
   rw [ZkQ (by omega) (by omega), show ((i : Int) + 1) = ((i + 1 : Nat) : Int) by omega]
   exact h1
theorem Zov (d : N2.Z1f) (h1 : d.Put.length ≤ 1000000) (h2 : d.Drop.length ≤ 1000000) : ZcI d = some (!decide (ids d.Put ++ d.Drop).Nodup) := by
 obtain ⟨n, e1, e2⟩ := Zi5 d.Put h1 d.Put.length 0 [] (by omega)
 have h52 : Z84 d.Put [] = some (n, (Z8n (ids d.Put) []).2) := Zjn _ _ (by unfold Z7Z; exact e1)
 have h42 : Z6Y d.Put [] = some ((Z8n (ids d.Put) []).1, (Z8n (ids d.Put) []).2) := Zhc _ _ (by unfold Z6P; rw [h52]; simpa using e2)
 obtain ⟨k, f1, f2⟩ := ZiQ d.Drop h2 d.Drop.length 0 (Z8n (ids d.Put) []).2 (by omega)
 have h53 : Z8k d.Drop (Z8n (ids d.Put) []).2 = some (k, (Z8n d.Drop (Z8n (ids d.Put) []).2).2) := ZjJ _ _ (by unfold Z8i; exact f1)
 have h46 : Z7k d.Drop (Z8n (ids d.Put) []).2 = some ((Z8n d.Drop (Z8n (ids d.Put) []).2).1, (Z8n d.Drop (Z8n (ids d.Put) []).2).2) := ZhY _ _ (by unfold Z7c; rw [h53]; simpa using f2)
 obtain ⟨s1, s2⟩ := ZrK (ids d.Put) [] [] (by simp [getM])
 simp only [List.not_mem_nil, not_false_eq_true, implies_true, and_true, or_false] at s1 s2
 apply ZpB
 unfold Zcw
 rw [h42]
 simp only [q0_]
 cases hs : (Z8n (ids d.Put) []).1 with
 | true =>
  have h : ¬ (ids d.Put).Nodup := fun h => by rw [hs, decide_eq_true h] at s1; cases s1
  have : ¬ (ids d.Put ++ d.Drop).Nodup := fun h' => h (ZCV.1 h').1
  rw [decide_eq_false this]
  rfl
 | false =>
  have hn : (ids d.Put).Nodup := by
   rw [hs] at s1
   simpa using s1
  rw [h46]
  obtain ⟨t1, _⟩ := ZrK d.Drop _ (ids d.Put) (s2 hs)
  simp only [Zef, if_false, q0_, t1]
  congr 3
  apply propext
  rw [ZCV]
  constructor
  ·rintro ⟨a, b⟩
   exact ⟨hn, a, fun x hx y hy e => b y hy (e ▸ hx)⟩
  ·rintro ⟨_, a, b⟩
   exact ⟨a, fun x hx h => b x h x hx rfl⟩
end N2
end Go.Proofs.YteoeggbihfnbfaaGreatDoor
end
section
namespace Go.Proofs.YteoeggbihfnbfaaGreatDoor
open Go Go.Abs
abbrev MR := List (Int × N2.Zw)
def zR : N2.Zw := N2.Zw.mk 0 0 0 0 (ByteArray.mk #[])
def zS : N2.ZC := N2.ZC.mk 0 0 0 0 []
def mput (m : MR) (l : List N2.Zw) : MR := l.foldl (fun m r => putM m r.ID r) m
def ZhJ : List Int → MR → Option MR
 | [], m => some m
 | i :: l, m => if (getM m i).isSome = true then ZhJ l (delM m i) else none
def ZhI (m : MR) : List Int := (m.map (·.1)).mergeSort (fun a b => decide (a ≤ b))
def orI (a b : Int) : Int := if a = -1 then b else a
def okK (m : MR) : Prop := ∀ q ∈ m, 1 ≤ q.1 ∧ q.1 ≤ 1099511627776
theorem ZNn {m : MR} (h : okK m) {n : Int} (y : N2.Zw) (hn : 1 ≤ n ∧ n ≤ 1099511627776) : okK (putM m n y) := by
 induction m with
 | nil => intro q hq; simp [putM] at hq; subst hq; exact hn
 | cons p r ih =>
  rw [putM]
  have hr : okK r := fun q hq => h q (by simp [hq])
  split
  ·intro q hq
   rcases Z5x.1 hq with rfl | hq
   ·exact hn
   ·exact hr q hq
  ·intro q hq
   rcases Z5x.1 hq with rfl | hq
   ·exact h _ (by simp)
   ·exact ih hr q hq
theorem ZNm {m : MR} (h : okK m) (n : Int) : okK (delM m n) := by
 induction m with
 | nil => exact h
 | cons p r ih =>
  have hr : okK r := fun q hq => h q (by simp [hq])
  rw [delM]
  split
  ·exact hr
  ·intro q hq
   rcases Z5x.1 hq with rfl | hq
   ·exact h _ (by simp)
   ·exact ih hr q hq
theorem ZPy {r : N2.Zw} (h : okR r = true) : 1 ≤ r.ID ∧ r.ID ≤ 1099511627776 := by
 unfold okR at h
 simp only [decide_eq_true_eq] at h
 omega
theorem ZvR : ∀ {l : List N2.Zw} {m : MR}, okK m → l.all okR = true → okK (mput m l)
 | [], _, h, _ => h
 | r :: l, m, h, hl => by
  simp only [ZCS, q6_] at hl
  exact ZvR (l := l) (ZNn h r (ZPy hl.1)) hl.2
theorem ZCx : ∀ {l : List Int} {m m' : MR}, okK m → ZhJ l m = some m' → okK m'
 | [], m, m', h, e => by simp [ZhJ] at e; subst e; exact h
 | i :: l, m, m', h, e => by
  unfold ZhJ at e
  split at e
  ·exact ZCx (ZNm h i) e
  ·simp at e
theorem ZEk : ∀ {l : List N2.Zw} {n : Int}, asc n l = true → l.all okR = true
 | [], n, _ => rfl
 | r :: l, n, h => by
  simp only [asc, q6_] at h
  simp [h.1.1, ZEk h.2]
theorem ZNo {s : N2.ZC} (h : okS s = true) : s.Rules.all okR = true := by
 unfold okS at h
 simp only [q6_] at h
 exact ZEk h.2
namespace N2
theorem ZuJ (a b : Int) : ZhG a b = some (orI a b) := Zvy _ _ (by unfold ZhA orI; by_cases h : a = -1 <;> simp [h])
theorem ZpK (a b : Int) : Zdi a b = some (orI a b) := Zr7 _ _ (by unfold Zdb orI; by_cases h : a = -1 <;> simp [h])
theorem ZpI (a b : Int) : Zdh a b = some (orI a b) := Zr5 _ _ (by unfold Zda orI; by_cases h : a = -1 <;> simp [h])
theorem ZpG (a b : Int) : Zdg a b = some (orI a b) := Zr3 _ _ (by unfold Zd9 orI; by_cases h : a = -1 <;> simp [h])
theorem ZmS : Zb5 = some () := Znt rfl
theorem ZH6 (m : MR) : keysOf (m.map (encM ZE)) = ZhI m := by
 unfold keysOf ZhI
 rw [ZrE]
 rfl
theorem Zlk (m : MR) (h : m.length ≤ 1048576) (hk : okK m) : Zcg m = some (ZhI m) := by
 apply Z1c (fun _ _ ha hb => RRun.uniq (ZlT m) ha hb)
 have e : EE 52 [(.clo 78 [] [(.ptr 0 0)])] [[(.mp 1)], [(.md (m.map (encM ZE)))]] = some ((.p (.lst .sh ((ZhI m).map (eI .i64)))), [[(.mp 1)], [(.md (m.map (encM ZE)))]]) := by
  rw [show EE 52 = E PP XX HH 52 from rfl, Zwc (P := PP) (X := XX) (H := HH) (f := 52) (m := Zqf) (by kernel_rfl)]
  have : Zqf [(.clo 78 [] [(.ptr 0 0)])] [[(.mp 1)], [(.md (m.map (encM ZE)))]] = if (m.map (encM ZE)).length ≤ 1048576 ∧ (∀ q ∈ m.map (encM ZE), -9223372036854775808 ≤ q.1 ∧ q.1 ≤ 9223372036854775807) then some (.p (.lst .sh ((keysOf (m.map (encM ZE))).map fun n => .v (.int .i64 n))), [[(.mp 1)], [(.md (m.map (encM ZE)))]]) else none := rfl
  have hr : ∀ q ∈ m.map (encM ZE), -9223372036854775808 ≤ q.1 ∧ q.1 ≤ 9223372036854775807 := by
   intro q hq
   obtain ⟨p, hp, rfl⟩ := Z7w.1 hq
   have := hk p hp
   show -9223372036854775808 ≤ p.1 ∧ p.1 ≤ 9223372036854775807
   omega
  rw [this, if_pos ⟨by simpa using h, hr⟩, ZH6]
  rfl
 exact ⟨_, e, [], by simp⟩
theorem ZqG (d : N2.Z1f) (n1 n2 n3 n4 : Int) (L : List N2.Zw) (hl : L.length ≤ 1000000) {r : N2.ZC × Int} : ∀ (k i : Nat) (m : MR), i + k = L.length →
  Zbx d n1 n2 n3 n4 (mput m (L.drop i)) = some r → ZbG L (L.length : Int) (i : Int) d n1 n2 n3 n4 m = some r := by
 intro k
 induction k with
 | zero =>
  intro i m h hr
  rw [q9_ (by omega)] at hr
  apply ZjQ
  unfold Zbt
  rw [if_neg (by simp; omega)]
  exact hr
 | succ k ih =>
  intro i m h hr
  have hi : i < L.length := by omega
  rw [Zbe hi] at hr
  apply ZjQ
  unfold Zbt
  rw [if_pos (by simp; omega)]
  unfold ZdR
  rw [Z2T, q2_ hi, ZkQ (by omega) (by omega), show ((i : Int) + 1) = ((i + 1 : Nat) : Int) by omega]
  exact ih (i + 1) _ (by omega) hr
theorem ZqK (n1 n2 n3 n4 : Int) (L : List N2.Zw) (hl : L.length ≤ 1000000) {r : N2.ZC × Int} : ∀ (k i : Nat) (m : MR), i + k = L.length →
  Zbz n1 n2 n3 n4 (mput m (L.drop i)) = some r → ZbI L (L.length : Int) (i : Int) n1 n2 n3 n4 m = some r := by
 intro k
 induction k with
 | zero =>
  intro i m h hr
  rw [q9_ (by omega)] at hr
  apply ZjU
  unfold Zbv
  rw [if_neg (by simp; omega)]
  exact hr
 | succ k ih =>
  intro i m h hr
  have hi : i < L.length := by omega
  rw [Zbe hi] at hr
  apply ZjU
  unfold Zbv
  rw [if_pos (by simp; omega)]
  unfold ZdV
  rw [Z2T, q2_ hi, ZkQ (by omega) (by omega), show ((i : Int) + 1) = ((i + 1 : Nat) : Int) by omega]
  exact ih (i + 1) _ (by omega) hr
theorem ZqI (d : N2.Z1f) (n1 n2 n3 n4 : Int) (L : List Int) (hl : L.length ≤ 1000000) {r : N2.ZC × Int} : ∀ (k i : Nat) (m : MR), i + k = L.length →
  (match ZhJ (L.drop i) m with | some m => Zby d n1 n2 n3 n4 m | none => some (zS, 32)) = some r → ZbH L (L.length : Int) (i : Int) d n1 n2 n3 n4 m = some r := by
 intro k
 induction k with
 | zero =>
  intro i m h hr
  rw [q9_ (by omega)] at hr
  apply ZjS
  unfold Zbu
  rw [if_neg (by simp; omega)]
  exact hr
 | succ k ih =>
  intro i m h hr
  have hi : i < L.length := by omega
  rw [Zbe hi] at hr
  apply ZjS
  unfold Zbu
  rw [if_pos (by simp; omega)]
  unfold ZdS
  rw [Z2T, q2_ hi]
  simp only [q0_, ZdT, ZdU]
  unfold ZhJ at hr
  cases hg : (getM m L[i]).isSome with
  | false => rw [hg] at hr; exact hr
  | true =>
   rw [hg] at hr
   simp only [if_true] at hr
   simp only [Znf, Zef, if_false]
   rw [ZkQ (by omega) (by omega), show ((i : Int) + 1) = ((i + 1 : Nat) : Int) by omega]
   exact ih (i + 1) _ (by omega) hr
theorem ZvN {α : Type} (l : List α) (a : α) (h : l.length ≤ 1000000000) : lapp l [a] = some (l ++ [a]) := by
 unfold lapp
 rw [if_pos (by simp [lim]; omega)]
theorem ZqM (n1 n2 n3 n4 : Int) (m : MR) (K : List Int) (hl : K.length ≤ 1000000) : ∀ (k i : Nat) (out : List N2.Zw), i + k = K.length → out.length ≤ i →
  ZbJ K (K.length : Int) (i : Int) n1 n2 n3 n4 out m = some (⟨n1, n2, n3, n4, out ++ (K.drop i).map fun n => (getM m n).getD zR⟩, 0) := by
 intro k
 induction k with
 | zero =>
  intro i out h ho
  rw [q9_ (by omega)]
  apply ZjW
  unfold Zbw
  rw [if_neg (by simp; omega)]
  simp [ZdY]
 | succ k ih =>
  intro i out h ho
  have hi : i < K.length := by omega
  rw [Zbe hi]
  apply ZjW
  unfold Zbw
  rw [if_pos (by simp; omega)]
  unfold ZdX
  rw [Z2T, q2_ hi]
  simp only [q0_]
  rw [ZvN _ _ (by omega)]
  simp only [q0_]
  rw [ZkQ (by omega) (by omega), show ((i : Int) + 1) = ((i + 1 : Nat) : Int) by omega, ih (i + 1) _ (by omega) (by simp; omega), Z90, ZCU, List.singleton_append]
  rfl
def applyM (s : N2.ZC) (d : N2.Z1f) : N2.ZC × Int :=
 if okS s = false then (zS, 10) else
 if okN (orI d.Default s.Default) (orI d.Closed s.Closed) (orI d.Fuel s.Fuel) (orI d.Stack s.Stack) = false ∨ d.Put.all okR = false then (zS, 30) else
 if ¬ (ids d.Put ++ d.Drop).Nodup then (zS, 31) else
 match ZhJ d.Drop (mput [] s.Rules) with
 | none => (zS, 32)
 | some m =>
  if 16 < (mput m d.Put).length then (zS, 33) else
  (⟨orI d.Default s.Default, orI d.Closed s.Closed, orI d.Fuel s.Fuel, orI d.Stack s.Stack, (ZhI (mput m d.Put)).map fun n => (getM (mput m d.Put) n).getD zR⟩, 0)
theorem ZzY {s : N2.ZC} (h : okS s = true) : s.Rules.length ≤ 16 := by
 unfold okS at h
 simp only [q6_, decide_eq_true_eq] at h
 exact h.1.2
theorem ZJC (m : MR) : (ZhI m).length = m.length := by unfold ZhI; simp
theorem g_rule_Apply_val (s : N2.ZC) (d : N2.Z1f) (h1 : d.Put.length ≤ 1000000) (h2 : d.Drop.length ≤ 1000000) : Zfl s d = some (applyM s d) := by
 apply Zxc
 unfold ZiX applyM
 rw [Zjb]
 simp only [q0_]
 cases hs : okS s with
 | false => rfl
 | true =>
  have hlen := ZzY hs
  simp only [Znf, Zef, if_false, Bool.true_eq_false]
  unfold ZeI
  simp only [ZuJ, ZpK, ZpI, ZpG, Zgk, q0_, ZnO _ h1, Zcv]
  cases hn : okN (orI d.Default s.Default) (orI d.Closed s.Closed) (orI d.Fuel s.Fuel) (orI d.Stack s.Stack) with
  | false => rfl
  | true =>
   simp only [Znf, Zef, if_false, Bool.true_eq_false, false_or]
   cases hp : d.Put.all okR with
   | false => rfl
   | true =>
    simp only [Znf, Zef, if_false, Bool.true_eq_false]
    unfold ZdP
    rw [Zov d h1 h2]
    simp only [q0_]
    by_cases ht : (ids d.Put ++ d.Drop).Nodup
    ·simp only [decide_eq_true ht, Znf, Zef, if_false, ht, not_true]
     unfold ZdQ
     refine ZqG d _ _ _ _ s.Rules (by omega) s.Rules.length 0 [] (by omega) ?_
     unfold Zbx
     refine ZqI d _ _ _ _ d.Drop h2 d.Drop.length 0 _ (by omega) ?_
     simp only [ZxE]
     cases hm : ZhJ d.Drop (mput [] s.Rules) with
     | none => rfl
     | some m =>
      simp only
      unfold Zby
      refine ZqK _ _ _ _ d.Put h1 d.Put.length 0 _ (by omega) ?_
      simp only [ZxE]
      unfold Zbz
      by_cases hc : 16 < (mput m d.Put).length
      ·rw [if_pos (by simp; omega), if_pos hc]; rfl
      ·rw [if_neg (by simp; omega), if_neg hc]
       unfold ZdW
       rw [ZmS, Zlk _ (by omega) (ZvR (ZCx (ZvR (m := []) (fun q hq => by simp at hq) (ZNo hs)) hm) hp)]
       simp only [q0_]
       have hk : (ZhI (mput m d.Put)).length ≤ 1000000 := by rw [ZJC]; omega
       have := ZqM (orI d.Default s.Default) (orI d.Closed s.Closed) (orI d.Fuel s.Fuel) (orI d.Stack s.Stack) (mput m d.Put) (ZhI (mput m d.Put)) hk (ZhI (mput m d.Put)).length 0 [] (by omega) (by simp)
       simpa using this
    ·simp only [decide_eq_false ht, Bool.not_false, if_true, ht, not_false_eq_true]
     rfl
end N2
end Go.Proofs.YteoeggbihfnbfaaGreatDoor
end
section
namespace Go.Proofs.YteoeggbihfnbfaaGreatDoor
open Go Go.Abs
def getL (l : List N2.Zw) (n : Int) : Option N2.Zw := l.find? fun r => r.ID == n
def putL : List N2.Zw → N2.Zw → List N2.Zw
 | [], r => [r]
 | x :: t, r => if x.ID < r.ID then x :: putL t r else r :: (x :: t).filter fun y => y.ID != r.ID
abbrev ZgR (l : List N2.Zw) : Prop := l.Pairwise fun a b => a.ID < b.ID
theorem ZcJ (x : N2.Zw) (t : List N2.Zw) (n : Int) : getL (x :: t) n = if x.ID = n then some x else getL t n := by
 unfold getL
 rw [ZA5]
 by_cases h : x.ID = n
 ·simp [h]
 ·have : (x.ID == n) = false := by simpa using h
  rw [this, if_neg h]
theorem ZpR (l : List N2.Zw) (k n : Int) : getL (l.filter fun y => y.ID != k) n = if n = k then none else getL l n := by
 induction l with
 | nil => simp [getL]
 | cons x t ih =>
  by_cases hx : x.ID = k
  ·rw [List.filter_cons_of_neg (by simp [hx]), ih, ZcJ]
   by_cases hn : n = k
   ·rw [if_pos hn, if_pos hn]
   ·rw [if_neg hn, if_neg hn, if_neg (fun e => hn (by rw [← e, hx]))]
  ·rw [List.filter_cons_of_pos (by simp [hx]), ZcJ, ih, ZcJ]
   by_cases hn : n = k
   ·rw [if_pos hn, if_pos hn, if_neg (fun e => hx (e.trans hn))]
   ·rw [if_neg hn, if_neg hn]
theorem ZJv (l : List N2.Zw) (r : N2.Zw) (n : Int) : getL (putL l r) n = if n = r.ID then some r else getL l n := by
 induction l with
 | nil =>
  rw [putL, ZcJ]
  by_cases h : r.ID = n
  ·rw [if_pos h, if_pos h.symm]
  ·rw [if_neg h, if_neg fun e => h e.symm]
 | cons x t ih =>
  rw [putL]
  split
  ·rename_i hx
   rw [ZcJ, ih, ZcJ]
   by_cases hn : n = r.ID
   ·rw [if_pos hn, if_pos hn, if_neg (by omega)]
   ·rw [if_neg hn, if_neg hn]
  ·rw [ZcJ, ZpR]
   by_cases hn : n = r.ID
   ·rw [if_pos hn.symm, if_pos hn]
   ·rw [if_neg (fun e => hn e.symm), if_neg hn, if_neg hn]
theorem ZCt {l : List N2.Zw} {r y : N2.Zw} (h : y ∈ putL l r) : y = r ∨ y ∈ l := by
 induction l with
 | nil => rw [putL] at h; simpa using h
 | cons x t ih =>
  rw [putL] at h
  split at h
  ·rcases Z5x.1 h with rfl | h
   ·exact .inr (by simp)
   ·rcases ih h with h | h
    ·exact .inl h
    ·exact .inr (by simp [h])
  ·rcases Z5x.1 h with h | h
   ·exact .inl h
   ·exact .inr (Zeg.1 h).1
theorem ZEf {l : List N2.Zw} (h : ZgR l) (r : N2.Zw) : ZgR (putL l r) := by
 induction l with
 | nil => simp [putL, ZgR]
 | cons x t ih =>
  obtain ⟨h1, h2⟩ := Zjx.1 h
  rw [putL]
  split
  ·rename_i hx
   refine Zjx.2 ⟨fun y hy => ?_, ih h2⟩
   rcases ZCt hy with rfl | hy
   ·exact hx
   ·exact h1 y hy
  ·rename_i hx
   refine Zjx.2 ⟨fun y hy => ?_, h.filter _⟩
   obtain ⟨hy, hn⟩ := Zeg.1 hy
   have hn : y.ID ≠ r.ID := by simpa using hn
   rcases Z5x.1 hy with rfl | hy
   ·omega
   ·have := h1 y hy; omega
structure RelM (m : MR) (l : List N2.Zw) : Prop where
 nodup : (m.map (·.1)).Nodup
 sorted : ZgR l
 get : ∀ n, getM m n = getL l n
theorem ZKI (m : MR) (n : Int) (y : N2.Zw) : ∀ k, k ∈ (putM m n y).map (·.1) ↔ k = n ∨ k ∈ m.map (·.1) := by
 intro k
 induction m with
 | nil => simp [putM]
 | cons q r ih =>
  rw [putM]
  split
  ·rename_i h
   simp [h]
  ·simp only [Z90, Z5x, ih]
   constructor
   ·rintro (a | a | a)
    ·exact .inr (.inl a)
    ·exact .inl a
    ·exact .inr (.inr a)
   ·rintro (a | a | a)
    ·exact .inr (.inl a)
    ·exact .inl a
    ·exact .inr (.inr a)
theorem ZJG {m : MR} (h : (m.map (·.1)).Nodup) (n : Int) (y : N2.Zw) : ((putM m n y).map (·.1)).Nodup := by
 induction m with
 | nil => simp [putM]
 | cons q r ih =>
  simp only [Z90, Ztr] at h
  rw [putM]
  split
  ·rename_i hq
   simp only [Z90, Ztr]
   exact ⟨hq ▸ h.1, h.2⟩
  ·rename_i hq
   simp only [Z90, Ztr]
   refine ⟨fun hk => ?_, ih h.2⟩
   rcases (ZKI r n y q.1).1 hk with e | e
   ·exact hq e
   ·exact h.1 e
theorem ZJx {m : MR} {n : Int} (h : n ∉ m.map (·.1)) : getM m n = none := by
 induction m with
 | nil => rfl
 | cons q r ih =>
  simp only [Z90, Z5x, not_or] at h
  rw [getM, if_neg (fun e => h.1 e.symm)]
  exact ih h.2
theorem ZKv {m : MR} {n : Int} : (getM m n).isSome = true ↔ n ∈ m.map (·.1) := by
 induction m with
 | nil => simp [getM]
 | cons q r ih =>
  rw [getM]
  split
  ·rename_i h; simp [h]
  ·rename_i h
   rw [ih, Z90, Z5x]
   exact ⟨.inr, fun hh => hh.resolve_left fun e => h e.symm⟩
theorem ZLP (m : MR) (n : Int) : (delM m n).Sublist m := by
 induction m with
 | nil => exact .slnil
 | cons q r ih =>
  rw [delM]
  split
  ·exact List.sublist_cons_self _ _
  ·exact ih.cons_cons _
theorem ZKu {m : MR} (h : (m.map (·.1)).Nodup) (n k : Int) : getM (delM m n) k = if k = n then none else getM m k := by
 induction m with
 | nil => simp [delM, getM]
 | cons q r ih =>
  simp only [Z90, Ztr] at h
  rw [delM]
  split
  ·rename_i hq
   by_cases hk : k = n
   ·rw [if_pos hk]; exact ZJx (by rw [hk, ← hq]; exact h.1)
   ·rw [if_neg hk, getM, if_neg (by rw [hq]; exact fun e => hk e.symm)]
  ·rename_i hq
   rw [getM, ih h.2, getM]
   by_cases hk : k = n
   ·rw [if_pos hk, if_pos hk, if_neg (fun e => hq (e.trans hk))]
   ·rw [if_neg hk, if_neg hk]
theorem RelM.nil : RelM [] [] := ⟨by simp, by simp [ZgR], fun _ => rfl⟩
theorem RelM.put {m : MR} {l : List N2.Zw} (h : RelM m l) (r : N2.Zw) : RelM (putM m r.ID r) (putL l r) :=
 ⟨ZJG h.nodup _ _, ZEf h.sorted r, fun n => by rw [ZCl, ZJv, h.get]⟩
theorem RelM.del {m : MR} {l : List N2.Zw} (h : RelM m l) (n : Int) : RelM (delM m n) (l.filter fun y => y.ID != n) :=
 ⟨h.nodup.sublist ((ZLP m n).map _), h.sorted.filter _, fun k => by rw [ZKu h.nodup, ZpR, h.get]⟩
theorem RelM.mput {m : MR} {l : List N2.Zw} (h : RelM m l) : ∀ (L : List N2.Zw), RelM (mput m L) (L.foldl putL l)
 | [] => h
 | r :: L => RelM.mput (h.put r) L
theorem ZvH {l : List N2.Zw} {n : Int} : (getL l n).isSome = true ↔ n ∈ ids l := by
 induction l with
 | nil => simp [getL, ids]
 | cons x t ih =>
  rw [ZcJ]
  split
  ·rename_i h; simp [ids, h]
  ·rename_i h
   rw [ih]
   unfold ids
   rw [Z90, Z5x]
   exact ⟨.inr, fun hh => hh.resolve_left fun e => h e.symm⟩
theorem ZDc {l : List N2.Zw} (h : ZgR l) : (ids l).Nodup := by
 unfold ids
 rw [ZHo, List.pairwise_map]
 exact h.imp fun h => by omega
theorem RelM.perm {m : MR} {l : List N2.Zw} (h : RelM m l) : (m.map (·.1)).Perm (ids l) := by
 rw [List.perm_ext_iff_of_nodup h.nodup (ZDc h.sorted)]
 intro n
 rw [← ZKv, h.get, ZvH]
theorem RelM.length {m : MR} {l : List N2.Zw} (h : RelM m l) : m.length = l.length := by
 have := h.perm.length_eq
 simpa [ids] using this
theorem RelM.keys {m : MR} {l : List N2.Zw} (h : RelM m l) : ZhI m = ids l := by
 refine List.Perm.eq_of_pairwise (le := fun a b => a ≤ b) (fun a b _ _ h1 h2 => by omega) ?_ ?_ ((List.mergeSort_perm _ _).trans h.perm)
 ·have := List.pairwise_mergeSort (le := fun a b : Int => decide (a ≤ b)) (fun a b c h1 h2 => by simp at *; omega) (fun a b => by simp; omega) (m.map (·.1))
  exact this.imp fun h => by simpa using h
 ·unfold ids
  rw [List.pairwise_map]
  exact h.sorted.imp fun h => by omega
theorem ZJw {l : List N2.Zw} (h : ZgR l) : ∀ r ∈ l, getL l r.ID = some r := by
 induction l with
 | nil => simp
 | cons x t ih =>
  obtain ⟨h1, h2⟩ := Zjx.1 h
  intro r hr
  rw [ZcJ]
  rcases Z5x.1 hr with rfl | hr
  ·simp
  ·rw [if_neg (by have := h1 r hr; omega)]
   exact ih h2 r hr
theorem RelM.vals {m : MR} {l : List N2.Zw} (h : RelM m l) : ((ZhI m).map fun n => (getM m n).getD zR) = l := by
 rw [h.keys]
 unfold ids
 rw [ZrE]
 conv => rhs; rw [← List.map_id l]
 apply ZvW
 intro r hr
 simp [h.get, ZJw h.sorted r hr]
theorem ZAl : ∀ (D : List Int) {m : MR} {l : List N2.Zw}, RelM m l → D.Nodup →
  (match ZhJ D m with | none => ¬ ∀ n ∈ D, n ∈ ids l | some m' => (∀ n ∈ D, n ∈ ids l) ∧ RelM m' (l.filter fun y => !D.contains y.ID))
 | [], m, l, h, _ => ⟨by simp, by rw [ZHq.2 (by simp)]; exact h⟩
 | i :: D, m, l, h, hn => by
  obtain ⟨h1, h2⟩ := Ztr.1 hn
  unfold ZhJ
  by_cases hi : (getM m i).isSome = true
  ·rw [if_pos hi]
   have ih := ZAl D (h.del i) h2
   have hm : i ∈ ids l := by rw [h.get, ZvH] at hi; exact hi
   have hk : (∀ n ∈ D, n ∈ ids (l.filter fun y => y.ID != i)) ↔ ∀ n ∈ D, n ∈ ids l := by
    constructor
    ·intro hh n hd
     have := hh n hd
     unfold ids at *
     obtain ⟨y, hy, e⟩ := Z7w.1 this
     exact Z7w.2 ⟨y, (Zeg.1 hy).1, e⟩
    ·intro hh n hd
     have := hh n hd
     unfold ids at *
     obtain ⟨y, hy, e⟩ := Z7w.1 this
     refine Z7w.2 ⟨y, Zeg.2 ⟨hy, ?_⟩, e⟩
     have : n ≠ i := fun e => h1 (e ▸ hd)
     simp only [bne_iff_ne, ne_eq, e]
     exact this
   cases hd : ZhJ D (delM m i) with
   | none =>
    rw [hd] at ih
    intro hh
    exact ih (hk.2 fun n hn => hh n (by simp [hn]))
   | some m' =>
    rw [hd] at ih
    refine ⟨fun n hn => ?_, ?_⟩
    ·rcases Z5x.1 hn with rfl | hn
     ·exact hm
     ·exact hk.1 ih.1 n hn
    ·have := ih.2
     rw [List.filter_filter] at this
     have e : (l.filter fun y => !(i :: D).contains y.ID) = l.filter fun a => (!D.contains a.ID) && (a.ID != i) := by
      apply List.filter_congr
      intro y _
      rw [List.contains_cons, Bool.not_or, Bool.and_comm]
      rfl
     rw [e]
     exact this
  ·rw [if_neg hi]
   intro hh
   apply hi
   rw [h.get, ZvH]
   exact hh i (by simp)
theorem Zwj : ∀ {l : List N2.Zw} {n : Int}, asc n l = true → ZgR l ∧ (∀ r ∈ l, n < r.ID) ∧ l.all okR = true
 | [], n, _ => ⟨.nil, by simp, rfl⟩
 | r :: l, n, h => by
  simp only [asc, q6_, decide_eq_true_eq] at h
  obtain ⟨⟨h1, h2⟩, h3⟩ := h
  obtain ⟨a, b, c⟩ := Zwj h3
  refine ⟨Zjx.2 ⟨b, a⟩, ?_, by simp [h1, c]⟩
  intro x hx
  rcases Z5x.1 hx with rfl | hx
  ·exact h2
  ·have := b x hx; omega
theorem ZK3 {l : List N2.Zw} {r : N2.Zw} (h : ∀ x ∈ l, x.ID < r.ID) : putL l r = l ++ [r] := by
 induction l with
 | nil => rfl
 | cons x t ih => rw [putL, if_pos (h x (by simp)), ih fun y hy => h y (by simp [hy])]; rfl
theorem ZAh : ∀ {L l : List N2.Zw}, ZgR (l ++ L) → L.foldl putL l = l ++ L
 | [], l, _ => by simp
 | r :: L, l, h => by
  rw [Zie, ZK3, ZAh]
  ·simp
  ·simpa using h
  ·intro x hx
   exact (List.pairwise_append.1 h).2.2 x hx r (by simp)
def Zbo (s : N2.ZC) (d : N2.Z1f) : N2.ZC × Int :=
 if okS s = false then (zS, 10) else
 if okN (orI d.Default s.Default) (orI d.Closed s.Closed) (orI d.Fuel s.Fuel) (orI d.Stack s.Stack) = false ∨ d.Put.all okR = false then (zS, 30) else
 if ¬ (ids d.Put ++ d.Drop).Nodup then (zS, 31) else
 if ¬ ∀ n ∈ d.Drop, n ∈ ids s.Rules then (zS, 32) else
 if 16 < (d.Put.foldl putL (s.Rules.filter fun y => !d.Drop.contains y.ID)).length then (zS, 33) else
 (⟨orI d.Default s.Default, orI d.Closed s.Closed, orI d.Fuel s.Fuel, orI d.Stack s.Stack, d.Put.foldl putL (s.Rules.filter fun y => !d.Drop.contains y.ID)⟩, 0)
theorem ZHf {s : N2.ZC} (h : okS s = true) : ZgR s.Rules ∧ (∀ r ∈ s.Rules, 0 < r.ID) ∧ s.Rules.all okR = true := by
 unfold okS at h
 simp only [q6_] at h
 exact Zwj h.2
theorem ZHG (s : N2.ZC) (d : N2.Z1f) : N2.applyM s d = Zbo s d := by
 unfold N2.applyM Zbo
 by_cases hs : okS s = false
 ·rw [if_pos hs, if_pos hs]
 rw [if_neg hs, if_neg hs]
 by_cases hn : okN (orI d.Default s.Default) (orI d.Closed s.Closed) (orI d.Fuel s.Fuel) (orI d.Stack s.Stack) = false ∨ d.Put.all okR = false
 ·rw [if_pos hn, if_pos hn]
 rw [if_neg hn, if_neg hn]
 by_cases ht : ¬ (ids d.Put ++ d.Drop).Nodup
 ·rw [if_pos ht, if_pos ht]
 rw [if_neg ht, if_neg ht]
 have hd : d.Drop.Nodup := (ZCV.1 (Classical.not_not.1 ht)).2.1
 obtain ⟨o1, _, _⟩ := ZHf (by simpa using hs)
 have hr : RelM (mput [] s.Rules) s.Rules := by
  have := RelM.nil.mput s.Rules
  rw [ZAh (by simpa using o1)] at this
  simpa using this
 have := ZAl d.Drop hr hd
 cases hm : ZhJ d.Drop (mput [] s.Rules) with
 | none =>
  rw [hm] at this
  rw [if_pos this]
 | some m =>
  rw [hm] at this
  rw [if_neg (fun h => h this.1)]
  have hp := this.2.mput d.Put
  simp only
  rw [hp.length, hp.vals]
theorem ZHH (s : N2.ZC) (d : N2.Z1f) (h1 : d.Put.length ≤ 1000000) (h2 : d.Drop.length ≤ 1000000) : N2.Zfl s d = some (Zbo s d) := by
 rw [N2.g_rule_Apply_val s d h1 h2, ZHG]
end Go.Proofs.YteoeggbihfnbfaaGreatDoor
end
section
namespace Go.Proofs.YteoeggbihfnbfaaGreatDoor
open Go Go.Abs
theorem ZxK {a b : ByteArray} : seq a b = true ↔ a = b := by
 unfold seq
 rw [beq_iff_eq, ByteArray.toList_eq, ByteArray.toList_eq]
 obtain ⟨⟨x⟩⟩ := a
 obtain ⟨⟨y⟩⟩ := b
 simp
def eqR (a b : N2.Zw) : Bool := (a.ID == b.ID) && ((a.Priority == b.Priority) && ((a.Action == b.Action) && ((a.Scope == b.Scope) && ((seq a.Pattern b.Pattern) && true))))
theorem ZEo {a b : N2.Zw} : eqR a b = true ↔ a = b := by
 unfold eqR
 simp only [q6_, beq_iff_eq, ZxK, and_true]
 constructor
 ·rintro ⟨h1, h2, h3, h4, h5⟩
  cases a; cases b
  simp only at h1 h2 h3 h4 h5
  subst h1; subst h2; subst h3; subst h4; subst h5
  rfl
 ·rintro rfl
  exact ⟨rfl, rfl, rfl, rfl, rfl⟩
namespace N2
end N2
namespace N2
theorem filter_self (l : List N2.Zw) : (l.filter fun y => !([] : List Int).contains y.ID) = l := ZHq.2 (by simp)
end N2
theorem ZHF {s : N2.ZC} {d : N2.Z1f} (h1 : okS s = true) (h2 : okN (orI d.Default s.Default) (orI d.Closed s.Closed) (orI d.Fuel s.Fuel) (orI d.Stack s.Stack) = true) (h3 : d.Put.all okR = true)
  (h4 : (ids d.Put ++ d.Drop).Nodup) (h5 : ∀ n ∈ d.Drop, n ∈ ids s.Rules) (h6 : (d.Put.foldl putL (s.Rules.filter fun y => !d.Drop.contains y.ID)).length ≤ 16) :
  Zbo s d = (⟨orI d.Default s.Default, orI d.Closed s.Closed, orI d.Fuel s.Fuel, orI d.Stack s.Stack, d.Put.foldl putL (s.Rules.filter fun y => !d.Drop.contains y.ID)⟩, 0) := by
 unfold Zbo
 rw [if_neg (by simp [h1]), if_neg (by simp [h2, h3]), if_neg (by simpa using h4), if_neg (by simpa using h5), if_neg (by omega)]
namespace N2
end N2
end Go.Proofs.YteoeggbihfnbfaaGreatDoor
end
section
namespace Go.Proofs.YteoeggbihfnbfaaGreatDoor
open Go Go.Abs
def rS (s : N2.ZC) : N2.Z1b := N2.Z1b.mk s.Default s.Closed s.Fuel s.Stack s.Rules
namespace N2
theorem Zns (n1 n2 n3 n4 : Int) (L : List N2.Zw) (hl : L.length ≤ 1000000) : ∀ (k i : Nat) (out : List N2.Zw), i + k = L.length → out.length ≤ i →
  Z8L L (L.length : Int) (i : Int) n1 n2 n3 n4 out = some ⟨n1, n2, n3, n4, out ++ L.drop i⟩ := by
 intro k
 induction k with
 | zero =>
  intro i out h ho
  rw [q9_ (by omega)]
  apply Zf8
  unfold Z8y
  rw [if_neg (by simp; omega)]
  simp [ZaC]
 | succ k ih =>
  intro i out h ho
  have hi : i < L.length := by omega
  rw [Zbe hi]
  apply Zf8
  unfold Z8y
  rw [if_pos (by simp; omega)]
  unfold ZaB
  rw [Z2T, q2_ hi]
  simp only [q0_]
  rw [ZvN _ _ (by omega)]
  simp only [q0_]
  rw [ZkQ (by omega) (by omega), show ((i : Int) + 1) = ((i + 1 : Nat) : Int) by omega, ih (i + 1) _ (by omega) (by simp; omega), ZCU, List.singleton_append]
end N2
namespace N2
theorem Zol (s : N2.ZC) (h : s.Rules.length ≤ 1000000) : Zaq s = some (rS s) := by
 apply Zps
 unfold Zcs
 have := Zns s.Default s.Closed s.Fuel s.Stack s.Rules h s.Rules.length 0 [] (by omega) (by simp)
 simpa [rS] using this
end N2
namespace N2
theorem ZuG (x y : N2.Z1b) (hx : x.Rules.length ≤ 1000000) (hy : y.Rules.length = x.Rules.length) : ∀ (k i : Nat), i + k = x.Rules.length →
  ∃ b, ZcH (i : Int) x y = some b ∧ (b = true ↔ x.Rules.drop i = y.Rules.drop i) := by
 intro k
 induction k with
 | zero =>
  intro i h
  rw [q9_ (by omega), q9_ (by omega)]
  refine ⟨true, ?_, by simp⟩
  apply Zfk
  unfold ZaE
  rw [if_neg (by simp; omega)]
  rfl
 | succ k ih =>
  intro i h
  have hi : i < x.Rules.length := by omega
  have hj : i < y.Rules.length := by omega
  obtain ⟨b, h1, h2⟩ := ih (i + 1) (by omega)
  by_cases he : x.Rules[i] = y.Rules[i]
  ·refine ⟨b, ?_, ?_⟩
   ·apply Zfk
    unfold ZaE
    rw [if_pos (by simp; omega)]
    unfold Zcu
    rw [Z2T, q2_ hi, Z2T, q2_ hj]
    simp only [q0_]
    have := ZEo.2 he
    unfold eqR at this
    rw [this]
    simp only [Znf, Zef, if_false, ZeH]
    rw [ZkQ (by omega) (by omega), show ((i : Int) + 1) = ((i + 1 : Nat) : Int) by omega]
    exact h1
   ·rw [h2, Zbe hi, Zbe hj, he, List.cons_inj_right]
  ·refine ⟨false, ?_, ?_⟩
   ·apply Zfk
    unfold ZaE
    rw [if_pos (by simp; omega)]
    unfold Zcu
    rw [Z2T, q2_ hi, Z2T, q2_ hj]
    simp only [q0_]
    have : eqR x.Rules[i] y.Rules[i] = false := by
     cases hq : eqR x.Rules[i] y.Rules[i] with
     | false => rfl
     | true => exact absurd (ZEo.1 hq) he
    unfold eqR at this
    rw [this]
    rfl
   ·rw [Zbe hi, Zbe hj]
    simp only [Zef, Zts, false_iff, not_and]
    intro e
    exact absurd e he
end N2
namespace N2
theorem Zvv (x y : N2.Z1b) (hx : x.Rules.length ≤ 1000000) : ∃ b, Zfj x y = some b ∧ (b = true ↔ x = y) := by
 have hxy : x = y ↔ x.Default = y.Default ∧ x.Closed = y.Closed ∧ x.Fuel = y.Fuel ∧ x.Stack = y.Stack ∧ x.Rules = y.Rules := by
  cases x; cases y; simp
 by_cases h1 : x.Default = y.Default
 case neg => exact ⟨false, ZaH _ _ (by unfold Z9a; rw [if_pos (by simpa using h1)]; rfl), by simp [hxy, h1]⟩
 by_cases h2 : x.Closed = y.Closed
 case neg => exact ⟨false, ZaH _ _ (by unfold Z9a; rw [if_neg (by simpa using h1), if_pos (by simpa using h2)]; rfl), by simp [hxy, h2]⟩
 by_cases h3 : x.Fuel = y.Fuel
 case neg => exact ⟨false, ZaH _ _ (by unfold Z9a; rw [if_neg (by simpa using h1), if_neg (by simpa using h2), if_pos (by simpa using h3)]; rfl), by simp [hxy, h3]⟩
 by_cases h4 : x.Stack = y.Stack
 case neg => exact ⟨false, ZaH _ _ (by unfold Z9a; rw [if_neg (by simpa using h1), if_neg (by simpa using h2), if_neg (by simpa using h3), if_pos (by simpa using h4)]; rfl), by simp [hxy, h4]⟩
 by_cases h5 : x.Rules.length = y.Rules.length
 case neg =>
  exact ⟨false, ZaH _ _ (by unfold Z9a; rw [if_neg (by simpa using h1), if_neg (by simpa using h2), if_neg (by simpa using h3), if_neg (by simpa using h4), if_pos (by simp; omega)]; rfl),
   by simp only [hxy]; simp; intro _ _ _ _ e; exact absurd (congrArg List.length e) h5⟩
 obtain ⟨b, e1, e2⟩ := ZuG x y hx h5.symm x.Rules.length 0 (by omega)
 refine ⟨b, ZaH _ _ ?_, ?_⟩
 ·unfold Z9a
  rw [if_neg (by simpa using h1), if_neg (by simpa using h2), if_neg (by simpa using h3), if_neg (by simpa using h4), if_neg (by simp; omega)]
  exact e1
 ·rw [e2, hxy]; simp [h1, h2, h3, h4]
end N2
namespace N2
theorem ZuH (x : N2.Z1b) (hx : x.Rules.length ≤ 1000000) : Zfj x x = some true := by
 obtain ⟨b, h1, h2⟩ := Zvv x x hx
 rw [h1, h2.2 rfl]
end N2
end Go.Proofs.YteoeggbihfnbfaaGreatDoor
end
section
namespace Go.Proofs.YteoeggbihfnbfaaGreatDoor
open Go Go.Abs
noncomputable def patF (x : ByteArray) : N2.ZX := (N2.Z6C x).getD ⟨0, 0, 0⟩
abbrev Fine (r : N2.Zw) : Prop := (patF r.Pattern).Code = 0
noncomputable def badF (r : N2.Zw) : N2.ZX := ⟨(patF r.Pattern).Code, r.ID, (patF r.Pattern).At⟩
noncomputable def ZcQ : List N2.Zw → N2.ZX
 | [] => ⟨0, 0, 0⟩
 | r :: l => if (patF r.Pattern).Code = 0 then ZcQ l else badF r
noncomputable def ZbU (s : N2.ZC) : N2.ZX := if okS s = false then ⟨10, 0, 0⟩ else ZcQ s.Rules
noncomputable def Z8G (s : N2.ZC) (d : N2.Z1f) : N2.ZC × N2.ZX :=
 if (Zbo s d).2 ≠ 0 then (zS, ⟨(Zbo s d).2, 0, 0⟩) else if (ZbU (Zbo s d).1).Code ≠ 0 then (zS, ZbU (Zbo s d).1) else ((Zbo s d).1, ⟨0, 0, 0⟩)
theorem ZrR : ∀ {l : List N2.Zw}, (∀ r ∈ l, Fine r) → ZcQ l = ⟨0, 0, 0⟩
 | [], _ => rfl
 | r :: l, h => by rw [ZcQ, if_pos (h r (by simp)), ZrR fun x hx => h x (by simp [hx])]
theorem ZrS : ∀ {l : List N2.Zw}, (ZcQ l).Code = 0 → ∀ r ∈ l, Fine r
 | [], _ => by simp
 | r :: l, h => by
  intro x hx
  rw [ZcQ] at h
  split at h
  ·rename_i hr
   rcases Z5x.1 hx with rfl | hx
   ·exact hr
   ·exact ZrS h x hx
  ·rename_i hr
   exact absurd h hr
theorem ZsS {x : N2.Zw} : ∀ {l : List N2.Zw}, (∀ r ∈ l, r = x ∨ Fine r) → x ∈ l → ¬ Fine x → ZcQ l = badF x
 | [], _, h, _ => by simp at h
 | r :: l, h1, h2, h3 => by
  rw [ZcQ]
  split
  ·rename_i hr
   have : x ≠ r := fun e => h3 (e ▸ hr)
   rcases Z5x.1 h2 with e | h2
   ·exact absurd e this
   ·exact ZsS (fun y hy => h1 y (by simp [hy])) h2 h3
  ·rename_i hr
   rcases h1 r (by simp) with rfl | h
   ·rfl
   ·exact absurd h hr
theorem ZEd {s : N2.ZC} (h : (ZbU s).Code = 0) : okS s = true ∧ ∀ r ∈ s.Rules, Fine r := by
 unfold ZbU at h
 split at h
 ·simp at h
 ·rename_i hs
  exact ⟨by simpa using hs, ZrS h⟩
theorem ZEc {s : N2.ZC} (h : okS s = true) (h2 : ∀ r ∈ s.Rules, Fine r) : ZbU s = ⟨0, 0, 0⟩ := by
 unfold ZbU
 rw [if_neg (by simp [h]), ZrR h2]
abbrev put1 (x : N2.Zw) : N2.Z1f := ⟨-1, -1, -1, -1, [x], []⟩
theorem ZLG {s : N2.ZC} (h : okS s = true) : okN s.Default s.Closed s.Fuel s.Stack = true := by
 unfold okS at h
 simp only [q6_] at h
 exact h.1.1
theorem ZvT (n : Int) : orI (-1) n = n := by simp [orI]
theorem Zwi {s : N2.ZC} {x : N2.Zw} (h : okS s = true) (hx : okR x = true) : Zbo s (put1 x) = if (putL s.Rules x).length ≤ 16 then (⟨s.Default, s.Closed, s.Fuel, s.Stack, putL s.Rules x⟩, 0) else (zS, 33) := by
 have hf : (s.Rules.filter fun y => !([] : List Int).contains y.ID) = s.Rules := N2.filter_self _
 by_cases hl : (putL s.Rules x).length ≤ 16
 ·rw [if_pos hl]
  have := ZHF (s := s) (d := put1 x) h (by simp only [ZvT]; exact ZLG h) (by simp [hx]) (by simp [ids]) (by simp) (by rw [hf]; simpa using hl)
  rw [this, hf]
  simp only [ZvT, Zie, List.foldl_nil]
 ·rw [if_neg hl]
  unfold Zbo
  simp only [ZvT]
  rw [if_neg (by simp [h]), if_neg (by simp [ZLG h, hx]), if_neg (by simp [ids])]
  rw [if_neg (by simp), hf]
  rw [if_pos (by simpa using hl)]
theorem ZF9 {s : N2.ZC} {d : N2.Z1f} (h : (Z8G s d).2.Code = 0) : okS (Z8G s d).1 = true := by
 unfold Z8G at h ⊢
 split at h
 ·rename_i he
  exact absurd h he
 ·rename_i he
  rw [if_neg he]
  split at h
  ·rename_i hc
   exact absurd h hc
  ·rename_i hc
   rw [if_neg hc]
   exact (ZEd (by simpa using hc)).1
theorem ZAO {s : N2.ZC} {d : N2.Z1f} (h : (Z8G s d).2.Code = 0) : (ZbU (Z8G s d).1).Code = 0 := by
 unfold Z8G at h ⊢
 split at h
 ·rename_i he
  exact absurd h he
 ·rename_i he
  rw [if_neg he]
  split at h
  ·rename_i hc
   exact absurd h hc
  ·rename_i hc
   rw [if_neg hc]
   simpa using hc
end Go.Proofs.YteoeggbihfnbfaaGreatDoor
end
section
namespace Go.Proofs.YteoeggbihfnbfaaGreatDoor.N2
open Go Go.Abs Go.Proofs.Unis Go.Proofs.Norm
set_option maxRecDepth 100000
theorem ZHl (x : ByteArray) : ∃ v, Z6C x = some v ∧ v.Rule = 0 := by
 by_cases h : (Z9m x).2.Code = 0
 ·obtain ⟨v, hv⟩ := ZKw (ZHk h)
  refine ⟨⟨chkF v, 0, 0⟩, ?_, rfl⟩
  apply Zbb
  unfold Z7R Z9h
  rw [Zo3, q0_, if_neg (ZfP h)]
  rw [show (Z9m x).1 = ⟨(Z9m x).1.Root, (Z9m x).1.Groups, (Z9m x).1.Fold⟩ from rfl, ZA7 hv, q0_]
 ·refine ⟨⟨(Z9m x).2.Code, 0, (Z9m x).2.At⟩, ?_, rfl⟩
  apply Zbb
  unfold Z7R
  rw [Zo3, q0_, if_pos (Zii h)]
theorem ZE7 (x : ByteArray) : Z6C x = some (patF x) := by
 obtain ⟨v, h, _⟩ := ZHl x
 unfold patF
 rw [h]
 rfl
theorem ZHt (L : List Zw) (hl : L.length ≤ 1000000) : ∀ (k i : Nat), i + k = L.length → Zar L (L.length : Int) (i : Int) = some (ZcQ (L.drop i)) := by
 intro k
 induction k with
 | zero =>
  intro i h
  apply Ziw
  unfold Zam Zca
  rw [if_neg (Z2p (by omega)), q9_ (by omega)]
  rfl
 | succ k ih =>
  intro i h
  have hi : i < L.length := by omega
  have ih := ih (i + 1) (by omega)
  apply Ziw
  unfold Zam Zcz Zc9
  rw [if_pos (Z2t (by omega)), Z2T, q2_ hi, q0_, ZE7, q0_, Zbe hi, ZcQ]
  by_cases hc : (patF L[i].Pattern).Code = 0
  ·rw [if_neg (ZfP hc), if_pos hc, wrap_i64 (by omega) (by omega)]
   exact ih
  ·rw [if_pos (Zii hc), if_neg hc]
   rfl
theorem ZK5 (s : ZC) : ZeQ s = some (ZbU s) := by
 apply Zt7
 unfold ZeM Zcy ZbU
 rw [Zjb, q0_]
 cases h : okS s with
 | false => rfl
 | true =>
  rw [if_neg (by simp), if_neg (by simp)]
  exact ZHt s.Rules (ZgO (ZzY h) (by omega)) s.Rules.length 0 (by omega)
theorem ZFa (s : ZC) (d : Z1f) (h1 : d.Put.length ≤ 1000000) (h2 : d.Drop.length ≤ 1000000) : Zec s d = some (Z8G s d) := by
 apply Zsf
 unfold Ze5 Zc7 Zc8 Z8G
 rw [ZHH s d h1 h2, q0_]
 by_cases h : (Zbo s d).2 = 0
 ·rw [if_neg (ZfP h), if_neg (by simp [h]), ZK5, q0_]
  by_cases hc : (ZbU (Zbo s d).1).Code = 0
  ·rw [if_neg (ZfP hc), if_neg (by simp [hc])]
  ·rw [if_pos (Zii hc), if_pos hc]
   rfl
 ·rw [if_pos (Zii h), if_pos h]
  rfl
theorem ZNx {x : ByteArray} (h : (Z9m x).2.Code ≠ 0) : patF x = ⟨(Z9m x).2.Code, 0, (Z9m x).2.At⟩ := by
 have : Z6C x = some ⟨(Z9m x).2.Code, 0, (Z9m x).2.At⟩ := by
  apply Zbb
  unfold Z7R
  rw [Zo3, q0_, if_pos (Zii h)]
 unfold patF
 rw [this]
 rfl
end Go.Proofs.YteoeggbihfnbfaaGreatDoor.N2
end
