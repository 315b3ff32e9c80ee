/- Rules, sets, deltas, verdicts, as plain functions. No condition. -/
import Derived.Test.YteoeggbihfnbfaaGreatDoorPlain
import Derived.Test.YteoeggbihfnbfaaGreatDoorTypB
import Derived.Test.YteoeggbihfnbfaaGreatDoorTypC
import Derived.Test.YteoeggbihfnbfaaGreatDoorPlainB

set_option linter.unusedSimpArgs false
set_option linter.unusedVariables false
set_option linter.defProp false
section
namespace Go.Proofs.YteoeggbihfnbfaaGreatDoor
open Go Go.Abs
def okR (r : N2.ZA) : Bool := decide (1 ≤ r.ID ∧ r.ID ≤ 1099511627776 ∧ 0 ≤ r.Priority ∧ r.Priority ≤ 1000 ∧ 0 ≤ r.Action ∧ r.Action ≤ 255 ∧ 1 ≤ r.Scope ∧ r.Scope ≤ 65535 ∧ (r.Pattern.size : Int) ≤ 256)
def okN (a b c d : Int) : Bool := decide (0 ≤ a ∧ a ≤ 255 ∧ 0 ≤ b ∧ b ≤ 255 ∧ 1 ≤ c ∧ c ≤ 1048576 ∧ 0 ≤ d ∧ d ≤ 4096)
def asc : Int → List N2.ZA → Bool
 | _, [] => true
 | n, r :: l => okR r && decide (n < r.ID) && asc r.ID l
def okS (s : N2.ZD) : Bool := okN s.Default s.Closed s.Fuel s.Stack && decide (s.Rules.length ≤ 16) && asc 0 s.Rules
namespace N2
theorem ZaI (r : N2.ZA) : Z9v r = some (okR r) := by
 apply Zr8
 unfold Zdf okR
 repeat' split
 all_goals simp_all
 all_goals omega
theorem Zgq (s : N2.ZD) : Z9P s = some (okN s.Default s.Closed s.Fuel s.Stack) := by
 apply ZoG
 unfold Zc8 okN
 repeat' split
 all_goals simp_all
 all_goals omega
theorem ZkT {i : Int} (h1 : 0 ≤ i) (h2 : i ≤ 1000000000) : IntKind.i64.wrap (i + 1) = i + 1 := wrap_i64 (by omega) (by omega)
theorem ZpM (L : List N2.ZA) (hl : L.length ≤ 1000000) : ∀ (d i : Nat) (n : Int), i + d = L.length → Z9O n L (L.length : Int) (i : Int) = some (asc n (L.drop i)) := by
 intro d
 induction d with
 | zero =>
  intro i n h
  apply Zh6
  unfold Z9I
  rw [if_neg (by simp; omega), q9_ (by omega)]
  rfl
 | succ d ih =>
  intro i n h
  apply Zh6
  unfold Z9I
  have hi : i < L.length := by omega
  rw [if_pos (by simp; omega)]
  unfold Zc6
  rw [Z2W, q2_ hi, Zbi hi]
  simp only [q0_, ZaI, asc, Z9K, Zc7, Zb7]
  cases h1 : okR L[i] with
  | false => simp
  | true =>
   simp only [Znn, Zel, if_false, Zw4]
   by_cases h2 : L[i].ID ≤ n
   ·rw [if_pos (by simpa using h2)]
    have : ¬ n < L[i].ID := by omega
    simp [this]
   ·rw [if_neg (by simpa using h2), ZkT (by omega) (by omega)]
    have := ih (i + 1) L[i].ID (by omega)
    rw [show ((i : Int) + 1) = ((i + 1 : Nat) : Int) by omega, this]
    have : n < L[i].ID := by omega
    simp [this]
theorem Zjb (s : N2.ZD) : ZbN s = some (okS s) := by
 apply Zsf
 unfold Ze6
 simp only [Zgq, q0_, Z9J, Zc5, okS]
 cases h : okN s.Default s.Closed s.Fuel s.Stack with
 | false => simp
 | true =>
  by_cases h2 : s.Rules.length ≤ 16
  ·have h3 : ¬ 16 < (s.Rules.length : Int) := by omega
   simp only [Znn, Zel, if_false, h3, decide_false, h2, decide_true, Zw4]
   exact ZpM s.Rules (by omega) s.Rules.length 0 0 (by omega)
  ·have h3 : 16 < (s.Rules.length : Int) := by omega
   simp [h2, h3]
end N2
end Go.Proofs.YteoeggbihfnbfaaGreatDoor
end
section
namespace Go.Proofs.YteoeggbihfnbfaaGreatDoor
open Go Go.Abs
def Z8s : List Int → List (Int × Bool) → Bool × List (Int × Bool)
 | [], m => (false, m)
 | x :: xs, m => if (getM m x).getD false = true then (true, putM m x true) else Z8s xs (putM m x true)
def ids (l : List N2.ZA) : List Int := l.map (·.ID)
theorem ZCr {α : Type} (m : List (Int × α)) (n k : Int) (y : α) : getM (putM m n y) k = if k = n then some y else getM m k := by
 induction m with
 | nil => simp only [putM, getM]; by_cases h : n = k <;> simp [h, eq_comm]
 | cons q r ih =>
  simp only [putM]
  split
  ·rename_i h
   simp only [getM]
   by_cases hk : n = k
   ·simp [hk]
   ·simp only [if_neg hk]; rw [h, if_neg hk, if_neg (fun e => hk e.symm)]
  ·rename_i h
   simp only [getM, ih]
   by_cases hk : q.1 = k
   ·rw [if_pos hk]; have : k ≠ n := fun e => h (hk.trans e); rw [if_neg this, if_pos hk]
   ·rw [if_neg hk]; split <;> simp [hk]
theorem ZrP : ∀ (xs : List Int) (m : List (Int × Bool)) (seen : List Int), (∀ x, (getM m x).getD false = decide (x ∈ seen)) → (Z8s xs m).1 = !decide (xs.Nodup ∧ ∀ x ∈ xs, x ∉ seen) ∧
  ((Z8s xs m).1 = false → ∀ x, (getM (Z8s xs m).2 x).getD false = decide (x ∈ xs ∨ x ∈ seen))
 | [], m, seen, h => by simpa [Z8s] using h
 | x :: xs, m, seen, h => by
  unfold Z8s
  rw [h x]
  by_cases hx : x ∈ seen
  ·rw [decide_eq_true hx]
   simp only [if_true]
   refine ⟨?_, fun e => by cases e⟩
   have : ¬ ((x :: xs).Nodup ∧ ∀ y ∈ x :: xs, y ∉ seen) := fun hh => hh.2 x (by simp) hx
   simp only [decide_eq_false this, Bool.not_false]
  ·rw [if_neg (by simpa using hx)]
   have hm : ∀ y, (getM (putM m x true) y).getD false = decide (y ∈ x :: seen) := by
    intro y
    rw [ZCr]
    by_cases hy : y = x
    ·simp [hy]
    ·rw [if_neg hy, h y]; simp [hy]
   obtain ⟨h1, h2⟩ := ZrP xs _ (x :: seen) hm
   refine ⟨?_, fun e y => ?_⟩
   ·rw [h1]
    congr 2
    apply propext
    simp only [Zty, Z5E, not_or, forall_eq_or_imp]
    constructor
    ·rintro ⟨a, b⟩
     exact ⟨⟨fun hh => (b x hh).1 rfl, a⟩, hx, fun y hy => (b y hy).2⟩
    ·rintro ⟨⟨a, b⟩, _, c⟩
     exact ⟨b, fun y hy => ⟨fun e => a (e ▸ hy), c y hy⟩⟩
   ·rw [h2 e y]
    congr 1
    apply propext
    simp only [Z5E]
    constructor
    ·rintro (a | a | a)
     ·exact .inl (.inr a)
     ·exact .inl (.inl a)
     ·exact .inr a
    ·rintro ((a | a) | a)
     ·exact .inr (.inl a)
     ·exact .inl a
     ·exact .inr (.inr a)
namespace N2
theorem Zi6 (L : List N2.ZA) (hl : L.length ≤ 1000000) : ∀ (d i : Nat), i + d = L.length → ∃ n, Z5A L (L.length : Int) (i : Int) = some n ∧ decide (0 ≤ n) = (L.drop i).any fun r => !okR r := by
 intro d
 induction d with
 | zero =>
  intro i h
  refine ⟨-1, ?_, by rw [q9_ (by omega)]; rfl⟩
  apply Z8h
  unfold Z4v
  rw [if_neg (by simp; omega)]
  rfl
 | succ d ih =>
  intro i h
  have hi : i < L.length := by omega
  rw [Zbi hi]
  obtain ⟨n, h1, h2⟩ := ih (i + 1) (by omega)
  cases hr : okR L[i] with
  | false =>
   refine ⟨i, ?_, by simp only [Zw7, hr]; simp⟩
   apply Z8h
   unfold Z4v
   rw [if_pos (by simp; omega)]
   unfold Z5r
   have h43 : Z8U L[i] = some true := Zfq _ (by unfold Z8L; simp [ZaI, hr])
   simp [Z2W, q2_ hi, h43]
  | true =>
   refine ⟨n, ?_, by simp only [Zw7, hr, h2]; simp⟩
   apply Z8h
   unfold Z4v
   rw [if_pos (by simp; omega)]
   unfold Z5r
   have h43 : Z8U L[i] = some false := Zfq _ (by unfold Z8L; simp [ZaI, hr])
   simp only [Z2W, q2_ hi, h43, q0_, Zel, if_false, Z6V]
   rw [ZkT (by omega) (by omega), show ((i : Int) + 1) = ((i + 1 : Nat) : Int) by omega]
   exact h1
theorem ZnX (L : List N2.ZA) (hl : L.length ≤ 1000000) : Zcg L = some (L.all okR) := by
 obtain ⟨n, h1, h2⟩ := Zi6 L hl L.length 0 (by omega)
 apply ZoH
 have h52 : Z88 L = some n := Zjl _ (by unfold Z83; exact h1)
 have h42 : Z6Z L = some (decide (0 ≤ n)) := Zhe _ (by unfold Z6R; rw [h52]; rfl)
 unfold Zc9
 rw [h42, h2]
 simp [List.all_eq_not_any_not]
theorem Za1 (n : Int) (m : List (Int × Bool)) : Z7x n m = some ((getM m n).getD false, putM m n true) := Zlf _ _ rfl
theorem ZdH (r : N2.ZA) (m : List (Int × Bool)) : Z9n r m = some ((getM m r.ID).getD false, putM m r.ID true) := Zlg _ _ (by unfold Z9f; rw [Za1]; rfl)
theorem Zi7 (L : List N2.ZA) (hl : L.length ≤ 1000000) : ∀ (d i : Nat) (m : List (Int × Bool)), i + d = L.length →
  ∃ n, Z5B L (L.length : Int) (i : Int) m = some (n, (Z8s (ids (L.drop i)) m).2) ∧ decide (0 ≤ n) = (Z8s (ids (L.drop i)) m).1 := by
 intro d
 induction d with
 | zero =>
  intro i m h
  rw [q9_ (by omega)]
  refine ⟨-1, ?_, rfl⟩
  apply Z8i
  unfold Z4w
  rw [if_neg (by simp; omega)]
  rfl
 | succ d ih =>
  intro i m h
  have hi : i < L.length := by omega
  rw [Zbi hi]
  obtain ⟨n, h1, h2⟩ := ih (i + 1) (putM m L[i].ID true) (by omega)
  simp only [ids, Z93, Z8s]
  by_cases hs : (getM m L[i].ID).getD false = true
  ·rw [if_pos hs]
   refine ⟨i, ?_, by simp⟩
   apply Z8i
   unfold Z4w
   rw [if_pos (by simp; omega)]
   unfold Z5s
   simp [Z2W, q2_ hi, ZdH, hs]
  ·rw [if_neg hs]
   refine ⟨n, ?_, h2⟩
   apply Z8i
   unfold Z4w
   rw [if_pos (by simp; omega)]
   unfold Z5s
   simp only [Z2W, q2_ hi, ZdH, q0_, if_neg hs, Z6W]
   rw [ZkT (by omega) (by omega), show ((i : Int) + 1) = ((i + 1 : Nat) : Int) by omega]
   exact h1
theorem ZiR (L : List Int) (hl : L.length ≤ 1000000) : ∀ (d i : Nat) (m : List (Int × Bool)), i + d = L.length →
  ∃ n, Z5N L (L.length : Int) (i : Int) m = some (n, (Z8s (L.drop i) m).2) ∧ decide (0 ≤ n) = (Z8s (L.drop i) m).1 := by
 intro d
 induction d with
 | zero =>
  intro i m h
  rw [q9_ (by omega)]
  refine ⟨-1, ?_, rfl⟩
  apply Z8y
  unfold Z4G
  rw [if_neg (by simp; omega)]
  rfl
 | succ d ih =>
  intro i m h
  have hi : i < L.length := by omega
  rw [Zbi hi]
  obtain ⟨n, h1, h2⟩ := ih (i + 1) (putM m L[i] true) (by omega)
  simp only [Z8s]
  by_cases hs : (getM m L[i]).getD false = true
  ·rw [if_pos hs]
   refine ⟨i, ?_, by simp⟩
   apply Z8y
   unfold Z4G
   rw [if_pos (by simp; omega)]
   unfold Z5L
   simp [Z2W, q2_ hi, Za1, hs]
  ·rw [if_neg hs]
   refine ⟨n, ?_, h2⟩
   apply Z8y
   unfold Z4G
   rw [if_pos (by simp; omega)]
   unfold Z5L
   simp only [Z2W, q2_ hi, Za1, q0_, if_neg hs, Z7g]
   rw [ZkT (by omega) (by omega), show ((i : Int) + 1) = ((i + 1 : Nat) : Int) by omega]
   exact h1
theorem ZoF (d : N2.Z1i) (h1 : d.Put.length ≤ 1000000) (h2 : d.Drop.length ≤ 1000000) : ZcL d = some (!decide (ids d.Put ++ d.Drop).Nodup) := by
 obtain ⟨n, e1, e2⟩ := Zi7 d.Put h1 d.Put.length 0 [] (by omega)
 have h52 : Z89 d.Put [] = some (n, (Z8s (ids d.Put) []).2) := Zjn _ _ (by unfold Z84; exact e1)
 have h42 : Z70 d.Put [] = some ((Z8s (ids d.Put) []).1, (Z8s (ids d.Put) []).2) := Zhg _ _ (by unfold Z6S; rw [h52]; simpa using e2)
 obtain ⟨k, f1, f2⟩ := ZiR d.Drop h2 d.Drop.length 0 (Z8s (ids d.Put) []).2 (by omega)
 have h53 : Z8o d.Drop (Z8s (ids d.Put) []).2 = some (k, (Z8s d.Drop (Z8s (ids d.Put) []).2).2) := ZjK _ _ (by unfold Z8m; exact f1)
 have h46 : Z7m d.Drop (Z8s (ids d.Put) []).2 = some ((Z8s d.Drop (Z8s (ids d.Put) []).2).1, (Z8s d.Drop (Z8s (ids d.Put) []).2).2) := Zi0 _ _ (by unfold Z7e; rw [h53]; simpa using f2)
 obtain ⟨s1, s2⟩ := ZrP (ids d.Put) [] [] (by simp [getM])
 simp only [List.not_mem_nil, not_false_eq_true, implies_true, and_true, or_false] at s1 s2
 apply ZpJ
 unfold Zcz
 rw [h42]
 simp only [q0_]
 cases hs : (Z8s (ids d.Put) []).1 with
 | true =>
  have h : ¬ (ids d.Put).Nodup := fun h => by rw [hs, decide_eq_true h] at s1; cases s1
  have : ¬ (ids d.Put ++ d.Drop).Nodup := fun h' => h (ZxG.1 h').1
  rw [decide_eq_false this]
  rfl
 | false =>
  have hn : (ids d.Put).Nodup := by
   rw [hs] at s1
   simpa using s1
  rw [h46]
  obtain ⟨t1, _⟩ := ZrP d.Drop _ (ids d.Put) (s2 hs)
  simp only [Zel, if_false, q0_, t1]
  congr 3
  apply propext
  rw [ZxG]
  constructor
  ·rintro ⟨a, b⟩
   exact ⟨hn, a, fun x hx y hy e => b y hy (e ▸ hx)⟩
  ·rintro ⟨_, a, b⟩
   exact ⟨a, fun x hx h => b x h x hx rfl⟩
end N2
end Go.Proofs.YteoeggbihfnbfaaGreatDoor
end
section
namespace Go.Proofs.YteoeggbihfnbfaaGreatDoor
open Go Go.Abs
abbrev MR := List (Int × N2.ZA)
def zR : N2.ZA := N2.ZA.mk 0 0 0 0 (ByteArray.mk #[])
def zS : N2.ZD := N2.ZD.mk 0 0 0 0 []
def mput (m : MR) (l : List N2.ZA) : MR := l.foldl (fun m r => putM m r.ID r) m
def ZhN : List Int → MR → Option MR
 | [], m => some m
 | i :: l, m => if (getM m i).isSome = true then ZhN l (delM m i) else none
def ZhM (m : MR) : List Int := (m.map (·.1)).mergeSort (fun a b => decide (a ≤ b))
def orI (a b : Int) : Int := if a = -1 then b else a
def okK (m : MR) : Prop := ∀ q ∈ m, 1 ≤ q.1 ∧ q.1 ≤ 1099511627776
theorem ZNq {m : MR} (h : okK m) {n : Int} (y : N2.ZA) (hn : 1 ≤ n ∧ n ≤ 1099511627776) : okK (putM m n y) := by
 induction m with
 | nil => intro q hq; simp [putM] at hq; subst hq; exact hn
 | cons p r ih =>
  rw [putM]
  have hr : okK r := fun q hq => h q (by simp [hq])
  split
  ·intro q hq
   rcases Z5E.1 hq with rfl | hq
   ·exact hn
   ·exact hr q hq
  ·intro q hq
   rcases Z5E.1 hq with rfl | hq
   ·exact h _ (by simp)
   ·exact ih hr q hq
theorem ZNp {m : MR} (h : okK m) (n : Int) : okK (delM m n) := by
 induction m with
 | nil => exact h
 | cons p r ih =>
  have hr : okK r := fun q hq => h q (by simp [hq])
  rw [delM]
  split
  ·exact hr
  ·intro q hq
   rcases Z5E.1 hq with rfl | hq
   ·exact h _ (by simp)
   ·exact ih hr q hq
theorem ZPx {r : N2.ZA} (h : okR r = true) : 1 ≤ r.ID ∧ r.ID ≤ 1099511627776 := by
 unfold okR at h
 simp only [decide_eq_true_eq] at h
 omega
theorem ZvU : ∀ {l : List N2.ZA} {m : MR}, okK m → l.all okR = true → okK (mput m l)
 | [], _, h, _ => h
 | r :: l, m, h, hl => by
  simp only [ZCZ, q6_] at hl
  exact ZvU (l := l) (ZNq h r (ZPx hl.1)) hl.2
theorem ZCD : ∀ {l : List Int} {m m' : MR}, okK m → ZhN l m = some m' → okK m'
 | [], m, m', h, e => by simp [ZhN] at e; subst e; exact h
 | i :: l, m, m', h, e => by
  unfold ZhN at e
  split at e
  ·exact ZCD (ZNp h i) e
  ·simp at e
theorem ZEm : ∀ {l : List N2.ZA} {n : Int}, asc n l = true → l.all okR = true
 | [], n, _ => rfl
 | r :: l, n, h => by
  simp only [asc, q6_] at h
  simp [h.1.1, ZEm h.2]
theorem ZNr {s : N2.ZD} (h : okS s = true) : s.Rules.all okR = true := by
 unfold okS at h
 simp only [q6_] at h
 exact ZEm h.2
namespace N2
theorem ZuN (a b : Int) : ZhK a b = some (orI a b) := ZvC _ _ (by unfold ZhE orI; by_cases h : a = -1 <;> simp [h])
theorem ZpS (a b : Int) : Zdp a b = some (orI a b) := Zre _ _ (by unfold Zdi orI; by_cases h : a = -1 <;> simp [h])
theorem ZpQ (a b : Int) : Zdo a b = some (orI a b) := Zrc _ _ (by unfold Zdh orI; by_cases h : a = -1 <;> simp [h])
theorem ZpO (a b : Int) : Zdn a b = some (orI a b) := Zra _ _ (by unfold Zdg orI; by_cases h : a = -1 <;> simp [h])
theorem ZmZ : Zb9 = some () := ZnC rfl
theorem ZH5 (m : MR) : keysOf (m.map (encM ZE)) = ZhM m := by
 unfold keysOf ZhM
 rw [ZrJ]
 rfl
theorem Zlm (m : MR) (h : m.length ≤ 1048576) (hk : okK m) : Zcj m = some (ZhM m) := by
 apply Z1f (fun _ _ ha hb => RRun.uniq (ZlX m) ha hb)
 have e : EE 52 [(.clo 78 [] [(.ptr 0 0)])] [[(.mp 1)], [(.md (m.map (encM ZE)))]] = some ((.p (.lst .sh ((ZhM m).map (eI .i64)))), [[(.mp 1)], [(.md (m.map (encM ZE)))]]) := by
  rw [show EE 52 = E PP XX HH 52 from rfl, Zwf (P := PP) (X := XX) (H := HH) (f := 52) (m := Zql) (by kernel_rfl)]
  have : Zql [(.clo 78 [] [(.ptr 0 0)])] [[(.mp 1)], [(.md (m.map (encM ZE)))]] = if (m.map (encM ZE)).length ≤ 1048576 ∧ (∀ q ∈ m.map (encM ZE), -9223372036854775808 ≤ q.1 ∧ q.1 ≤ 9223372036854775807) then some (.p (.lst .sh ((keysOf (m.map (encM ZE))).map fun n => .v (.int .i64 n))), [[(.mp 1)], [(.md (m.map (encM ZE)))]]) else none := rfl
  have hr : ∀ q ∈ m.map (encM ZE), -9223372036854775808 ≤ q.1 ∧ q.1 ≤ 9223372036854775807 := by
   intro q hq
   obtain ⟨p, hp, rfl⟩ := Z7A.1 hq
   have := hk p hp
   show -9223372036854775808 ≤ p.1 ∧ p.1 ≤ 9223372036854775807
   omega
  rw [this, if_pos ⟨by simpa using h, hr⟩, ZH5]
  rfl
 exact ⟨_, e, [], by simp⟩
theorem ZqN (d : N2.Z1i) (n1 n2 n3 n4 : Int) (L : List N2.ZA) (hl : L.length ≤ 1000000) {r : N2.ZD × Int} : ∀ (k i : Nat) (m : MR), i + k = L.length →
  ZbA d n1 n2 n3 n4 (mput m (L.drop i)) = some r → ZbJ L (L.length : Int) (i : Int) d n1 n2 n3 n4 m = some r := by
 intro k
 induction k with
 | zero =>
  intro i m h hr
  rw [q9_ (by omega)] at hr
  apply ZjR
  unfold Zbw
  rw [if_neg (by simp; omega)]
  exact hr
 | succ k ih =>
  intro i m h hr
  have hi : i < L.length := by omega
  rw [Zbi hi] at hr
  apply ZjR
  unfold Zbw
  rw [if_pos (by simp; omega)]
  unfold ZdY
  rw [Z2W, q2_ hi, ZkT (by omega) (by omega), show ((i : Int) + 1) = ((i + 1 : Nat) : Int) by omega]
  exact ih (i + 1) _ (by omega) hr
theorem ZqR (n1 n2 n3 n4 : Int) (L : List N2.ZA) (hl : L.length ≤ 1000000) {r : N2.ZD × Int} : ∀ (k i : Nat) (m : MR), i + k = L.length →
  ZbC n1 n2 n3 n4 (mput m (L.drop i)) = some r → ZbL L (L.length : Int) (i : Int) n1 n2 n3 n4 m = some r := by
 intro k
 induction k with
 | zero =>
  intro i m h hr
  rw [q9_ (by omega)] at hr
  apply ZjV
  unfold Zby
  rw [if_neg (by simp; omega)]
  exact hr
 | succ k ih =>
  intro i m h hr
  have hi : i < L.length := by omega
  rw [Zbi hi] at hr
  apply ZjV
  unfold Zby
  rw [if_pos (by simp; omega)]
  unfold Ze2
  rw [Z2W, q2_ hi, ZkT (by omega) (by omega), show ((i : Int) + 1) = ((i + 1 : Nat) : Int) by omega]
  exact ih (i + 1) _ (by omega) hr
theorem ZqP (d : N2.Z1i) (n1 n2 n3 n4 : Int) (L : List Int) (hl : L.length ≤ 1000000) {r : N2.ZD × Int} : ∀ (k i : Nat) (m : MR), i + k = L.length →
  (match ZhN (L.drop i) m with | some m => ZbB d n1 n2 n3 n4 m | none => some (zS, 32)) = some r → ZbK L (L.length : Int) (i : Int) d n1 n2 n3 n4 m = some r := by
 intro k
 induction k with
 | zero =>
  intro i m h hr
  rw [q9_ (by omega)] at hr
  apply ZjT
  unfold Zbx
  rw [if_neg (by simp; omega)]
  exact hr
 | succ k ih =>
  intro i m h hr
  have hi : i < L.length := by omega
  rw [Zbi hi] at hr
  apply ZjT
  unfold Zbx
  rw [if_pos (by simp; omega)]
  unfold ZdZ
  rw [Z2W, q2_ hi]
  simp only [q0_, Ze0, Ze1]
  unfold ZhN at hr
  cases hg : (getM m L[i]).isSome with
  | false => rw [hg] at hr; exact hr
  | true =>
   rw [hg] at hr
   simp only [if_true] at hr
   simp only [Znn, Zel, if_false]
   rw [ZkT (by omega) (by omega), show ((i : Int) + 1) = ((i + 1 : Nat) : Int) by omega]
   exact ih (i + 1) _ (by omega) hr
theorem Zrs {α : Type} (l : List α) (a : α) (h : l.length ≤ 1000000000) : lapp l [a] = some (l ++ [a]) := by
 unfold lapp
 rw [if_pos (by simp [lim]; omega)]
theorem ZqT (n1 n2 n3 n4 : Int) (m : MR) (K : List Int) (hl : K.length ≤ 1000000) : ∀ (k i : Nat) (out : List N2.ZA), i + k = K.length → out.length ≤ i →
  ZbM K (K.length : Int) (i : Int) n1 n2 n3 n4 out m = some (⟨n1, n2, n3, n4, out ++ (K.drop i).map fun n => (getM m n).getD zR⟩, 0) := by
 intro k
 induction k with
 | zero =>
  intro i out h ho
  rw [q9_ (by omega)]
  apply ZjX
  unfold Zbz
  rw [if_neg (by simp; omega)]
  simp [Ze5]
 | succ k ih =>
  intro i out h ho
  have hi : i < K.length := by omega
  rw [Zbi hi]
  apply ZjX
  unfold Zbz
  rw [if_pos (by simp; omega)]
  unfold Ze4
  rw [Z2W, q2_ hi]
  simp only [q0_]
  rw [Zrs _ _ (by omega)]
  simp only [q0_]
  rw [ZkT (by omega) (by omega), show ((i : Int) + 1) = ((i + 1 : Nat) : Int) by omega, ih (i + 1) _ (by omega) (by simp; omega), Z93, ZD1, List.singleton_append]
  rfl
def applyM (s : N2.ZD) (d : N2.Z1i) : N2.ZD × Int :=
 if okS s = false then (zS, 10) else
 if okN (orI d.Default s.Default) (orI d.Closed s.Closed) (orI d.Fuel s.Fuel) (orI d.Stack s.Stack) = false ∨ d.Put.all okR = false then (zS, 30) else
 if ¬ (ids d.Put ++ d.Drop).Nodup then (zS, 31) else
 match ZhN d.Drop (mput [] s.Rules) with
 | none => (zS, 32)
 | some m =>
  if 16 < (mput m d.Put).length then (zS, 33) else
  (⟨orI d.Default s.Default, orI d.Closed s.Closed, orI d.Fuel s.Fuel, orI d.Stack s.Stack, (ZhM (mput m d.Put)).map fun n => (getM (mput m d.Put) n).getD zR⟩, 0)
theorem ZzU {s : N2.ZD} (h : okS s = true) : s.Rules.length ≤ 16 := by
 unfold okS at h
 simp only [q6_, decide_eq_true_eq] at h
 exact h.1.2
theorem ZJH (m : MR) : (ZhM m).length = m.length := by unfold ZhM; simp
theorem g_rule_Apply_val (s : N2.ZD) (d : N2.Z1i) (h1 : d.Put.length ≤ 1000000) (h2 : d.Drop.length ≤ 1000000) : Zfp s d = some (applyM s d) := by
 apply Zxf
 unfold ZiY applyM
 rw [Zjb]
 simp only [q0_]
 cases hs : okS s with
 | false => rfl
 | true =>
  have hlen := ZzU hs
  simp only [Znn, Zel, if_false, Bool.true_eq_false]
  unfold ZeR
  simp only [ZuN, ZpS, ZpQ, ZpO, Zgq, q0_, ZnX _ h1, Zcy]
  cases hn : okN (orI d.Default s.Default) (orI d.Closed s.Closed) (orI d.Fuel s.Fuel) (orI d.Stack s.Stack) with
  | false => rfl
  | true =>
   simp only [Znn, Zel, if_false, Bool.true_eq_false, false_or]
   cases hp : d.Put.all okR with
   | false => rfl
   | true =>
    simp only [Znn, Zel, if_false, Bool.true_eq_false]
    unfold ZdW
    rw [ZoF d h1 h2]
    simp only [q0_]
    by_cases ht : (ids d.Put ++ d.Drop).Nodup
    ·simp only [decide_eq_true ht, Znn, Zel, if_false, ht, not_true]
     unfold ZdX
     refine ZqN d _ _ _ _ s.Rules (by omega) s.Rules.length 0 [] (by omega) ?_
     unfold ZbA
     refine ZqP d _ _ _ _ d.Drop h2 d.Drop.length 0 _ (by omega) ?_
     simp only [ZxI]
     cases hm : ZhN d.Drop (mput [] s.Rules) with
     | none => rfl
     | some m =>
      simp only
      unfold ZbB
      refine ZqR _ _ _ _ d.Put h1 d.Put.length 0 _ (by omega) ?_
      simp only [ZxI]
      unfold ZbC
      by_cases hc : 16 < (mput m d.Put).length
      ·rw [if_pos (by simp; omega), if_pos hc]; rfl
      ·rw [if_neg (by simp; omega), if_neg hc]
       unfold Ze3
       rw [ZmZ, Zlm _ (by omega) (ZvU (ZCD (ZvU (m := []) (fun q hq => by simp at hq) (ZNr hs)) hm) hp)]
       simp only [q0_]
       have hk : (ZhM (mput m d.Put)).length ≤ 1000000 := by rw [ZJH]; omega
       have := ZqT (orI d.Default s.Default) (orI d.Closed s.Closed) (orI d.Fuel s.Fuel) (orI d.Stack s.Stack) (mput m d.Put) (ZhM (mput m d.Put)) hk (ZhM (mput m d.Put)).length 0 [] (by omega) (by simp)
       simpa using this
    ·simp only [decide_eq_false ht, Bool.not_false, if_true, ht, not_false_eq_true]
     rfl
end N2
end Go.Proofs.YteoeggbihfnbfaaGreatDoor
end
section
namespace Go.Proofs.YteoeggbihfnbfaaGreatDoor
open Go Go.Abs
def getL (l : List N2.ZA) (n : Int) : Option N2.ZA := l.find? fun r => r.ID == n
def putL : List N2.ZA → N2.ZA → List N2.ZA
 | [], r => [r]
 | x :: t, r => if x.ID < r.ID then x :: putL t r else r :: (x :: t).filter fun y => y.ID != r.ID
abbrev ZgX (l : List N2.ZA) : Prop := l.Pairwise fun a b => a.ID < b.ID
theorem ZcN (x : N2.ZA) (t : List N2.ZA) (n : Int) : getL (x :: t) n = if x.ID = n then some x else getL t n := by
 unfold getL
 rw [ZA1]
 by_cases h : x.ID = n
 ·simp [h]
 ·have : (x.ID == n) = false := by simpa using h
  rw [this, if_neg h]
theorem ZpZ (l : List N2.ZA) (k n : Int) : getL (l.filter fun y => y.ID != k) n = if n = k then none else getL l n := by
 induction l with
 | nil => simp [getL]
 | cons x t ih =>
  by_cases hx : x.ID = k
  ·rw [List.filter_cons_of_neg (by simp [hx]), ih, ZcN]
   by_cases hn : n = k
   ·rw [if_pos hn, if_pos hn]
   ·rw [if_neg hn, if_neg hn, if_neg (fun e => hn (by rw [← e, hx]))]
  ·rw [List.filter_cons_of_pos (by simp [hx]), ZcN, ih, ZcN]
   by_cases hn : n = k
   ·rw [if_pos hn, if_pos hn, if_neg (fun e => hx (e.trans hn))]
   ·rw [if_neg hn, if_neg hn]
theorem ZJz (l : List N2.ZA) (r : N2.ZA) (n : Int) : getL (putL l r) n = if n = r.ID then some r else getL l n := by
 induction l with
 | nil =>
  rw [putL, ZcN]
  by_cases h : r.ID = n
  ·rw [if_pos h, if_pos h.symm]
  ·rw [if_neg h, if_neg fun e => h e.symm]
 | cons x t ih =>
  rw [putL]
  split
  ·rename_i hx
   rw [ZcN, ih, ZcN]
   by_cases hn : n = r.ID
   ·rw [if_pos hn, if_pos hn, if_neg (by omega)]
   ·rw [if_neg hn, if_neg hn]
  ·rw [ZcN, ZpZ]
   by_cases hn : n = r.ID
   ·rw [if_pos hn.symm, if_pos hn]
   ·rw [if_neg (fun e => hn e.symm), if_neg hn, if_neg hn]
theorem ZCz {l : List N2.ZA} {r y : N2.ZA} (h : y ∈ putL l r) : y = r ∨ y ∈ l := by
 induction l with
 | nil => rw [putL] at h; simpa using h
 | cons x t ih =>
  rw [putL] at h
  split at h
  ·rcases Z5E.1 h with rfl | h
   ·exact .inr (by simp)
   ·rcases ih h with h | h
    ·exact .inl h
    ·exact .inr (by simp [h])
  ·rcases Z5E.1 h with h | h
   ·exact .inl h
   ·exact .inr (Zem.1 h).1
theorem ZEi {l : List N2.ZA} (h : ZgX l) (r : N2.ZA) : ZgX (putL l r) := by
 induction l with
 | nil => simp [putL, ZgX]
 | cons x t ih =>
  obtain ⟨h1, h2⟩ := Zjx.1 h
  rw [putL]
  split
  ·rename_i hx
   refine Zjx.2 ⟨fun y hy => ?_, ih h2⟩
   rcases ZCz hy with rfl | hy
   ·exact hx
   ·exact h1 y hy
  ·rename_i hx
   refine Zjx.2 ⟨fun y hy => ?_, h.filter _⟩
   obtain ⟨hy, hn⟩ := Zem.1 hy
   have hn : y.ID ≠ r.ID := by simpa using hn
   rcases Z5E.1 hy with rfl | hy
   ·omega
   ·have := h1 y hy; omega
structure RelM (m : MR) (l : List N2.ZA) : Prop where
 nodup : (m.map (·.1)).Nodup
 sorted : ZgX l
 get : ∀ n, getM m n = getL l n
theorem ZKQ (m : MR) (n : Int) (y : N2.ZA) : ∀ k, k ∈ (putM m n y).map (·.1) ↔ k = n ∨ k ∈ m.map (·.1) := by
 intro k
 induction m with
 | nil => simp [putM]
 | cons q r ih =>
  rw [putM]
  split
  ·rename_i h
   simp [h]
  ·simp only [Z93, Z5E, ih]
   constructor
   ·rintro (a | a | a)
    ·exact .inr (.inl a)
    ·exact .inl a
    ·exact .inr (.inr a)
   ·rintro (a | a | a)
    ·exact .inr (.inl a)
    ·exact .inl a
    ·exact .inr (.inr a)
theorem ZJL {m : MR} (h : (m.map (·.1)).Nodup) (n : Int) (y : N2.ZA) : ((putM m n y).map (·.1)).Nodup := by
 induction m with
 | nil => simp [putM]
 | cons q r ih =>
  simp only [Z93, Zty] at h
  rw [putM]
  split
  ·rename_i hq
   simp only [Z93, Zty]
   exact ⟨hq ▸ h.1, h.2⟩
  ·rename_i hq
   simp only [Z93, Zty]
   refine ⟨fun hk => ?_, ih h.2⟩
   rcases (ZKQ r n y q.1).1 hk with e | e
   ·exact hq e
   ·exact h.1 e
theorem ZJB {m : MR} {n : Int} (h : n ∉ m.map (·.1)) : getM m n = none := by
 induction m with
 | nil => rfl
 | cons q r ih =>
  simp only [Z93, Z5E, not_or] at h
  rw [getM, if_neg (fun e => h.1 e.symm)]
  exact ih h.2
theorem ZKF {m : MR} {n : Int} : (getM m n).isSome = true ↔ n ∈ m.map (·.1) := by
 induction m with
 | nil => simp [getM]
 | cons q r ih =>
  rw [getM]
  split
  ·rename_i h; simp [h]
  ·rename_i h
   rw [ih, Z93, Z5E]
   exact ⟨.inr, fun hh => hh.resolve_left fun e => h e.symm⟩
theorem ZLV (m : MR) (n : Int) : (delM m n).Sublist m := by
 induction m with
 | nil => exact .slnil
 | cons q r ih =>
  rw [delM]
  split
  ·exact List.sublist_cons_self _ _
  ·exact ih.cons_cons _
theorem ZKE {m : MR} (h : (m.map (·.1)).Nodup) (n k : Int) : getM (delM m n) k = if k = n then none else getM m k := by
 induction m with
 | nil => simp [delM, getM]
 | cons q r ih =>
  simp only [Z93, Zty] at h
  rw [delM]
  split
  ·rename_i hq
   by_cases hk : k = n
   ·rw [if_pos hk]; exact ZJB (by rw [hk, ← hq]; exact h.1)
   ·rw [if_neg hk, getM, if_neg (by rw [hq]; exact fun e => hk e.symm)]
  ·rename_i hq
   rw [getM, ih h.2, getM]
   by_cases hk : k = n
   ·rw [if_pos hk, if_pos hk, if_neg (fun e => hq (e.trans hk))]
   ·rw [if_neg hk, if_neg hk]
theorem RelM.nil : RelM [] [] := ⟨by simp, by simp [ZgX], fun _ => rfl⟩
theorem RelM.put {m : MR} {l : List N2.ZA} (h : RelM m l) (r : N2.ZA) : RelM (putM m r.ID r) (putL l r) :=
 ⟨ZJL h.nodup _ _, ZEi h.sorted r, fun n => by rw [ZCr, ZJz, h.get]⟩
theorem RelM.del {m : MR} {l : List N2.ZA} (h : RelM m l) (n : Int) : RelM (delM m n) (l.filter fun y => y.ID != n) :=
 ⟨h.nodup.sublist ((ZLV m n).map _), h.sorted.filter _, fun k => by rw [ZKE h.nodup, ZpZ, h.get]⟩
theorem RelM.mput {m : MR} {l : List N2.ZA} (h : RelM m l) : ∀ (L : List N2.ZA), RelM (mput m L) (L.foldl putL l)
 | [] => h
 | r :: L => RelM.mput (h.put r) L
theorem ZvL {l : List N2.ZA} {n : Int} : (getL l n).isSome = true ↔ n ∈ ids l := by
 induction l with
 | nil => simp [getL, ids]
 | cons x t ih =>
  rw [ZcN]
  split
  ·rename_i h; simp [ids, h]
  ·rename_i h
   rw [ih]
   unfold ids
   rw [Z93, Z5E]
   exact ⟨.inr, fun hh => hh.resolve_left fun e => h e.symm⟩
theorem ZDh {l : List N2.ZA} (h : ZgX l) : (ids l).Nodup := by
 unfold ids
 rw [ZHo, List.pairwise_map]
 exact h.imp fun h => by omega
theorem RelM.perm {m : MR} {l : List N2.ZA} (h : RelM m l) : (m.map (·.1)).Perm (ids l) := by
 rw [List.perm_ext_iff_of_nodup h.nodup (ZDh h.sorted)]
 intro n
 rw [← ZKF, h.get, ZvL]
theorem RelM.length {m : MR} {l : List N2.ZA} (h : RelM m l) : m.length = l.length := by
 have := h.perm.length_eq
 simpa [ids] using this
theorem RelM.keys {m : MR} {l : List N2.ZA} (h : RelM m l) : ZhM m = ids l := by
 refine List.Perm.eq_of_pairwise (le := fun a b => a ≤ b) (fun a b _ _ h1 h2 => by omega) ?_ ?_ ((List.mergeSort_perm _ _).trans h.perm)
 ·have := List.pairwise_mergeSort (le := fun a b : Int => decide (a ≤ b)) (fun a b c h1 h2 => by simp at *; omega) (fun a b => by simp; omega) (m.map (·.1))
  exact this.imp fun h => by simpa using h
 ·unfold ids
  rw [List.pairwise_map]
  exact h.sorted.imp fun h => by omega
theorem ZJA {l : List N2.ZA} (h : ZgX l) : ∀ r ∈ l, getL l r.ID = some r := by
 induction l with
 | nil => simp
 | cons x t ih =>
  obtain ⟨h1, h2⟩ := Zjx.1 h
  intro r hr
  rw [ZcN]
  rcases Z5E.1 hr with rfl | hr
  ·simp
  ·rw [if_neg (by have := h1 r hr; omega)]
   exact ih h2 r hr
theorem RelM.vals {m : MR} {l : List N2.ZA} (h : RelM m l) : ((ZhM m).map fun n => (getM m n).getD zR) = l := by
 rw [h.keys]
 unfold ids
 rw [ZrJ]
 conv => rhs; rw [← List.map_id l]
 apply Zw0
 intro r hr
 simp [h.get, ZJA h.sorted r hr]
theorem ZAi : ∀ (D : List Int) {m : MR} {l : List N2.ZA}, RelM m l → D.Nodup →
  (match ZhN D m with | none => ¬ ∀ n ∈ D, n ∈ ids l | some m' => (∀ n ∈ D, n ∈ ids l) ∧ RelM m' (l.filter fun y => !D.contains y.ID))
 | [], m, l, h, _ => ⟨by simp, by rw [ZHq.2 (by simp)]; exact h⟩
 | i :: D, m, l, h, hn => by
  obtain ⟨h1, h2⟩ := Zty.1 hn
  unfold ZhN
  by_cases hi : (getM m i).isSome = true
  ·rw [if_pos hi]
   have ih := ZAi D (h.del i) h2
   have hm : i ∈ ids l := by rw [h.get, ZvL] at hi; exact hi
   have hk : (∀ n ∈ D, n ∈ ids (l.filter fun y => y.ID != i)) ↔ ∀ n ∈ D, n ∈ ids l := by
    constructor
    ·intro hh n hd
     have := hh n hd
     unfold ids at *
     obtain ⟨y, hy, e⟩ := Z7A.1 this
     exact Z7A.2 ⟨y, (Zem.1 hy).1, e⟩
    ·intro hh n hd
     have := hh n hd
     unfold ids at *
     obtain ⟨y, hy, e⟩ := Z7A.1 this
     refine Z7A.2 ⟨y, Zem.2 ⟨hy, ?_⟩, e⟩
     have : n ≠ i := fun e => h1 (e ▸ hd)
     simp only [bne_iff_ne, ne_eq, e]
     exact this
   cases hd : ZhN D (delM m i) with
   | none =>
    rw [hd] at ih
    intro hh
    exact ih (hk.2 fun n hn => hh n (by simp [hn]))
   | some m' =>
    rw [hd] at ih
    refine ⟨fun n hn => ?_, ?_⟩
    ·rcases Z5E.1 hn with rfl | hn
     ·exact hm
     ·exact hk.1 ih.1 n hn
    ·have := ih.2
     rw [List.filter_filter] at this
     have e : (l.filter fun y => !(i :: D).contains y.ID) = l.filter fun a => (!D.contains a.ID) && (a.ID != i) := by
      apply List.filter_congr
      intro y _
      rw [List.contains_cons, Bool.not_or, Bool.and_comm]
      rfl
     rw [e]
     exact this
  ·rw [if_neg hi]
   intro hh
   apply hi
   rw [h.get, ZvL]
   exact hh i (by simp)
theorem Zwm : ∀ {l : List N2.ZA} {n : Int}, asc n l = true → ZgX l ∧ (∀ r ∈ l, n < r.ID) ∧ l.all okR = true
 | [], n, _ => ⟨.nil, by simp, rfl⟩
 | r :: l, n, h => by
  simp only [asc, q6_, decide_eq_true_eq] at h
  obtain ⟨⟨h1, h2⟩, h3⟩ := h
  obtain ⟨a, b, c⟩ := Zwm h3
  refine ⟨Zjx.2 ⟨b, a⟩, ?_, by simp [h1, c]⟩
  intro x hx
  rcases Z5E.1 hx with rfl | hx
  ·exact h2
  ·have := b x hx; omega
theorem ZK9 {l : List N2.ZA} {r : N2.ZA} (h : ∀ x ∈ l, x.ID < r.ID) : putL l r = l ++ [r] := by
 induction l with
 | nil => rfl
 | cons x t ih => rw [putL, if_pos (h x (by simp)), ih fun y hy => h y (by simp [hy])]; rfl
theorem ZAe : ∀ {L l : List N2.ZA}, ZgX (l ++ L) → L.foldl putL l = l ++ L
 | [], l, _ => by simp
 | r :: L, l, h => by
  rw [Zif, ZK9, ZAe]
  ·simp
  ·simpa using h
  ·intro x hx
   exact (List.pairwise_append.1 h).2.2 x hx r (by simp)
def Zbr (s : N2.ZD) (d : N2.Z1i) : N2.ZD × Int :=
 if okS s = false then (zS, 10) else
 if okN (orI d.Default s.Default) (orI d.Closed s.Closed) (orI d.Fuel s.Fuel) (orI d.Stack s.Stack) = false ∨ d.Put.all okR = false then (zS, 30) else
 if ¬ (ids d.Put ++ d.Drop).Nodup then (zS, 31) else
 if ¬ ∀ n ∈ d.Drop, n ∈ ids s.Rules then (zS, 32) else
 if 16 < (d.Put.foldl putL (s.Rules.filter fun y => !d.Drop.contains y.ID)).length then (zS, 33) else
 (⟨orI d.Default s.Default, orI d.Closed s.Closed, orI d.Fuel s.Fuel, orI d.Stack s.Stack, d.Put.foldl putL (s.Rules.filter fun y => !d.Drop.contains y.ID)⟩, 0)
theorem ZHe {s : N2.ZD} (h : okS s = true) : ZgX s.Rules ∧ (∀ r ∈ s.Rules, 0 < r.ID) ∧ s.Rules.all okR = true := by
 unfold okS at h
 simp only [q6_] at h
 exact Zwm h.2
theorem ZHG (s : N2.ZD) (d : N2.Z1i) : N2.applyM s d = Zbr s d := by
 unfold N2.applyM Zbr
 by_cases hs : okS s = false
 ·rw [if_pos hs, if_pos hs]
 rw [if_neg hs, if_neg hs]
 by_cases hn : okN (orI d.Default s.Default) (orI d.Closed s.Closed) (orI d.Fuel s.Fuel) (orI d.Stack s.Stack) = false ∨ d.Put.all okR = false
 ·rw [if_pos hn, if_pos hn]
 rw [if_neg hn, if_neg hn]
 by_cases ht : ¬ (ids d.Put ++ d.Drop).Nodup
 ·rw [if_pos ht, if_pos ht]
 rw [if_neg ht, if_neg ht]
 have hd : d.Drop.Nodup := (ZxG.1 (Classical.not_not.1 ht)).2.1
 obtain ⟨o1, _, _⟩ := ZHe (by simpa using hs)
 have hr : RelM (mput [] s.Rules) s.Rules := by
  have := RelM.nil.mput s.Rules
  rw [ZAe (by simpa using o1)] at this
  simpa using this
 have := ZAi d.Drop hr hd
 cases hm : ZhN d.Drop (mput [] s.Rules) with
 | none =>
  rw [hm] at this
  rw [if_pos this]
 | some m =>
  rw [hm] at this
  rw [if_neg (fun h => h this.1)]
  have hp := this.2.mput d.Put
  simp only
  rw [hp.length, hp.vals]
theorem ZHH (s : N2.ZD) (d : N2.Z1i) (h1 : d.Put.length ≤ 1000000) (h2 : d.Drop.length ≤ 1000000) : N2.Zfp s d = some (Zbr s d) := by
 rw [N2.g_rule_Apply_val s d h1 h2, ZHG]
end Go.Proofs.YteoeggbihfnbfaaGreatDoor
end
section
namespace Go.Proofs.YteoeggbihfnbfaaGreatDoor
open Go Go.Abs
theorem ZxN {a b : ByteArray} : seq a b = true ↔ a = b := by
 unfold seq
 rw [beq_iff_eq, ByteArray.toList_eq, ByteArray.toList_eq]
 obtain ⟨⟨x⟩⟩ := a
 obtain ⟨⟨y⟩⟩ := b
 simp
def eqR (a b : N2.ZA) : Bool := (a.ID == b.ID) && ((a.Priority == b.Priority) && ((a.Action == b.Action) && ((a.Scope == b.Scope) && ((seq a.Pattern b.Pattern) && true))))
theorem ZEq {a b : N2.ZA} : eqR a b = true ↔ a = b := by
 unfold eqR
 simp only [q6_, beq_iff_eq, ZxN, and_true]
 constructor
 ·rintro ⟨h1, h2, h3, h4, h5⟩
  cases a; cases b
  simp only at h1 h2 h3 h4 h5
  subst h1; subst h2; subst h3; subst h4; subst h5
  rfl
 ·rintro rfl
  exact ⟨rfl, rfl, rfl, rfl, rfl⟩
namespace N2
end N2
namespace N2
theorem filter_self (l : List N2.ZA) : (l.filter fun y => !([] : List Int).contains y.ID) = l := ZHq.2 (by simp)
end N2
theorem ZHF {s : N2.ZD} {d : N2.Z1i} (h1 : okS s = true) (h2 : okN (orI d.Default s.Default) (orI d.Closed s.Closed) (orI d.Fuel s.Fuel) (orI d.Stack s.Stack) = true) (h3 : d.Put.all okR = true)
  (h4 : (ids d.Put ++ d.Drop).Nodup) (h5 : ∀ n ∈ d.Drop, n ∈ ids s.Rules) (h6 : (d.Put.foldl putL (s.Rules.filter fun y => !d.Drop.contains y.ID)).length ≤ 16) :
  Zbr s d = (⟨orI d.Default s.Default, orI d.Closed s.Closed, orI d.Fuel s.Fuel, orI d.Stack s.Stack, d.Put.foldl putL (s.Rules.filter fun y => !d.Drop.contains y.ID)⟩, 0) := by
 unfold Zbr
 rw [if_neg (by simp [h1]), if_neg (by simp [h2, h3]), if_neg (by simpa using h4), if_neg (by simpa using h5), if_neg (by omega)]
namespace N2
end N2
end Go.Proofs.YteoeggbihfnbfaaGreatDoor
end
section
namespace Go.Proofs.YteoeggbihfnbfaaGreatDoor
open Go Go.Abs
def rS (s : N2.ZD) : N2.ZU := N2.ZU.mk s.Default s.Closed s.Fuel s.Stack s.Rules
namespace N2
theorem ZnB (n1 n2 n3 n4 : Int) (L : List N2.ZA) (hl : L.length ≤ 1000000) : ∀ (k i : Nat) (out : List N2.ZA), i + k = L.length → out.length ≤ i →
  Z8Q L (L.length : Int) (i : Int) n1 n2 n3 n4 out = some ⟨n1, n2, n3, n4, out ++ L.drop i⟩ := by
 intro k
 induction k with
 | zero =>
  intro i out h ho
  rw [q9_ (by omega)]
  apply Zfd
  unfold Z8E
  rw [if_neg (by simp; omega)]
  simp [ZaA]
 | succ k ih =>
  intro i out h ho
  have hi : i < L.length := by omega
  rw [Zbi hi]
  apply Zfd
  unfold Z8E
  rw [if_pos (by simp; omega)]
  unfold Zaz
  rw [Z2W, q2_ hi]
  simp only [q0_]
  rw [Zrs _ _ (by omega)]
  simp only [q0_]
  rw [ZkT (by omega) (by omega), show ((i : Int) + 1) = ((i + 1 : Nat) : Int) by omega, ih (i + 1) _ (by omega) (by simp; omega), ZD1, List.singleton_append]
end N2
namespace N2
theorem ZcX (s : N2.ZD) (h : s.Rules.length ≤ 1000000) : Z7v s = some (rS s) := by
 apply ZpA
 unfold Zcv
 have := ZnB s.Default s.Closed s.Fuel s.Stack s.Rules h s.Rules.length 0 [] (by omega) (by simp)
 simpa [rS] using this
end N2
namespace N2
theorem ZuL (x y : N2.ZU) (hx : x.Rules.length ≤ 1000000) (hy : y.Rules.length = x.Rules.length) : ∀ (k i : Nat), i + k = x.Rules.length →
  ∃ b, ZcK (i : Int) x y = some b ∧ (b = true ↔ x.Rules.drop i = y.Rules.drop i) := by
 intro k
 induction k with
 | zero =>
  intro i h
  rw [q9_ (by omega), q9_ (by omega)]
  refine ⟨true, ?_, by simp⟩
  apply Zfo
  unfold ZaC
  rw [if_neg (by simp; omega)]
  rfl
 | succ k ih =>
  intro i h
  have hi : i < x.Rules.length := by omega
  have hj : i < y.Rules.length := by omega
  obtain ⟨b, h1, h2⟩ := ih (i + 1) (by omega)
  by_cases he : x.Rules[i] = y.Rules[i]
  ·refine ⟨b, ?_, ?_⟩
   ·apply Zfo
    unfold ZaC
    rw [if_pos (by simp; omega)]
    unfold Zcx
    rw [Z2W, q2_ hi, Z2W, q2_ hj]
    simp only [q0_]
    have := ZEq.2 he
    unfold eqR at this
    rw [this]
    simp only [Znn, Zel, if_false, ZeQ]
    rw [ZkT (by omega) (by omega), show ((i : Int) + 1) = ((i + 1 : Nat) : Int) by omega]
    exact h1
   ·rw [h2, Zbi hi, Zbi hj, he, List.cons_inj_right]
  ·refine ⟨false, ?_, ?_⟩
   ·apply Zfo
    unfold ZaC
    rw [if_pos (by simp; omega)]
    unfold Zcx
    rw [Z2W, q2_ hi, Z2W, q2_ hj]
    simp only [q0_]
    have : eqR x.Rules[i] y.Rules[i] = false := by
     cases hq : eqR x.Rules[i] y.Rules[i] with
     | false => rfl
     | true => exact absurd (ZEq.1 hq) he
    unfold eqR at this
    rw [this]
    rfl
   ·rw [Zbi hi, Zbi hj]
    simp only [Zel, Ztz, false_iff, not_and]
    intro e
    exact absurd e he
end N2
namespace N2
theorem Zvz (x y : N2.ZU) (hx : x.Rules.length ≤ 1000000) : ∃ b, ZdG x y = some b ∧ (b = true ↔ x = y) := by
 have hxy : x = y ↔ x.Default = y.Default ∧ x.Closed = y.Closed ∧ x.Fuel = y.Fuel ∧ x.Stack = y.Stack ∧ x.Rules = y.Rules := by
  cases x; cases y; simp
 by_cases h1 : x.Default = y.Default
 case neg => exact ⟨false, ZaH _ _ (by unfold Z9d; rw [if_pos (by simpa using h1)]; rfl), by simp [hxy, h1]⟩
 by_cases h2 : x.Closed = y.Closed
 case neg => exact ⟨false, ZaH _ _ (by unfold Z9d; rw [if_neg (by simpa using h1), if_pos (by simpa using h2)]; rfl), by simp [hxy, h2]⟩
 by_cases h3 : x.Fuel = y.Fuel
 case neg => exact ⟨false, ZaH _ _ (by unfold Z9d; rw [if_neg (by simpa using h1), if_neg (by simpa using h2), if_pos (by simpa using h3)]; rfl), by simp [hxy, h3]⟩
 by_cases h4 : x.Stack = y.Stack
 case neg => exact ⟨false, ZaH _ _ (by unfold Z9d; rw [if_neg (by simpa using h1), if_neg (by simpa using h2), if_neg (by simpa using h3), if_pos (by simpa using h4)]; rfl), by simp [hxy, h4]⟩
 by_cases h5 : x.Rules.length = y.Rules.length
 case neg =>
  exact ⟨false, ZaH _ _ (by unfold Z9d; rw [if_neg (by simpa using h1), if_neg (by simpa using h2), if_neg (by simpa using h3), if_neg (by simpa using h4), if_pos (by simp; omega)]; rfl),
   by simp only [hxy]; simp; intro _ _ _ _ e; exact absurd (congrArg List.length e) h5⟩
 obtain ⟨b, e1, e2⟩ := ZuL x y hx h5.symm x.Rules.length 0 (by omega)
 refine ⟨b, ZaH _ _ ?_, ?_⟩
 ·unfold Z9d
  rw [if_neg (by simpa using h1), if_neg (by simpa using h2), if_neg (by simpa using h3), if_neg (by simpa using h4), if_neg (by simp; omega)]
  exact e1
 ·rw [e2, hxy]; simp [h1, h2, h3, h4]
end N2
namespace N2
theorem ZlW (x : N2.ZU) (hx : x.Rules.length ≤ 1000000) : ZdG x x = some true := by
 obtain ⟨b, h1, h2⟩ := Zvz x x hx
 rw [h1, h2.2 rfl]
end N2
end Go.Proofs.YteoeggbihfnbfaaGreatDoor
end
section
namespace Go.Proofs.YteoeggbihfnbfaaGreatDoor
open Go Go.Abs
noncomputable def patF (x : ByteArray) : N2.Z10 := (N2.Z6F x).getD ⟨0, 0, 0⟩
abbrev Fine (r : N2.ZA) : Prop := (patF r.Pattern).Code = 0
noncomputable def badF (r : N2.ZA) : N2.Z10 := ⟨(patF r.Pattern).Code, r.ID, (patF r.Pattern).At⟩
noncomputable def ZcV : List N2.ZA → N2.Z10
 | [] => ⟨0, 0, 0⟩
 | r :: l => if (patF r.Pattern).Code = 0 then ZcV l else badF r
noncomputable def ZbY (s : N2.ZD) : N2.Z10 := if okS s = false then ⟨10, 0, 0⟩ else ZcV s.Rules
noncomputable def Z4h (s : N2.ZD) (d : N2.Z1i) : N2.ZD × N2.Z10 :=
 if (Zbr s d).2 ≠ 0 then (zS, ⟨(Zbr s d).2, 0, 0⟩) else if (ZbY (Zbr s d).1).Code ≠ 0 then (zS, ZbY (Zbr s d).1) else ((Zbr s d).1, ⟨0, 0, 0⟩)
theorem ZrX : ∀ {l : List N2.ZA}, (∀ r ∈ l, Fine r) → ZcV l = ⟨0, 0, 0⟩
 | [], _ => rfl
 | r :: l, h => by rw [ZcV, if_pos (h r (by simp)), ZrX fun x hx => h x (by simp [hx])]
theorem ZrY : ∀ {l : List N2.ZA}, (ZcV l).Code = 0 → ∀ r ∈ l, Fine r
 | [], _ => by simp
 | r :: l, h => by
  intro x hx
  rw [ZcV] at h
  split at h
  ·rename_i hr
   rcases Z5E.1 hx with rfl | hx
   ·exact hr
   ·exact ZrY h x hx
  ·rename_i hr
   exact absurd h hr
theorem ZsX {x : N2.ZA} : ∀ {l : List N2.ZA}, (∀ r ∈ l, r = x ∨ Fine r) → x ∈ l → ¬ Fine x → ZcV l = badF x
 | [], _, h, _ => by simp at h
 | r :: l, h1, h2, h3 => by
  rw [ZcV]
  split
  ·rename_i hr
   have : x ≠ r := fun e => h3 (e ▸ hr)
   rcases Z5E.1 h2 with e | h2
   ·exact absurd e this
   ·exact ZsX (fun y hy => h1 y (by simp [hy])) h2 h3
  ·rename_i hr
   rcases h1 r (by simp) with rfl | h
   ·rfl
   ·exact absurd h hr
theorem ZEg {s : N2.ZD} (h : (ZbY s).Code = 0) : okS s = true ∧ ∀ r ∈ s.Rules, Fine r := by
 unfold ZbY at h
 split at h
 ·simp at h
 ·rename_i hs
  exact ⟨by simpa using hs, ZrY h⟩
theorem ZEf {s : N2.ZD} (h : okS s = true) (h2 : ∀ r ∈ s.Rules, Fine r) : ZbY s = ⟨0, 0, 0⟩ := by
 unfold ZbY
 rw [if_neg (by simp [h]), ZrX h2]
abbrev put1 (x : N2.ZA) : N2.Z1i := ⟨-1, -1, -1, -1, [x], []⟩
theorem ZLO {s : N2.ZD} (h : okS s = true) : okN s.Default s.Closed s.Fuel s.Stack = true := by
 unfold okS at h
 simp only [q6_] at h
 exact h.1.1
theorem ZvW (n : Int) : orI (-1) n = n := by simp [orI]
theorem Zwl {s : N2.ZD} {x : N2.ZA} (h : okS s = true) (hx : okR x = true) : Zbr s (put1 x) = if (putL s.Rules x).length ≤ 16 then (⟨s.Default, s.Closed, s.Fuel, s.Stack, putL s.Rules x⟩, 0) else (zS, 33) := by
 have hf : (s.Rules.filter fun y => !([] : List Int).contains y.ID) = s.Rules := N2.filter_self _
 by_cases hl : (putL s.Rules x).length ≤ 16
 ·rw [if_pos hl]
  have := ZHF (s := s) (d := put1 x) h (by simp only [ZvW]; exact ZLO h) (by simp [hx]) (by simp [ids]) (by simp) (by rw [hf]; simpa using hl)
  rw [this, hf]
  simp only [ZvW, Zif, List.foldl_nil]
 ·rw [if_neg hl]
  unfold Zbr
  simp only [ZvW]
  rw [if_neg (by simp [h]), if_neg (by simp [ZLO h, hx]), if_neg (by simp [ids])]
  rw [if_neg (by simp), hf]
  rw [if_pos (by simpa using hl)]
theorem ZFb {s : N2.ZD} {d : N2.Z1i} (h : (Z4h s d).2.Code = 0) : okS (Z4h s d).1 = true := by
 unfold Z4h at h ⊢
 split at h
 ·rename_i he
  exact absurd h he
 ·rename_i he
  rw [if_neg he]
  split at h
  ·rename_i hc
   exact absurd h hc
  ·rename_i hc
   rw [if_neg hc]
   exact (ZEg (by simpa using hc)).1
theorem ZAT {s : N2.ZD} {d : N2.Z1i} (h : (Z4h s d).2.Code = 0) : (ZbY (Z4h s d).1).Code = 0 := by
 unfold Z4h at h ⊢
 split at h
 ·rename_i he
  exact absurd h he
 ·rename_i he
  rw [if_neg he]
  split at h
  ·rename_i hc
   exact absurd h hc
  ·rename_i hc
   rw [if_neg hc]
   simpa using hc
end Go.Proofs.YteoeggbihfnbfaaGreatDoor
end
section
namespace Go.Proofs.YteoeggbihfnbfaaGreatDoor.N2
open Go Go.Abs Go.Proofs.Unis Go.Proofs.Norm
set_option maxRecDepth 100000
theorem ZHk (x : ByteArray) : ∃ v, Z6F x = some v ∧ v.Rule = 0 := by
 by_cases h : (Z9p x).2.Code = 0
 ·obtain ⟨v, hv⟩ := ZKG (ZHj h)
  refine ⟨⟨chkF v, 0, 0⟩, ?_, rfl⟩
  apply Zbf
  unfold Z7W Z9k
  rw [Zod, q0_, if_neg (Zez h)]
  rw [show (Z9p x).1 = ⟨(Z9p x).1.Root, (Z9p x).1.Groups, (Z9p x).1.Fold⟩ from rfl, ZA4 hv, q0_]
 ·refine ⟨⟨(Z9p x).2.Code, 0, (Z9p x).2.At⟩, ?_, rfl⟩
  apply Zbf
  unfold Z7W
  rw [Zod, q0_, if_pos (Zij h)]
theorem ZEa (x : ByteArray) : Z6F x = some (patF x) := by
 obtain ⟨v, h, _⟩ := ZHk x
 unfold patF
 rw [h]
 rfl
theorem ZHt (L : List ZA) (hl : L.length ≤ 1000000) : ∀ (k i : Nat), i + k = L.length → Zao L (L.length : Int) (i : Int) = some (ZcV (L.drop i)) := by
 intro k
 induction k with
 | zero =>
  intro i h
  apply Ziw
  unfold Zam Zcd
  rw [if_neg (Z2E (by omega)), q9_ (by omega)]
  rfl
 | succ k ih =>
  intro i h
  have hi : i < L.length := by omega
  have ih := ih (i + 1) (by omega)
  apply Ziw
  unfold Zam ZcC Zcc
  rw [if_pos (Z2G (by omega)), Z2W, q2_ hi, q0_, ZEa, q0_, Zbi hi, ZcV]
  by_cases hc : (patF L[i].Pattern).Code = 0
  ·rw [if_neg (Zez hc), if_pos hc, wrap_i64 (by omega) (by omega)]
   exact ih
  ·rw [if_pos (Zij hc), if_neg hc]
   rfl
theorem ZAq (s : ZD) : ZcM s = some (ZbY s) := by
 apply Ztc
 unfold ZeV ZcB ZbY
 rw [Zjb, q0_]
 cases h : okS s with
 | false => rfl
 | true =>
  rw [if_neg (by simp), if_neg (by simp)]
  exact ZHt s.Rules (ZgU (ZzU h) (by omega)) s.Rules.length 0 (by omega)
theorem ZlZ (s : ZD) (d : Z1i) (h1 : d.Put.length ≤ 1000000) (h2 : d.Drop.length ≤ 1000000) : ZbR s d = some (Z4h s d) := by
 apply Zsl
 unfold Zec Zca Zcb Z4h
 rw [ZHH s d h1 h2, q0_]
 by_cases h : (Zbr s d).2 = 0
 ·rw [if_neg (Zez h), if_neg (by simp [h]), ZAq, q0_]
  by_cases hc : (ZbY (Zbr s d).1).Code = 0
  ·rw [if_neg (Zez hc), if_neg (by simp [hc])]
  ·rw [if_pos (Zij hc), if_pos hc]
   rfl
 ·rw [if_pos (Zij h), if_pos h]
  rfl
theorem ZNA {x : ByteArray} (h : (Z9p x).2.Code ≠ 0) : patF x = ⟨(Z9p x).2.Code, 0, (Z9p x).2.At⟩ := by
 have : Z6F x = some ⟨(Z9p x).2.Code, 0, (Z9p x).2.At⟩ := by
  apply Zbf
  unfold Z7W
  rw [Zod, q0_, if_pos (Zij h)]
 unfold patF
 rw [this]
 rfl
end Go.Proofs.YteoeggbihfnbfaaGreatDoor.N2
end
