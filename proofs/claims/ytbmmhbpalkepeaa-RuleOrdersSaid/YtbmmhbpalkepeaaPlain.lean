/- Layer 7 in plain words; the document's order. No condition. -/
import Derived.Test.YtbmmhbpalkepeaaTypB
import Derived.Test.YtbmmhbpalkepeaaTypC
import Derived.Test.YtbmmhbpalkepeaaOrd

set_option linter.unusedSimpArgs false
set_option linter.unusedVariables false
set_option linter.defProp false
section
namespace Go.Proofs.Ytbmmhbpalkepeaa
open Go Go.Abs
def okR (r : N2.Z2) : Bool := decide (1 ≤ r.ID ∧ r.ID ≤ 1099511627776 ∧ 0 ≤ r.Priority ∧ r.Priority ≤ 1000 ∧ 0 ≤ r.Action ∧ r.Action ≤ 255 ∧ 1 ≤ r.Scope ∧ r.Scope ≤ 65535 ∧ (r.Pattern.size : Int) ≤ 256)
def okN (a b c d : Int) : Bool := decide (0 ≤ a ∧ a ≤ 255 ∧ 0 ≤ b ∧ b ≤ 255 ∧ 1 ≤ c ∧ c ≤ 1048576 ∧ 0 ≤ d ∧ d ≤ 4096)
def asc : Int → List N2.Z2 → Bool
 | _, [] => true
 | n, r :: l => okR r && decide (n < r.ID) && asc r.ID l
def okS (s : N2.Z8) : Bool := okN s.Default s.Closed s.Fuel s.Stack && decide (s.Rules.length ≤ 16) && asc 0 s.Rules
namespace N2
theorem Za6 (r : N2.Z2) : g21 r = some (okR r) := by
 apply Zlr
 unfold b21 okR
 repeat' split
 all_goals simp_all
 all_goals omega
theorem ZdG (s : N2.Z8) : g27 s = some (okN s.Default s.Closed s.Fuel s.Stack) := by
 apply Zly
 unfold b27 okN
 repeat' split
 all_goals simp_all
 all_goals omega
theorem Z3m {i : Int} (h1 : 0 ≤ i) (h2 : i ≤ 1000000000) : IntKind.i64.wrap (i + 1) = i + 1 := wrap_i64 (by omega) (by omega)
theorem Z1L {α : Type} (l : List α) (i : Nat) : lget l (i : Int) = l[i]? := by simp [lget]
theorem Zhz (L : List N2.Z2) (hl : L.length ≤ 1000000) : ∀ (d i : Nat) (n : Int), i + d = L.length → Z6I n L (L.length : Int) (i : Int) = some (asc n (L.drop i)) := by
 intro d
 induction d with
 | zero =>
  intro i n h
  apply Zax
  unfold Z6k
  rw [if_neg (by simp; omega), Z4e (by omega)]
  rfl
 | succ d ih =>
  intro i n h
  apply Zax
  unfold Z6k
  have hi : i < L.length := by omega
  rw [if_pos (by simp; omega)]
  unfold Z8u
  rw [Z1L, q2_ hi, Z4S hi]
  simp only [q3_, Za6, asc, Z6m, Z8v, Z7u]
  cases h1 : okR L[i] with
  | false => simp
  | true =>
   simp only [Z4C, q8_, if_false, Z8a]
   by_cases h2 : L[i].ID ≤ n
   ·rw [if_pos (by simpa using h2)]
    have : ¬ n < L[i].ID := by omega
    simp [this]
   ·rw [if_neg (by simpa using h2), Z3m (by omega) (by omega)]
    have := ih (i + 1) L[i].ID (by omega)
    rw [show ((i : Int) + 1) = ((i + 1 : Nat) : Int) by omega, this]
    have : n < L[i].ID := by omega
    simp [this]
theorem ZdF (s : N2.Z8) : g16 s = some (okS s) := by
 apply Zlp
 unfold b16
 simp only [ZdG, q3_, Z6l, Z8t, okS]
 cases h : okN s.Default s.Closed s.Fuel s.Stack with
 | false => simp
 | true =>
  by_cases h2 : s.Rules.length ≤ 16
  ·have h3 : ¬ 16 < (s.Rules.length : Int) := by omega
   simp only [Z4C, q8_, if_false, h3, decide_false, h2, decide_true, Z8a]
   exact Zhz s.Rules (by omega) s.Rules.length 0 0 (by omega)
  ·have h3 : 16 < (s.Rules.length : Int) := by omega
   simp [h2, h3]
end N2
end Go.Proofs.Ytbmmhbpalkepeaa
end
section
namespace Go.Proofs.Ytbmmhbpalkepeaa
open Go Go.Abs
def Z1R : List Int → List (Int × Bool) → Bool × List (Int × Bool)
 | [], m => (false, m)
 | x :: xs, m => if (getM m x).getD false = true then (true, putM m x true) else Z1R xs (putM m x true)
def ids (l : List N2.Z2) : List Int := l.map (·.ID)
theorem Zc6 {α : Type} (m : List (Int × α)) (n k : Int) (y : α) : getM (putM m n y) k = if k = n then some y else getM m k := by
 induction m with
 | nil => simp only [putM, getM]; by_cases h : n = k <;> simp [h, eq_comm]
 | cons q r ih =>
  simp only [putM]
  split
  ·rename_i h
   simp only [getM]
   by_cases hk : n = k
   ·simp [hk]
   ·simp only [if_neg hk]; rw [h, if_neg hk, if_neg (fun e => hk e.symm)]
  ·rename_i h
   simp only [getM, ih]
   by_cases hk : q.1 = k
   ·rw [if_pos hk]; have : k ≠ n := fun e => h (hk.trans e); rw [if_neg this, if_pos hk]
   ·rw [if_neg hk]; split <;> simp [hk]
theorem Z6b : ∀ (xs : List Int) (m : List (Int × Bool)) (seen : List Int), (∀ x, (getM m x).getD false = decide (x ∈ seen)) → (Z1R xs m).1 = !decide (xs.Nodup ∧ ∀ x ∈ xs, x ∉ seen) ∧
  ((Z1R xs m).1 = false → ∀ x, (getM (Z1R xs m).2 x).getD false = decide (x ∈ xs ∨ x ∈ seen))
 | [], m, seen, h => by simpa [Z1R] using h
 | x :: xs, m, seen, h => by
  unfold Z1R
  rw [h x]
  by_cases hx : x ∈ seen
  ·rw [decide_eq_true hx]
   simp only [if_true]
   refine ⟨?_, fun e => by cases e⟩
   have : ¬ ((x :: xs).Nodup ∧ ∀ y ∈ x :: xs, y ∉ seen) := fun hh => hh.2 x (by simp) hx
   simp only [decide_eq_false this, Zmc]
  ·rw [if_neg (by simpa using hx)]
   have hm : ∀ y, (getM (putM m x true) y).getD false = decide (y ∈ x :: seen) := by
    intro y
    rw [Zc6]
    by_cases hy : y = x
    ·simp [hy]
    ·rw [if_neg hy, h y]; simp [hy]
   obtain ⟨h1, h2⟩ := Z6b xs _ (x :: seen) hm
   refine ⟨?_, fun e y => ?_⟩
   ·rw [h1]
    congr 2
    apply propext
    simp only [Z7c, Z1K, not_or, forall_eq_or_imp]
    constructor
    ·rintro ⟨a, b⟩
     exact ⟨⟨fun hh => (b x hh).1 rfl, a⟩, hx, fun y hy => (b y hy).2⟩
    ·rintro ⟨⟨a, b⟩, _, c⟩
     exact ⟨b, fun y hy => ⟨fun e => a (e ▸ hy), c y hy⟩⟩
   ·rw [h2 e y]
    congr 1
    apply propext
    simp only [Z1K]
    constructor
    ·rintro (a | a | a)
     ·exact .inl (.inr a)
     ·exact .inl (.inl a)
     ·exact .inr a
    ·rintro ((a | a) | a)
     ·exact .inr (.inl a)
     ·exact .inl a
     ·exact .inr (.inr a)
namespace N2
theorem ZhJ (L : List N2.Z2) (hl : L.length ≤ 1000000) : ∀ (d i : Nat), i + d = L.length → ∃ n, Z6N L (L.length : Int) (i : Int) = some n ∧ decide (0 ≤ n) = (L.drop i).any fun r => !okR r := by
 intro d
 induction d with
 | zero =>
  intro i h
  refine ⟨-1, ?_, by rw [Z4e (by omega)]; rfl⟩
  apply Z6O
  unfold Z57
  rw [if_neg (by simp; omega)]
  rfl
 | succ d ih =>
  intro i h
  have hi : i < L.length := by omega
  rw [Z4S hi]
  obtain ⟨n, h1, h2⟩ := ih (i + 1) (by omega)
  cases hr : okR L[i] with
  | false =>
   refine ⟨i, ?_, by simp only [List.any_cons, hr]; simp⟩
   apply Z6O
   unfold Z57
   rw [if_pos (by simp; omega)]
   unfold Z6t
   have h43 : g43 L[i] = some true := ZgJ _ (by unfold b43; simp [Za6, hr])
   simp [Z1L, q2_ hi, h43]
  | true =>
   refine ⟨n, ?_, by simp only [List.any_cons, hr, h2]; simp⟩
   apply Z6O
   unfold Z57
   rw [if_pos (by simp; omega)]
   unfold Z6t
   have h43 : g43 L[i] = some false := ZgJ _ (by unfold b43; simp [Za6, hr])
   simp only [Z1L, q2_ hi, h43, q3_, q8_, if_false, Z8A]
   rw [Z3m (by omega) (by omega), show ((i : Int) + 1) = ((i + 1 : Nat) : Int) by omega]
   exact h1
theorem ZjI (L : List N2.Z2) (hl : L.length ≤ 1000000) : g28 L = some (L.all okR) := by
 obtain ⟨n, h1, h2⟩ := ZhJ L hl L.length 0 (by omega)
 apply Zlz
 have h52 : g52 L = some n := ZlU _ (by unfold b52; exact h1)
 have h42 : g42 L = some (decide (0 ≤ n)) := ZlM _ (by unfold b42; rw [h52]; rfl)
 unfold b28
 rw [h42, h2]
 simp [List.all_eq_not_any_not]
theorem Za8 (n : Int) (m : List (Int × Bool)) : g44 n m = some ((getM m n).getD false, putM m n true) := ZlP _ _ rfl
theorem ZdH (r : N2.Z2) (m : List (Int × Bool)) : g45 r m = some ((getM m r.ID).getD false, putM m r.ID true) := ZlQ _ _ (by unfold b45; rw [Za8]; rfl)
theorem ZeV (L : List N2.Z2) (hl : L.length ≤ 1000000) : ∀ (d i : Nat) (m : List (Int × Bool)), i + d = L.length →
  ∃ n, Z4y L (L.length : Int) (i : Int) m = some (n, (Z1R (ids (L.drop i)) m).2) ∧ decide (0 ≤ n) = (Z1R (ids (L.drop i)) m).1 := by
 intro d
 induction d with
 | zero =>
  intro i m h
  rw [Z4e (by omega)]
  refine ⟨-1, ?_, rfl⟩
  apply Z4P
  unfold Z3G
  rw [if_neg (by simp; omega)]
  rfl
 | succ d ih =>
  intro i m h
  have hi : i < L.length := by omega
  rw [Z4S hi]
  obtain ⟨n, h1, h2⟩ := ih (i + 1) (putM m L[i].ID true) (by omega)
  simp only [ids, Z2p, Z1R]
  by_cases hs : (getM m L[i].ID).getD false = true
  ·rw [if_pos hs]
   refine ⟨i, ?_, by simp⟩
   apply Z4P
   unfold Z3G
   rw [if_pos (by simp; omega)]
   unfold Z4s
   simp [Z1L, q2_ hi, ZdH, hs]
  ·rw [if_neg hs]
   refine ⟨n, ?_, h2⟩
   apply Z4P
   unfold Z3G
   rw [if_pos (by simp; omega)]
   unfold Z4s
   simp only [Z1L, q2_ hi, ZdH, q3_, if_neg hs, Z5F]
   rw [Z3m (by omega) (by omega), show ((i : Int) + 1) = ((i + 1 : Nat) : Int) by omega]
   exact h1
theorem ZhM (L : List Int) (hl : L.length ≤ 1000000) : ∀ (d i : Nat) (m : List (Int × Bool)), i + d = L.length →
  ∃ n, Z6P L (L.length : Int) (i : Int) m = some (n, (Z1R (L.drop i) m).2) ∧ decide (0 ≤ n) = (Z1R (L.drop i) m).1 := by
 intro d
 induction d with
 | zero =>
  intro i m h
  rw [Z4e (by omega)]
  refine ⟨-1, ?_, rfl⟩
  apply Z6Q
  unfold Z58
  rw [if_neg (by simp; omega)]
  rfl
 | succ d ih =>
  intro i m h
  have hi : i < L.length := by omega
  rw [Z4S hi]
  obtain ⟨n, h1, h2⟩ := ih (i + 1) (putM m L[i] true) (by omega)
  simp only [Z1R]
  by_cases hs : (getM m L[i]).getD false = true
  ·rw [if_pos hs]
   refine ⟨i, ?_, by simp⟩
   apply Z6Q
   unfold Z58
   rw [if_pos (by simp; omega)]
   unfold Z6u
   simp [Z1L, q2_ hi, Za8, hs]
  ·rw [if_neg hs]
   refine ⟨n, ?_, h2⟩
   apply Z6Q
   unfold Z58
   rw [if_pos (by simp; omega)]
   unfold Z6u
   simp only [Z1L, q2_ hi, Za8, q3_, if_neg hs, Z8B]
   rw [Z3m (by omega) (by omega), show ((i : Int) + 1) = ((i + 1 : Nat) : Int) by omega]
   exact h1
theorem ZjK (d : N2.ZC) (h1 : d.Put.length ≤ 1000000) (h2 : d.Drop.length ≤ 1000000) : g29 d = some (!decide (ids d.Put ++ d.Drop).Nodup) := by
 obtain ⟨n, e1, e2⟩ := ZeV d.Put h1 d.Put.length 0 [] (by omega)
 have h52 : Zb8 d.Put [] = some (n, (Z1R (ids d.Put) []).2) := ZhK _ _ (by unfold ZaY; exact e1)
 have h42 : Zb7 d.Put [] = some ((Z1R (ids d.Put) []).1, (Z1R (ids d.Put) []).2) := ZhH _ _ (by unfold ZaX; rw [h52]; simpa using e2)
 obtain ⟨k, f1, f2⟩ := ZhM d.Drop h2 d.Drop.length 0 (Z1R (ids d.Put) []).2 (by omega)
 have h53 : g53 d.Drop (Z1R (ids d.Put) []).2 = some (k, (Z1R d.Drop (Z1R (ids d.Put) []).2).2) := ZlW _ _ (by unfold b53; exact f1)
 have h46 : g46 d.Drop (Z1R (ids d.Put) []).2 = some ((Z1R d.Drop (Z1R (ids d.Put) []).2).1, (Z1R d.Drop (Z1R (ids d.Put) []).2).2) := ZlS _ _ (by unfold b46; rw [h53]; simpa using f2)
 obtain ⟨s1, s2⟩ := Z6b (ids d.Put) [] [] (by simp [getM])
 simp only [List.not_mem_nil, not_false_eq_true, implies_true, and_true, or_false] at s1 s2
 apply ZlB
 unfold b29
 rw [h42]
 simp only [q3_]
 cases hs : (Z1R (ids d.Put) []).1 with
 | true =>
  have h : ¬ (ids d.Put).Nodup := fun h => by rw [hs, decide_eq_true h] at s1; cases s1
  have : ¬ (ids d.Put ++ d.Drop).Nodup := fun h' => h (Zcr.1 h').1
  rw [decide_eq_false this]
  rfl
 | false =>
  have hn : (ids d.Put).Nodup := by
   rw [hs] at s1
   simpa using s1
  rw [h46]
  obtain ⟨t1, _⟩ := Z6b d.Drop _ (ids d.Put) (s2 hs)
  simp only [q8_, if_false, q3_, t1]
  congr 3
  apply propext
  rw [Zcr]
  constructor
  ·rintro ⟨a, b⟩
   exact ⟨hn, a, fun x hx y hy e => b y hy (e ▸ hx)⟩
  ·rintro ⟨_, a, b⟩
   exact ⟨a, fun x hx h => b x h x hx rfl⟩
end N2
end Go.Proofs.Ytbmmhbpalkepeaa
end
section
namespace Go.Proofs.Ytbmmhbpalkepeaa
open Go Go.Abs
abbrev MR := List (Int × N2.Z2)
def zR : N2.Z2 := N2.Z2.mk 0 0 0 0 (ByteArray.mk #[])
def zS : N2.Z8 := N2.Z8.mk 0 0 0 0 []
def mput (m : MR) (l : List N2.Z2) : MR := l.foldl (fun m r => putM m r.ID r) m
def Z3j : List Int → MR → Option MR
 | [], m => some m
 | i :: l, m => if (getM m i).isSome = true then Z3j l (delM m i) else none
def Z3i (m : MR) : List Int := (m.map (·.1)).mergeSort (fun a b => decide (a ≤ b))
def orI (a b : Int) : Int := if a = -1 then b else a
def okK (m : MR) : Prop := ∀ q ∈ m, 1 ≤ q.1 ∧ q.1 ≤ 1099511627776
theorem Zkb {m : MR} (h : okK m) {n : Int} (y : N2.Z2) (hn : 1 ≤ n ∧ n ≤ 1099511627776) : okK (putM m n y) := by
 induction m with
 | nil => intro q hq; simp [putM] at hq; subst hq; exact hn
 | cons p r ih =>
  rw [putM]
  have hr : okK r := fun q hq => h q (by simp [hq])
  split
  ·intro q hq
   rcases Z1K.1 hq with rfl | hq
   ·exact hn
   ·exact hr q hq
  ·intro q hq
   rcases Z1K.1 hq with rfl | hq
   ·exact h _ (by simp)
   ·exact ih hr q hq
theorem Zka {m : MR} (h : okK m) (n : Int) : okK (delM m n) := by
 induction m with
 | nil => exact h
 | cons p r ih =>
  have hr : okK r := fun q hq => h q (by simp [hq])
  rw [delM]
  split
  ·exact hr
  ·intro q hq
   rcases Z1K.1 hq with rfl | hq
   ·exact h _ (by simp)
   ·exact ih hr q hq
theorem Zh3 {r : N2.Z2} (h : okR r = true) : 1 ≤ r.ID ∧ r.ID ≤ 1099511627776 := by
 unfold okR at h
 simp only [decide_eq_true_eq] at h
 omega
theorem Z87 : ∀ {l : List N2.Z2} {m : MR}, okK m → l.all okR = true → okK (mput m l)
 | [], _, h, _ => h
 | r :: l, m, h, hl => by
  simp only [List.all_cons, q5_] at hl
  exact Z87 (l := l) (Zkb h r (Zh3 hl.1)) hl.2
theorem Zce : ∀ {l : List Int} {m m' : MR}, okK m → Z3j l m = some m' → okK m'
 | [], m, m', h, e => by simp [Z3j] at e; subst e; exact h
 | i :: l, m, m', h, e => by
  unfold Z3j at e
  split at e
  ·exact Zce (Zka h i) e
  ·simp at e
theorem Zdz : ∀ {l : List N2.Z2} {n : Int}, asc n l = true → l.all okR = true
 | [], n, _ => rfl
 | r :: l, n, h => by
  simp only [asc, q5_] at h
  simp [h.1.1, Zdz h.2]
theorem ZdP {s : N2.Z8} (h : okS s = true) : s.Rules.all okR = true := by
 unfold okS at h
 simp only [q5_] at h
 exact Zdz h.2
namespace N2
theorem ZjF (a b : Int) : g26 a b = some (orI a b) := Zlw _ _ (by unfold b26 orI; by_cases h : a = -1 <;> simp [h])
theorem ZgA (a b : Int) : Zb4 a b = some (orI a b) := ZhB _ _ (by unfold ZaU orI; by_cases h : a = -1 <;> simp [h])
theorem ZgC (a b : Int) : Zb5 a b = some (orI a b) := ZhD _ _ (by unfold ZaV orI; by_cases h : a = -1 <;> simp [h])
theorem ZgE (a b : Int) : Zb6 a b = some (orI a b) := ZhF _ _ (by unfold ZaW orI; by_cases h : a = -1 <;> simp [h])
theorem ZjN : g31 = some () := ZlF rfl
theorem Zf9 (m : MR) : keysOf (m.map (encM Z4)) = Z3i m := by
 unfold keysOf Z3i
 rw [Zco]
 rfl
theorem ZjL (m : MR) (h : m.length ≤ 1048576) (hk : okK m) : g30 m = some (Z3i m) := by
 apply Z13 (fun _ _ ha hb => RRun.uniq (Zmj m) ha hb)
 have e : EE 30 [(.clo 49 [] [(.ptr 0 0)])] [[(.mp 1)], [(.md (m.map (encM Z4)))]] = some ((.p (.lst .sh ((Z3i m).map (eI .i64)))), [[(.mp 1)], [(.md (m.map (encM Z4)))]]) := by
  rw [show EE 30 = E PP XX HH 30 from rfl, Ze0 (P := PP) (X := XX) (H := HH) (f := 30) (m := Z5C) (by kernel_rfl)]
  have : Z5C [(.clo 49 [] [(.ptr 0 0)])] [[(.mp 1)], [(.md (m.map (encM Z4)))]] = if (m.map (encM Z4)).length ≤ 1048576 ∧ (∀ q ∈ m.map (encM Z4), -9223372036854775808 ≤ q.1 ∧ q.1 ≤ 9223372036854775807) then some (.p (.lst .sh ((keysOf (m.map (encM Z4))).map fun n => .v (.int .i64 n))), [[(.mp 1)], [(.md (m.map (encM Z4)))]]) else none := rfl
  have hr : ∀ q ∈ m.map (encM Z4), -9223372036854775808 ≤ q.1 ∧ q.1 ≤ 9223372036854775807 := by
   intro q hq
   obtain ⟨p, hp, rfl⟩ := Z1B.1 hq
   have := hk p hp
   show -9223372036854775808 ≤ p.1 ∧ p.1 ≤ 9223372036854775807
   omega
  rw [this, if_pos ⟨by simpa using h, hr⟩, Zf9]
  rfl
 exact ⟨_, e, [], by simp⟩
theorem ZcW (d : N2.ZC) (n1 n2 n3 n4 : Int) (L : List N2.Z2) (hl : L.length ≤ 1000000) {r : N2.Z8 × Int} : ∀ (k i : Nat) (m : MR), i + k = L.length →
  Z52 d n1 n2 n3 n4 (mput m (L.drop i)) = some r → Z5m L (L.length : Int) (i : Int) d n1 n2 n3 n4 m = some r := by
 intro k
 induction k with
 | zero =>
  intro i m h hr
  rw [Z4e (by omega)] at hr
  apply Z99
  unfold Z4Y
  rw [if_neg (by simp; omega)]
  exact hr
 | succ k ih =>
  intro i m h hr
  have hi : i < L.length := by omega
  rw [Z4S hi] at hr
  apply Z99
  unfold Z4Y
  rw [if_pos (by simp; omega)]
  unfold Z7m
  rw [Z1L, q2_ hi, Z3m (by omega) (by omega), show ((i : Int) + 1) = ((i + 1 : Nat) : Int) by omega]
  exact ih (i + 1) _ (by omega) hr
theorem Zd0 (n1 n2 n3 n4 : Int) (L : List N2.Z2) (hl : L.length ≤ 1000000) {r : N2.Z8 × Int} : ∀ (k i : Nat) (m : MR), i + k = L.length →
  Z54 n1 n2 n3 n4 (mput m (L.drop i)) = some r → Z5o L (L.length : Int) (i : Int) n1 n2 n3 n4 m = some r := by
 intro k
 induction k with
 | zero =>
  intro i m h hr
  rw [Z4e (by omega)] at hr
  apply Z9d
  unfold Z50
  rw [if_neg (by simp; omega)]
  exact hr
 | succ k ih =>
  intro i m h hr
  have hi : i < L.length := by omega
  rw [Z4S hi] at hr
  apply Z9d
  unfold Z50
  rw [if_pos (by simp; omega)]
  unfold Z7q
  rw [Z1L, q2_ hi, Z3m (by omega) (by omega), show ((i : Int) + 1) = ((i + 1 : Nat) : Int) by omega]
  exact ih (i + 1) _ (by omega) hr
theorem ZcY (d : N2.ZC) (n1 n2 n3 n4 : Int) (L : List Int) (hl : L.length ≤ 1000000) {r : N2.Z8 × Int} : ∀ (k i : Nat) (m : MR), i + k = L.length →
  (match Z3j (L.drop i) m with | some m => Z53 d n1 n2 n3 n4 m | none => some (zS, 32)) = some r → Z5n L (L.length : Int) (i : Int) d n1 n2 n3 n4 m = some r := by
 intro k
 induction k with
 | zero =>
  intro i m h hr
  rw [Z4e (by omega)] at hr
  apply Z9b
  unfold Z4Z
  rw [if_neg (by simp; omega)]
  exact hr
 | succ k ih =>
  intro i m h hr
  have hi : i < L.length := by omega
  rw [Z4S hi] at hr
  apply Z9b
  unfold Z4Z
  rw [if_pos (by simp; omega)]
  unfold Z7n
  rw [Z1L, q2_ hi]
  simp only [q3_, Z7o, Z7p]
  unfold Z3j at hr
  cases hg : (getM m L[i]).isSome with
  | false => rw [hg] at hr; exact hr
  | true =>
   rw [hg] at hr
   simp only [if_true] at hr
   simp only [Z4C, q8_, if_false]
   rw [Z3m (by omega) (by omega), show ((i : Int) + 1) = ((i + 1 : Nat) : Int) by omega]
   exact ih (i + 1) _ (by omega) hr
theorem Z84 {α : Type} (l : List α) (a : α) (h : l.length ≤ 1000000000) : lapp l [a] = some (l ++ [a]) := by
 unfold lapp
 rw [if_pos (by simp [lim]; omega)]
theorem Zd2 (n1 n2 n3 n4 : Int) (m : MR) (K : List Int) (hl : K.length ≤ 1000000) : ∀ (k i : Nat) (out : List N2.Z2), i + k = K.length → out.length ≤ i →
  Z5p K (K.length : Int) (i : Int) n1 n2 n3 n4 out m = some (⟨n1, n2, n3, n4, out ++ (K.drop i).map fun n => (getM m n).getD zR⟩, 0) := by
 intro k
 induction k with
 | zero =>
  intro i out h ho
  rw [Z4e (by omega)]
  apply Z9f
  unfold Z51
  rw [if_neg (by simp; omega)]
  simp [Z7t]
 | succ k ih =>
  intro i out h ho
  have hi : i < K.length := by omega
  rw [Z4S hi]
  apply Z9f
  unfold Z51
  rw [if_pos (by simp; omega)]
  unfold Z7s
  rw [Z1L, q2_ hi]
  simp only [q3_]
  rw [Z84 _ _ (by omega)]
  simp only [q3_]
  rw [Z3m (by omega) (by omega), show ((i : Int) + 1) = ((i + 1 : Nat) : Int) by omega, ih (i + 1) _ (by omega) (by simp; omega), Z2p, Zac, Zmd]
  rfl
def applyM (s : N2.Z8) (d : N2.ZC) : N2.Z8 × Int :=
 if okS s = false then (zS, 10) else
 if okN (orI d.Default s.Default) (orI d.Closed s.Closed) (orI d.Fuel s.Fuel) (orI d.Stack s.Stack) = false ∨ d.Put.all okR = false then (zS, 30) else
 if ¬ (ids d.Put ++ d.Drop).Nodup then (zS, 31) else
 match Z3j d.Drop (mput [] s.Rules) with
 | none => (zS, 32)
 | some m =>
  if 16 < (mput m d.Put).length then (zS, 33) else
  (⟨orI d.Default s.Default, orI d.Closed s.Closed, orI d.Fuel s.Fuel, orI d.Stack s.Stack, (Z3i (mput m d.Put)).map fun n => (getM (mput m d.Put) n).getD zR⟩, 0)
theorem Zkc {s : N2.Z8} (h : okS s = true) : s.Rules.length ≤ 16 := by
 unfold okS at h
 simp only [q5_, decide_eq_true_eq] at h
 exact h.1.2
theorem ZgV (m : MR) : (Z3i m).length = m.length := by unfold Z3i; simp
theorem g12_val (s : N2.Z8) (d : N2.ZC) (h1 : d.Put.length ≤ 1000000) (h2 : d.Drop.length ≤ 1000000) : g12 s d = some (applyM s d) := by
 apply Zlm
 unfold b12 applyM
 rw [ZdF]
 simp only [q3_]
 cases hs : okS s with
 | false => rfl
 | true =>
  have hlen := Zkc hs
  simp only [Z4C, q8_, if_false, Zie]
  unfold Z8q
  simp only [ZjF, ZgA, ZgC, ZgE, ZdG, q3_, ZjI _ h1, Z6i]
  cases hn : okN (orI d.Default s.Default) (orI d.Closed s.Closed) (orI d.Fuel s.Fuel) (orI d.Stack s.Stack) with
  | false => rfl
  | true =>
   simp only [Z4C, q8_, if_false, Zie, false_or]
   cases hp : d.Put.all okR with
   | false => rfl
   | true =>
    simp only [Z4C, q8_, if_false, Zie]
    unfold Z7k
    rw [ZjK d h1 h2]
    simp only [q3_]
    by_cases ht : (ids d.Put ++ d.Drop).Nodup
    ·simp only [decide_eq_true ht, Z4C, q8_, if_false, ht, not_true]
     unfold Z7l
     refine ZcW d _ _ _ _ s.Rules (by omega) s.Rules.length 0 [] (by omega) ?_
     unfold Z52
     refine ZcY d _ _ _ _ d.Drop h2 d.Drop.length 0 _ (by omega) ?_
     simp only [List.drop_zero]
     cases hm : Z3j d.Drop (mput [] s.Rules) with
     | none => rfl
     | some m =>
      simp only
      unfold Z53
      refine Zd0 _ _ _ _ d.Put h1 d.Put.length 0 _ (by omega) ?_
      simp only [List.drop_zero]
      unfold Z54
      by_cases hc : 16 < (mput m d.Put).length
      ·rw [if_pos (by simp; omega), if_pos hc]; rfl
      ·rw [if_neg (by simp; omega), if_neg hc]
       unfold Z7r
       rw [ZjN, ZjL _ (by omega) (Z87 (Zce (Z87 (m := []) (fun q hq => by simp at hq) (ZdP hs)) hm) hp)]
       simp only [q3_]
       have hk : (Z3i (mput m d.Put)).length ≤ 1000000 := by rw [ZgV]; omega
       have := Zd2 (orI d.Default s.Default) (orI d.Closed s.Closed) (orI d.Fuel s.Fuel) (orI d.Stack s.Stack) (mput m d.Put) (Z3i (mput m d.Put)) hk (Z3i (mput m d.Put)).length 0 [] (by omega) (by simp)
       simpa using this
    ·simp only [decide_eq_false ht, Zmc, if_true, ht, not_false_eq_true]
     rfl
end N2
end Go.Proofs.Ytbmmhbpalkepeaa
end
section
namespace Go.Proofs.Ytbmmhbpalkepeaa
open Go Go.Abs
def getL (l : List N2.Z2) (n : Int) : Option N2.Z2 := l.find? fun r => r.ID == n
def putL : List N2.Z2 → N2.Z2 → List N2.Z2
 | [], r => [r]
 | x :: t, r => if x.ID < r.ID then x :: putL t r else r :: (x :: t).filter fun y => y.ID != r.ID
abbrev Z3b (l : List N2.Z2) : Prop := l.Pairwise fun a b => a.ID < b.ID
theorem Z2t (x : N2.Z2) (t : List N2.Z2) (n : Int) : getL (x :: t) n = if x.ID = n then some x else getL t n := by
 unfold getL
 rw [List.find?_cons]
 by_cases h : x.ID = n
 ·simp [h]
 ·have : (x.ID == n) = false := by simpa using h
  rw [this, if_neg h]
theorem Z5r (l : List N2.Z2) (k n : Int) : getL (l.filter fun y => y.ID != k) n = if n = k then none else getL l n := by
 induction l with
 | nil => simp [getL]
 | cons x t ih =>
  by_cases hx : x.ID = k
  ·rw [ZmE (by simp [hx]), ih, Z2t]
   by_cases hn : n = k
   ·rw [if_pos hn, if_pos hn]
   ·rw [if_neg hn, if_neg hn, if_neg (fun e => hn (by rw [← e, hx]))]
  ·rw [ZmF (by simp [hx]), Z2t, ih, Z2t]
   by_cases hn : n = k
   ·rw [if_pos hn, if_pos hn, if_neg (fun e => hx (e.trans hn))]
   ·rw [if_neg hn, if_neg hn]
theorem ZgQ (l : List N2.Z2) (r : N2.Z2) (n : Int) : getL (putL l r) n = if n = r.ID then some r else getL l n := by
 induction l with
 | nil =>
  rw [putL, Z2t]
  by_cases h : r.ID = n
  ·rw [if_pos h, if_pos h.symm]
  ·rw [if_neg h, if_neg fun e => h e.symm]
 | cons x t ih =>
  rw [putL]
  split
  ·rename_i hx
   rw [Z2t, ih, Z2t]
   by_cases hn : n = r.ID
   ·rw [if_pos hn, if_pos hn, if_neg (by omega)]
   ·rw [if_neg hn, if_neg hn]
  ·rw [Z2t, Z5r]
   by_cases hn : n = r.ID
   ·rw [if_pos hn.symm, if_pos hn]
   ·rw [if_neg (fun e => hn e.symm), if_neg hn, if_neg hn]
theorem ZhU {l : List N2.Z2} {r y : N2.Z2} (h : y ∈ putL l r) : y = r ∨ y ∈ l := by
 induction l with
 | nil => rw [putL] at h; simpa using h
 | cons x t ih =>
  rw [putL] at h
  split at h
  ·rcases Z1K.1 h with rfl | h
   ·exact .inr (by simp)
   ·rcases ih h with h | h
    ·exact .inl h
    ·exact .inr (by simp [h])
  ·rcases Z1K.1 h with h | h
   ·exact .inl h
   ·exact .inr (Z2o.1 h).1
theorem Zdr {l : List N2.Z2} (h : Z3b l) (r : N2.Z2) : Z3b (putL l r) := by
 induction l with
 | nil => simp [putL, Z3b]
 | cons x t ih =>
  obtain ⟨h1, h2⟩ := Z61.1 h
  rw [putL]
  split
  ·rename_i hx
   refine Z61.2 ⟨fun y hy => ?_, ih h2⟩
   rcases ZhU hy with rfl | hy
   ·exact hx
   ·exact h1 y hy
  ·rename_i hx
   refine Z61.2 ⟨fun y hy => ?_, h.filter _⟩
   obtain ⟨hy, hn⟩ := Z2o.1 hy
   have hn : y.ID ≠ r.ID := by simpa using hn
   rcases Z1K.1 hy with rfl | hy
   ·omega
   ·have := h1 y hy; omega
structure RelM (m : MR) (l : List N2.Z2) : Prop where
 nodup : (m.map (·.1)).Nodup
 sorted : Z3b l
 get : ∀ n, getM m n = getL l n
theorem ZhQ (m : MR) (n : Int) (y : N2.Z2) : ∀ k, k ∈ (putM m n y).map (·.1) ↔ k = n ∨ k ∈ m.map (·.1) := by
 intro k
 induction m with
 | nil => simp [putM]
 | cons q r ih =>
  rw [putM]
  split
  ·rename_i h
   simp [h]
  ·simp only [Z2p, Z1K, ih]
   constructor
   ·rintro (a | a | a)
    ·exact .inr (.inl a)
    ·exact .inl a
    ·exact .inr (.inr a)
   ·rintro (a | a | a)
    ·exact .inr (.inl a)
    ·exact .inl a
    ·exact .inr (.inr a)
theorem ZgY {m : MR} (h : (m.map (·.1)).Nodup) (n : Int) (y : N2.Z2) : ((putM m n y).map (·.1)).Nodup := by
 induction m with
 | nil => simp [putM]
 | cons q r ih =>
  simp only [Z2p, Z7c] at h
  rw [putM]
  split
  ·rename_i hq
   simp only [Z2p, Z7c]
   exact ⟨hq ▸ h.1, h.2⟩
  ·rename_i hq
   simp only [Z2p, Z7c]
   refine ⟨fun hk => ?_, ih h.2⟩
   rcases (ZhQ r n y q.1).1 hk with e | e
   ·exact hq e
   ·exact h.1 e
theorem ZgS {m : MR} {n : Int} (h : n ∉ m.map (·.1)) : getM m n = none := by
 induction m with
 | nil => rfl
 | cons q r ih =>
  simp only [Z2p, Z1K, not_or] at h
  rw [getM, if_neg (fun e => h.1 e.symm)]
  exact ih h.2
theorem ZhO {m : MR} {n : Int} : (getM m n).isSome = true ↔ n ∈ m.map (·.1) := by
 induction m with
 | nil => simp [getM]
 | cons q r ih =>
  rw [getM]
  split
  ·rename_i h; simp [h]
  ·rename_i h
   rw [ih, Z2p, Z1K]
   exact ⟨.inr, fun hh => hh.resolve_left fun e => h e.symm⟩
theorem Zjl (m : MR) (n : Int) : (delM m n).Sublist m := by
 induction m with
 | nil => exact .slnil
 | cons q r ih =>
  rw [delM]
  split
  ·exact List.sublist_cons_self _ _
  ·exact ih.cons_cons _
theorem ZhN {m : MR} (h : (m.map (·.1)).Nodup) (n k : Int) : getM (delM m n) k = if k = n then none else getM m k := by
 induction m with
 | nil => simp [delM, getM]
 | cons q r ih =>
  simp only [Z2p, Z7c] at h
  rw [delM]
  split
  ·rename_i hq
   by_cases hk : k = n
   ·rw [if_pos hk]; exact ZgS (by rw [hk, ← hq]; exact h.1)
   ·rw [if_neg hk, getM, if_neg (by rw [hq]; exact fun e => hk e.symm)]
  ·rename_i hq
   rw [getM, ih h.2, getM]
   by_cases hk : k = n
   ·rw [if_pos hk, if_pos hk, if_neg (fun e => hq (e.trans hk))]
   ·rw [if_neg hk, if_neg hk]
theorem RelM.nil : RelM [] [] := ⟨by simp, by simp [Z3b], fun _ => rfl⟩
theorem RelM.put {m : MR} {l : List N2.Z2} (h : RelM m l) (r : N2.Z2) : RelM (putM m r.ID r) (putL l r) :=
 ⟨ZgY h.nodup _ _, Zdr h.sorted r, fun n => by rw [Zc6, ZgQ, h.get]⟩
theorem RelM.del {m : MR} {l : List N2.Z2} (h : RelM m l) (n : Int) : RelM (delM m n) (l.filter fun y => y.ID != n) :=
 ⟨h.nodup.sublist ((Zjl m n).map _), h.sorted.filter _, fun k => by rw [ZhN h.nodup, Z5r, h.get]⟩
theorem RelM.mput {m : MR} {l : List N2.Z2} (h : RelM m l) : ∀ (L : List N2.Z2), RelM (mput m L) (L.foldl putL l)
 | [] => h
 | r :: L => RelM.mput (h.put r) L
theorem Z82 {l : List N2.Z2} {n : Int} : (getL l n).isSome = true ↔ n ∈ ids l := by
 induction l with
 | nil => simp [getL, ids]
 | cons x t ih =>
  rw [Z2t]
  split
  ·rename_i h; simp [ids, h]
  ·rename_i h
   rw [ih]
   unfold ids
   rw [Z2p, Z1K]
   exact ⟨.inr, fun hh => hh.resolve_left fun e => h e.symm⟩
theorem ZcJ {l : List N2.Z2} (h : Z3b l) : (ids l).Nodup := by
 unfold ids
 rw [Zfq, Zcy]
 exact h.imp fun h => by omega
theorem RelM.perm {m : MR} {l : List N2.Z2} (h : RelM m l) : (m.map (·.1)).Perm (ids l) := by
 rw [List.perm_ext_iff_of_nodup h.nodup (ZcJ h.sorted)]
 intro n
 rw [← ZhO, h.get, Z82]
theorem RelM.length {m : MR} {l : List N2.Z2} (h : RelM m l) : m.length = l.length := by
 have := h.perm.length_eq
 simpa [ids] using this
theorem RelM.keys {m : MR} {l : List N2.Z2} (h : RelM m l) : Z3i m = ids l := by
 refine List.Perm.eq_of_pairwise (le := fun a b => a ≤ b) (fun a b _ _ h1 h2 => by omega) ?_ ?_ ((List.mergeSort_perm _ _).trans h.perm)
 ·have := List.pairwise_mergeSort (le := fun a b : Int => decide (a ≤ b)) (fun a b c h1 h2 => by simp at *; omega) (fun a b => by simp; omega) (m.map (·.1))
  exact this.imp fun h => by simpa using h
 ·unfold ids
  rw [Zcy]
  exact h.sorted.imp fun h => by omega
theorem ZgR {l : List N2.Z2} (h : Z3b l) : ∀ r ∈ l, getL l r.ID = some r := by
 induction l with
 | nil => simp
 | cons x t ih =>
  obtain ⟨h1, h2⟩ := Z61.1 h
  intro r hr
  rw [Z2t]
  rcases Z1K.1 hr with rfl | hr
  ·simp
  ·rw [if_neg (by have := h1 r hr; omega)]
   exact ih h2 r hr
theorem RelM.vals {m : MR} {l : List N2.Z2} (h : RelM m l) : ((Z3i m).map fun n => (getM m n).getD zR) = l := by
 rw [h.keys]
 unfold ids
 rw [Zco]
 conv => rhs; rw [← List.map_id l]
 apply Z78
 intro r hr
 simp [h.get, ZgR h.sorted r hr]
theorem ZaJ : ∀ (D : List Int) {m : MR} {l : List N2.Z2}, RelM m l → D.Nodup →
  (match Z3j D m with | none => ¬ ∀ n ∈ D, n ∈ ids l | some m' => (∀ n ∈ D, n ∈ ids l) ∧ RelM m' (l.filter fun y => !D.contains y.ID))
 | [], m, l, h, _ => ⟨by simp, by rw [Zic.2 (by simp)]; exact h⟩
 | i :: D, m, l, h, hn => by
  obtain ⟨h1, h2⟩ := Z7c.1 hn
  unfold Z3j
  by_cases hi : (getM m i).isSome = true
  ·rw [if_pos hi]
   have ih := ZaJ D (h.del i) h2
   have hm : i ∈ ids l := by rw [h.get, Z82] at hi; exact hi
   have hk : (∀ n ∈ D, n ∈ ids (l.filter fun y => y.ID != i)) ↔ ∀ n ∈ D, n ∈ ids l := by
    constructor
    ·intro hh n hd
     have := hh n hd
     unfold ids at *
     obtain ⟨y, hy, e⟩ := Z1B.1 this
     exact Z1B.2 ⟨y, (Z2o.1 hy).1, e⟩
    ·intro hh n hd
     have := hh n hd
     unfold ids at *
     obtain ⟨y, hy, e⟩ := Z1B.1 this
     refine Z1B.2 ⟨y, Z2o.2 ⟨hy, ?_⟩, e⟩
     have : n ≠ i := fun e => h1 (e ▸ hd)
     simp only [bne_iff_ne, ne_eq, e]
     exact this
   cases hd : Z3j D (delM m i) with
   | none =>
    rw [hd] at ih
    intro hh
    exact ih (hk.2 fun n hn => hh n (by simp [hn]))
   | some m' =>
    rw [hd] at ih
    refine ⟨fun n hn => ?_, ?_⟩
    ·rcases Z1K.1 hn with rfl | hn
     ·exact hm
     ·exact hk.1 ih.1 n hn
    ·have := ih.2
     rw [List.filter_filter] at this
     have e : (l.filter fun y => !(i :: D).contains y.ID) = l.filter fun a => (!D.contains a.ID) && (a.ID != i) := by
      apply List.filter_congr
      intro y _
      rw [List.contains_cons, Bool.not_or, Bool.and_comm]
      rfl
     rw [e]
     exact this
  ·rw [if_neg hi]
   intro hh
   apply hi
   rw [h.get, Z82]
   exact hh i (by simp)
theorem Z8p : ∀ {l : List N2.Z2} {n : Int}, asc n l = true → Z3b l ∧ (∀ r ∈ l, n < r.ID) ∧ l.all okR = true
 | [], n, _ => ⟨.nil, by simp, rfl⟩
 | r :: l, n, h => by
  simp only [asc, q5_, decide_eq_true_eq] at h
  obtain ⟨⟨h1, h2⟩, h3⟩ := h
  obtain ⟨a, b, c⟩ := Z8p h3
  refine ⟨Z61.2 ⟨b, a⟩, ?_, by simp [h1, c]⟩
  intro x hx
  rcases Z1K.1 hx with rfl | hx
  ·exact h2
  ·have := b x hx; omega
theorem Zhk {l : List N2.Z2} {r : N2.Z2} (h : ∀ x ∈ l, x.ID < r.ID) : putL l r = l ++ [r] := by
 induction l with
 | nil => rfl
 | cons x t ih => rw [putL, if_pos (h x (by simp)), ih fun y hy => h y (by simp [hy])]; rfl
theorem Zat : ∀ {L l : List N2.Z2}, Z3b (l ++ L) → L.foldl putL l = l ++ L
 | [], l, _ => by simp
 | r :: L, l, h => by
  rw [Zfo, Zhk, Zat]
  ·simp
  ·simpa using h
  ·intro x hx
   exact (List.pairwise_append.1 h).2.2 x hx r (by simp)
def Z8o (s : N2.Z8) (d : N2.ZC) : N2.Z8 × Int :=
 if okS s = false then (zS, 10) else
 if okN (orI d.Default s.Default) (orI d.Closed s.Closed) (orI d.Fuel s.Fuel) (orI d.Stack s.Stack) = false ∨ d.Put.all okR = false then (zS, 30) else
 if ¬ (ids d.Put ++ d.Drop).Nodup then (zS, 31) else
 if ¬ ∀ n ∈ d.Drop, n ∈ ids s.Rules then (zS, 32) else
 if 16 < (d.Put.foldl putL (s.Rules.filter fun y => !d.Drop.contains y.ID)).length then (zS, 33) else
 (⟨orI d.Default s.Default, orI d.Closed s.Closed, orI d.Fuel s.Fuel, orI d.Stack s.Stack, d.Put.foldl putL (s.Rules.filter fun y => !d.Drop.contains y.ID)⟩, 0)
theorem Zfg {s : N2.Z8} (h : okS s = true) : Z3b s.Rules ∧ (∀ r ∈ s.Rules, 0 < r.ID) ∧ s.Rules.all okR = true := by
 unfold okS at h
 simp only [q5_] at h
 exact Z8p h.2
theorem ZfF (s : N2.Z8) (d : N2.ZC) : N2.applyM s d = Z8o s d := by
 unfold N2.applyM Z8o
 by_cases hs : okS s = false
 ·rw [if_pos hs, if_pos hs]
 rw [if_neg hs, if_neg hs]
 by_cases hn : okN (orI d.Default s.Default) (orI d.Closed s.Closed) (orI d.Fuel s.Fuel) (orI d.Stack s.Stack) = false ∨ d.Put.all okR = false
 ·rw [if_pos hn, if_pos hn]
 rw [if_neg hn, if_neg hn]
 by_cases ht : ¬ (ids d.Put ++ d.Drop).Nodup
 ·rw [if_pos ht, if_pos ht]
 rw [if_neg ht, if_neg ht]
 have hd : d.Drop.Nodup := (Zcr.1 (Classical.not_not.1 ht)).2.1
 obtain ⟨o1, _, _⟩ := Zfg (by simpa using hs)
 have hr : RelM (mput [] s.Rules) s.Rules := by
  have := RelM.nil.mput s.Rules
  rw [Zat (by simpa using o1)] at this
  simpa using this
 have := ZaJ d.Drop hr hd
 cases hm : Z3j d.Drop (mput [] s.Rules) with
 | none =>
  rw [hm] at this
  rw [if_pos this]
 | some m =>
  rw [hm] at this
  rw [if_neg (fun h => h this.1)]
  have hp := this.2.mput d.Put
  simp only
  rw [hp.length, hp.vals]
theorem ZfG (s : N2.Z8) (d : N2.ZC) (h1 : d.Put.length ≤ 1000000) (h2 : d.Drop.length ≤ 1000000) : N2.g12 s d = some (Z8o s d) := by
 rw [N2.g12_val s d h1 h2, ZfF]
end Go.Proofs.Ytbmmhbpalkepeaa
end
section
namespace Go.Proofs.Ytbmmhbpalkepeaa
open Go Go.Abs
def rS (s : N2.Z8) : N2.Zk := N2.Zk.mk s.Default s.Closed s.Fuel s.Stack s.Rules
namespace N2
theorem Zhy (n1 n2 n3 n4 : Int) (L : List N2.Z2) (hl : L.length ≤ 1000000) : ∀ (k i : Nat) (out : List N2.Z2), i + k = L.length → out.length ≤ i →
  Z6H L (L.length : Int) (i : Int) n1 n2 n3 n4 out = some ⟨n1, n2, n3, n4, out ++ L.drop i⟩ := by
 intro k
 induction k with
 | zero =>
  intro i out h ho
  rw [Z4e (by omega)]
  apply Zav
  unfold Z6j
  rw [if_neg (by simp; omega)]
  simp [Z8s]
 | succ k ih =>
  intro i out h ho
  have hi : i < L.length := by omega
  rw [Z4S hi]
  apply Zav
  unfold Z6j
  rw [if_pos (by simp; omega)]
  unfold Z8r
  rw [Z1L, q2_ hi]
  simp only [q3_]
  rw [Z84 _ _ (by omega)]
  simp only [q3_]
  rw [Z3m (by omega) (by omega), show ((i : Int) + 1) = ((i + 1 : Nat) : Int) by omega, ih (i + 1) _ (by omega) (by simp; omega), Zac, Zmd]
theorem ZdE (s : N2.Z8) (h : s.Rules.length ≤ 1000000) : g14 s = some (rS s) := by
 apply Zlo
 unfold b14
 have := Zhy s.Default s.Closed s.Fuel s.Stack s.Rules h s.Rules.length 0 [] (by omega) (by simp)
 simpa [rS] using this
theorem Zjs : g10 = some true := by
 apply Zlk
 unfold b10
 have h25 : g25 = some ⟨0, 255, 10000, 500, []⟩ := Zlu rfl
 rw [h25]
 simp only [q3_]
 rw [ZfG _ _ (by simp) (by simp)]
 have : Z8o ⟨0, 255, 10000, 500, []⟩ ⟨-1, 7, -1, -1, [⟨3, 0, 0, 1, ByteArray.mk #[97]⟩], []⟩ = (⟨0, 7, 10000, 500, [⟨3, 0, 0, 1, ByteArray.mk #[97]⟩]⟩, 0) := by kernel_rfl
 rw [this]
 rfl
end N2
end Go.Proofs.Ytbmmhbpalkepeaa
end
section
namespace Go.Proofs.Ytbmmhbpalkepeaa
open Go Go.Abs
namespace N2
end N2
end Go.Proofs.Ytbmmhbpalkepeaa
end
section
namespace Go.Proofs.Ytbmmhbpalkepeaa
open Go Go.Abs
namespace N2
theorem ZjR (r : Z2) : g34 r = some (okR r) := by
 apply ZlJ
 unfold b34 okR
 repeat' split
 all_goals simp_all
 all_goals omega
theorem ZjP (s : Zk) : g33 s = some (okN s.Default s.Closed s.Fuel s.Stack) := by
 apply ZlH
 unfold b33 okN
 repeat' split
 all_goals simp_all
 all_goals omega
theorem ZhA (s : Zk) (hl : s.Rules.length ≤ 1000000) : ∀ (d i : Nat) (n : Int), i + d = s.Rules.length → (i = 0 → n = 0) → (∀ k, i = k + 1 → ∃ r, s.Rules[k]? = some r ∧ r.ID = n) → Z6J (i : Int) s = some (asc n (s.Rules.drop i)) := by
 intro d
 induction d with
 | zero =>
  intro i n h _ _
  apply Zaz
  unfold Z6n
  rw [if_neg (by simp; omega), Z4e (by omega)]
  rfl
 | succ d ih =>
  intro i n h h0 h1
  apply Zaz
  unfold Z6n
  have hi : i < s.Rules.length := by omega
  rw [if_pos (by simp; omega)]
  unfold Z8x
  rw [Z1L, q2_ hi, Z4S hi]
  simp only [q3_, ZjR, asc, Z6q, Z6p]
  have ih' := ih (i + 1) s.Rules[i].ID (by omega) (by omega) (fun k hk => by cases hk; exact ⟨_, q2_ hi, rfl⟩)
  have hw : IntKind.i64.wrap ((i : Int) + 1) = ((i + 1 : Nat) : Int) := by rw [Z3m (by omega) (by omega)]; omega
  cases hr : okR s.Rules[i] with
  | false => simp
  | true =>
   simp only [Z4C, q8_, if_false, Z8a, hw, ih']
   cases i with
   | zero =>
    have := h0 rfl
    subst this
    have hid := (Zh3 hr).1
    rw [if_neg (by simp)]
    have : (0 : Int) < s.Rules[0].ID := by omega
    simp [this]
   | succ k =>
    obtain ⟨r, hr1, hr2⟩ := h1 k rfl
    rw [if_pos (by simp), show IntKind.i64.wrap (((k + 1 : Nat) : Int) - 1) = (k : Int) by rw [show (((k + 1 : Nat) : Int) - 1) = (k : Int) by omega, wrap_i64 (by omega) (by omega)], Z1L, hr1]
    simp only [q3_, hr2]
    by_cases hle : s.Rules[k + 1].ID ≤ n
    ·rw [if_pos (by simpa using hle)]
     have : ¬ n < s.Rules[k + 1].ID := by omega
     simp [this]
    ·rw [if_neg (by simpa using hle)]
     have : n < s.Rules[k + 1].ID := by omega
     simp [this]
theorem Zjz (s : Z8) : g19 (rS s) = some (okS s) := by
 apply Zlq
 unfold b19
 simp only [ZjP, q3_, Z6o, Z8w, okS, rS]
 cases h : okN s.Default s.Closed s.Fuel s.Stack with
 | false => simp
 | true =>
  by_cases h2 : s.Rules.length ≤ 16
  ·have h3 : ¬ 16 < (s.Rules.length : Int) := by omega
   simp only [Z4C, q8_, if_false, h3, decide_false, h2, decide_true, Z8a]
   exact ZhA (rS s) (by show s.Rules.length ≤ _; omega) s.Rules.length 0 0 (by show 0 + s.Rules.length = s.Rules.length; omega) (fun _ => rfl) (fun k hk => by omega)
  ·have h3 : 16 < (s.Rules.length : Int) := by omega
   simp [h2, h3]
theorem Zju (s : Z8) (d : ZC) : g11 s d = some (decide (s.Rules.length ≤ 40 ∧ d.Put.length ≤ 40 ∧ d.Drop.length ≤ 40)) := by
 apply Zll
 unfold b11
 by_cases h1 : s.Rules.length ≤ 40
 case neg => rw [if_neg (by simp; omega)]; simp [h1]
 rw [if_pos (by simp; omega)]
 by_cases h2 : d.Put.length ≤ 40
 case neg => rw [if_neg (by simp; omega)]; simp [h2]
 rw [if_pos (by simp; omega)]
 have : (d.Drop.length : Int) ≤ 40 ↔ d.Drop.length ≤ 40 := by omega
 simp [h1, h2, this]
end N2
end Go.Proofs.Ytbmmhbpalkepeaa
end
section
namespace Go.Proofs.Ytbmmhbpalkepeaa.N2
open Go Go.Abs Go.Abs.Ord
open Go.Proofs.Ytbmmhbpalkepeaa.Ord (ordO plc hit prO cl Ze7 ZdS plc_rising)
set_option maxRecDepth 100000
def psR (L : List Z2) : List (Int × Int) := L.map fun r => (r.Priority, r.Scope)
theorem ZdT (L : List Z2) {i : Nat} (hi : i < L.length) : (psR L)[i]? = some (L[i].Priority, L[i].Scope) := by
 unfold psR
 rw [q6_, q2_ hi]; rfl
def innO (R : List (Int × Int)) (sc p : Int) : Nat → Nat → List Int
 | 0, _ => []
 | d + 1, i => (if ((R[i]?).getD (0, 0)).1 = p ∧ hit R sc i = true then [(i : Int)] else []) ++ innO R sc p d (i + 1)
def refO (R : List (Int × Int)) (sc : Int) : Nat → List Int
 | 0 => innO R sc 0 R.length 0
 | p + 1 => innO R sc ((p + 1 : Nat) : Int) R.length 0 ++ refO R sc p
theorem Zc8 (R : List (Int × Int)) (sc p : Int) : ∀ d i, (innO R sc p d i).length ≤ d
 | 0, _ => by simp [innO]
 | d + 1, i => by
  have := Zc8 R sc p d (i + 1)
  unfold innO
  rw [Z2J]
  split <;> simp <;> omega
theorem ZlZ (s : Z8) (sc : Int) {i : Nat} (hi : i < s.Rules.length) : hit (psR s.Rules) sc i = (iand .i64 s.Rules[i].Scope sc != 0) := by
 unfold hit
 rw [ZdT _ hi]
 rfl
theorem ZaB (s : Z8) (sc p : Int) (hl : s.Rules.length ≤ 1000) : ∀ (d i : Nat) (x : List Int) (r : List Int), i + d = s.Rules.length → x.length + d ≤ 100000000 →
  Z56 sc (x ++ innO (psR s.Rules) sc p d i) p (rS s) = some r → Z6M sc x p (i : Int) (rS s) = some r := by
 intro d
 induction d with
 | zero =>
  intro i x r h hx hr
  apply ZaD
  unfold Z6r
  rw [innO, Z65] at hr
  rw [if_neg (by simp [rS]; omega)]
  exact hr
 | succ d ih =>
  intro i x r h hx hr
  have hi : i < s.Rules.length := by omega
  have hw : IntKind.i64.wrap ((i : Int) + 1) = ((i + 1 : Nat) : Int) := by rw [Z3m (by omega) (by omega)]; omega
  apply ZaD
  unfold Z6r Z8y
  rw [if_pos (by simp [rS]; omega), show lget (rS s).Rules (i : Int) = some s.Rules[i] by rw [Z1L]; exact q2_ hi, q3_, q3_]
  have e1 : (((psR s.Rules)[i]?).getD (0, 0)).1 = s.Rules[i].Priority := by rw [ZdT _ hi]; rfl
  unfold innO at hr
  rw [e1, ZlZ s sc hi] at hr
  by_cases c1 : s.Rules[i].Priority = p
  ·rw [if_pos (by simpa using c1)]
   by_cases c2 : (iand .i64 s.Rules[i].Scope sc != 0) = true
   ·rw [if_pos ⟨c1, c2⟩, ← Zac] at hr
    rw [if_pos c2]
    unfold Z8z Z3W
    rw [Z84 _ _ (by omega), q3_, hw]
    exact ih (i + 1) _ r (by omega) (by simp; omega) hr
   ·rw [if_neg (fun h => c2 h.2), Zcx] at hr
    rw [if_neg c2]
    unfold Z3W
    rw [hw]
    exact ih (i + 1) x r (by omega) (by omega) hr
  ·rw [if_neg (fun h => c1 h.1), Zcx] at hr
   rw [if_neg (by simpa using c1)]
   unfold Z3W
   rw [hw]
   exact ih (i + 1) x r (by omega) (by omega) hr
theorem Zgx (s : Z8) (sc : Int) (hl : s.Rules.length ≤ 1000) : ∀ (p : Nat) (x : List Int), p ≤ 1000 → x.length + (p + 1) * 1000 ≤ 10000000 → Z6K sc x (p : Int) (rS s) = some (x ++ refO (psR s.Rules) sc p) := by
 intro p
 have hpl : (psR s.Rules).length = s.Rules.length := Z39 _
 induction p with
 | zero =>
  intro x hp hx
  apply Z6L
  unfold Z55 Z6s
  rw [if_pos (by simp)]
  refine ZaB s sc _ hl s.Rules.length 0 x _ (by omega) (by omega) ?_
  unfold Z56
  rw [wrap_i64 (by omega) (by omega)]
  apply Z6L
  unfold Z55 Z7v
  rw [if_neg (by simp), refO, hpl]
  rfl
 | succ p ih =>
  intro x hp hx
  have hil := Zc8 (psR s.Rules) sc ((p + 1 : Nat) : Int) s.Rules.length 0
  apply Z6L
  unfold Z55 Z6s
  rw [if_pos (by simp; omega)]
  refine ZaB s sc _ hl s.Rules.length 0 x _ (by omega) (by omega) ?_
  unfold Z56
  rw [wrap_i64 (by omega) (by omega), show ((p + 1 : Nat) : Int) - 1 = (p : Int) by omega, ih _ (by omega) (by rw [Z2J]; omega), refO, hpl, Zac]
theorem ZjC (s : Z8) (sc : Int) (hl : s.Rules.length ≤ 1000) : g24 (rS s) sc = some (refO (psR s.Rules) sc 1000) := by
 apply Zlt
 unfold b24
 have := Zgx s sc hl 1000 [] (by omega) (by simp)
 rw [Zcx] at this
 exact this
theorem Z2Z {R : List (Int × Int)} {sc p : Int} {x : Int} : ∀ {d i : Nat}, x ∈ innO R sc p d i ↔ ∃ k : Nat, i ≤ k ∧ k < i + d ∧ x = k ∧ ((R[k]?).getD (0, 0)).1 = p ∧ hit R sc k = true
 | 0, i => by
  simp only [innO, List.not_mem_nil, false_iff]
  rintro ⟨k, h1, h2, _⟩; omega
 | d + 1, i => by
  rw [innO, Z4f, Z2Z (d := d) (i := i + 1)]
  constructor
  ·rintro (h | ⟨k, h1, h2, h3⟩)
   ·split at h
    ·rename_i hc
     rw [Z2O] at h
     exact ⟨i, by omega, by omega, h, hc⟩
    ·simp at h
   ·exact ⟨k, by omega, by omega, h3⟩
  ·rintro ⟨k, h1, h2, rfl, h3⟩
   by_cases e : k = i
   ·subst e
    exact .inl (by rw [if_pos h3]; simp)
   ·exact .inr ⟨k, by omega, by omega, rfl, h3⟩
theorem Z5R (R : List (Int × Int)) (sc p : Int) : ∀ (d i : Nat), (innO R sc p d i).Pairwise (· < ·)
 | 0, _ => List.Pairwise.nil
 | d + 1, i => by
  rw [innO, List.pairwise_append]
  refine ⟨by split <;> simp, Z5R R sc p d (i + 1), fun a ha b hb => ?_⟩
  obtain ⟨k, h1, _, rfl, _⟩ := Z2Z.1 hb
  split at ha
  ·rw [Z2O] at ha; omega
  ·simp at ha
theorem Zaf {R : List (Int × Int)} {sc : Int} {x : Int} : ∀ {p : Nat}, x ∈ refO R sc p ↔ ∃ k : Nat, k < R.length ∧ x = k ∧ (0 ≤ ((R[k]?).getD (0, 0)).1 ∧ ((R[k]?).getD (0, 0)).1 ≤ (p : Int)) ∧ hit R sc k = true
 | 0 => by
  rw [refO, Z2Z]
  constructor
  ·rintro ⟨k, _, h1, h2, h3, h4⟩; exact ⟨k, by omega, h2, by omega, h4⟩
  ·rintro ⟨k, h1, h2, h3, h4⟩; exact ⟨k, by omega, by omega, h2, by omega, h4⟩
 | p + 1 => by
  rw [refO, Z4f, Z2Z, Zaf (p := p)]
  constructor
  ·rintro (⟨k, _, h1, h2, h3, h4⟩ | ⟨k, h1, h2, h3, h4⟩)
   ·exact ⟨k, by omega, h2, by omega, h4⟩
   ·exact ⟨k, h1, h2, by omega, h4⟩
  ·rintro ⟨k, h1, h2, h3, h4⟩
   by_cases e : ((R[k]?).getD (0, 0)).1 = ((p + 1 : Nat) : Int)
   ·exact .inl ⟨k, by omega, by omega, h2, e, h4⟩
   ·exact .inr ⟨k, h1, h2, by omega, h4⟩
theorem Z5x {R : List (Int × Int)} {k : Nat} (h : k < R.length) : prO R (k : Int) = ((R[k]?).getD (0, 0)).1 := by
 unfold prO
 rw [Ze7 (by omega) (by omega), Int.toNat_natCast]
theorem Z68 (R : List (Int × Int)) (sc : Int) : ∀ p : Nat, (refO R sc p).Pairwise (fun x y => ltQ (prO R) x y = true)
 | 0 => by
  rw [refO]
  refine (Z5R R sc 0 R.length 0).imp_of_mem ?_
  intro a b ha hb hab
  obtain ⟨k, _, h1, rfl, h2, _⟩ := Z2Z.1 ha
  obtain ⟨m, _, h3, rfl, h4, _⟩ := Z2Z.1 hb
  unfold ltQ
  rw [Z5x (by omega), Z5x (by omega), h2, h4]
  exact decide_eq_true (.inr ⟨rfl, hab⟩)
 | p + 1 => by
  rw [refO, List.pairwise_append]
  refine ⟨?_, Z68 R sc p, ?_⟩
  ·refine (Z5R R sc _ R.length 0).imp_of_mem ?_
   intro a b ha hb hab
   obtain ⟨k, _, h1, rfl, h2, _⟩ := Z2Z.1 ha
   obtain ⟨m, _, h3, rfl, h4, _⟩ := Z2Z.1 hb
   unfold ltQ
   rw [Z5x (by omega), Z5x (by omega), h2, h4]
   exact decide_eq_true (.inr ⟨rfl, hab⟩)
  ·intro a ha b hb
   obtain ⟨k, _, h1, rfl, h2, _⟩ := Z2Z.1 ha
   obtain ⟨m, h3, rfl, h4, _⟩ := Zaf.1 hb
   unfold ltQ
   rw [Z5x (by omega), Z5x (by omega), h2]
   exact decide_eq_true (.inl (by omega))
theorem Zfk (R : List (Int × Int)) (sc : Int) (hp : ∀ x ∈ R, 0 ≤ x.1 ∧ x.1 ≤ 1000) : ordO R sc = refO R sc 1000 := by
 obtain ⟨h1, h2, _⟩ := sort_spec (pr := prO R) (plc_rising R sc R.length)
 refine Zfm (pr := prO R) ?_ h2 (Z68 R sc 1000)
 refine h1.trans ((List.perm_ext_iff_of_nodup ((plc_rising R sc R.length).imp fun h => by omega) ((Z68 R sc 1000).imp fun {a b} h e => ?_)).2 fun x => ?_)
 ·subst e
  unfold ltQ at h
  simp at h
 ·rw [Zaf]
  constructor
  ·intro hx
   unfold plc at hx
   obtain ⟨k, hk, rfl⟩ := Z1B.1 hx
   obtain ⟨hk1, hk2⟩ := Z2o.1 hk
   have hk3 := Z4g.1 hk1
   refine ⟨k, hk3, rfl, ?_, hk2⟩
   rw [q2_ hk3]
   exact hp _ (Zcz hk3)
  ·rintro ⟨k, hk, rfl, _, hh⟩
   unfold plc
   exact Z1B.2 ⟨k, Z2o.2 ⟨Z4g.2 hk, hh⟩, rfl⟩
end Go.Proofs.Ytbmmhbpalkepeaa.N2
end
