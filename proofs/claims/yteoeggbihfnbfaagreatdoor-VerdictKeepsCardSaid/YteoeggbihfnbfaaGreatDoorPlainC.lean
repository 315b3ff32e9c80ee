/- Rules, sets, deltas, verdicts, as plain functions. No condition. -/
import Derived.Test.YteoeggbihfnbfaaGreatDoorPlain
import Derived.Test.YteoeggbihfnbfaaGreatDoorTypB
import Derived.Test.YteoeggbihfnbfaaGreatDoorTypC
import Derived.Test.YteoeggbihfnbfaaGreatDoorPlainB

section
set_option linter.unusedSimpArgs false
set_option linter.unusedVariables false
namespace Go.Proofs.YteoeggbihfnbfaaGreatDoor
open Go Go.Abs
def okR (r : N2.Zw) : Bool := decide (1 ≤ r.ID ∧ r.ID ≤ 1099511627776 ∧ 0 ≤ r.Priority ∧ r.Priority ≤ 1000 ∧ 0 ≤ r.Action ∧ r.Action ≤ 255 ∧ 1 ≤ r.Scope ∧ r.Scope ≤ 65535 ∧ (r.Pattern.size : Int) ≤ 256)
def okN (a b c d : Int) : Bool := decide (0 ≤ a ∧ a ≤ 255 ∧ 0 ≤ b ∧ b ≤ 255 ∧ 1 ≤ c ∧ c ≤ 1048576 ∧ 0 ≤ d ∧ d ≤ 4096)
def asc : Int → List N2.Zw → Bool
 | _, [] => true
 | n, r :: l => okR r && decide (n < r.ID) && asc r.ID l
def okS (s : N2.Zz) : Bool := okN s.Default s.Closed s.Fuel s.Stack && decide (s.Rules.length ≤ 16) && asc 0 s.Rules
namespace N2
theorem Zb9 (r : N2.Zw) : Z8R r = some (okR r) := by
 apply ZmS
 unfold ZaA okR
 repeat' split
 all_goals simp_all
 all_goals omega
theorem Zdn (s : N2.Zz) : Z7R s = some (okN s.Default s.Closed s.Fuel s.Stack) := by
 apply ZkK
 unfold Z9F okN
 repeat' split
 all_goals simp_all
 all_goals omega
theorem Zko {i : Int} (h1 : 0 ≤ i) (h2 : i ≤ 1000000000) : IntKind.i64.wrap (i + 1) = i + 1 := wrap_i64 (by omega) (by omega)
theorem ZlB (L : List N2.Zw) (hl : L.length ≤ 1000000) : ∀ (d i : Nat) (n : Int), i + d = L.length → Z7Q n L (L.length : Int) (i : Int) = some (asc n (L.drop i)) := by
 intro d
 induction d with
 | zero =>
  intro i n h
  apply ZdU
  unfold Z7L
  rw [if_neg (by simp; omega), List.drop_of_length_le (by omega)]
  rfl
 | succ d ih =>
  intro i n h
  apply ZdU
  unfold Z7L
  have hi : i < L.length := by omega
  rw [if_pos (by simp; omega)]
  unfold Z9D
  rw [Z34, List.getElem?_eq_getElem hi, List.drop_eq_getElem_cons hi]
  simp only [Option.bind_some, Zb9, asc, Z7N, Z9E, Z8X]
  cases h1 : okR L[i] with
  | false => simp
  | true =>
   simp only [Bool.not_true, Bool.false_eq_true, if_false, Bool.true_and]
   by_cases h2 : L[i].ID ≤ n
   ·rw [if_pos (by simpa using h2)]
    have : ¬ n < L[i].ID := by omega
    simp [this]
   ·rw [if_neg (by simpa using h2), Zko (by omega) (by omega)]
    have := ih (i + 1) L[i].ID (by omega)
    rw [show ((i : Int) + 1) = ((i + 1 : Nat) : Int) by omega, this]
    have : n < L[i].ID := by omega
    simp [this]
theorem Zfu (s : N2.Zz) : Z9s s = some (okS s) := by
 apply ZnO
 unfold Zbv
 simp only [Zdn, Option.bind_some, Z7M, Z9C, okS]
 cases h : okN s.Default s.Closed s.Fuel s.Stack with
 | false => simp
 | true =>
  by_cases h2 : s.Rules.length ≤ 16
  ·have h3 : ¬ 16 < (s.Rules.length : Int) := by omega
   simp only [Bool.not_true, Bool.false_eq_true, if_false, h3, decide_false, h2, decide_true, Bool.true_and]
   exact ZlB s.Rules (by omega) s.Rules.length 0 0 (by omega)
  ·have h3 : 16 < (s.Rules.length : Int) := by omega
   simp [h2, h3]
end N2
end Go.Proofs.YteoeggbihfnbfaaGreatDoor
end
section
set_option linter.unusedSimpArgs false
set_option linter.unusedVariables false
namespace Go.Proofs.YteoeggbihfnbfaaGreatDoor
open Go Go.Abs
def Z6B : List Int → List (Int × Bool) → Bool × List (Int × Bool)
 | [], m => (false, m)
 | x :: xs, m => if (getM m x).getD false = true then (true, putM m x true) else Z6B xs (putM m x true)
def ids (l : List N2.Zw) : List Int := l.map (·.ID)
theorem ZvW {α : Type} (m : List (Int × α)) (n k : Int) (y : α) : getM (putM m n y) k = if k = n then some y else getM m k := by
 induction m with
 | nil => simp only [putM, getM]; by_cases h : n = k <;> simp [h, eq_comm]
 | cons q r ih =>
  simp only [putM]
  split
  ·rename_i h
   simp only [getM]
   by_cases hk : n = k
   ·simp [hk]
   ·simp only [if_neg hk]; rw [h, if_neg hk, if_neg (fun e => hk e.symm)]
  ·rename_i h
   simp only [getM, ih]
   by_cases hk : q.1 = k
   ·rw [if_pos hk]; have : k ≠ n := fun e => h (hk.trans e); rw [if_neg this, if_pos hk]
   ·rw [if_neg hk]; split <;> simp [hk]
theorem Znq : ∀ (xs : List Int) (m : List (Int × Bool)) (seen : List Int), (∀ x, (getM m x).getD false = decide (x ∈ seen)) → (Z6B xs m).1 = !decide (xs.Nodup ∧ ∀ x ∈ xs, x ∉ seen) ∧
  ((Z6B xs m).1 = false → ∀ x, (getM (Z6B xs m).2 x).getD false = decide (x ∈ xs ∨ x ∈ seen))
 | [], m, seen, h => by simpa [Z6B] using h
 | x :: xs, m, seen, h => by
  unfold Z6B
  rw [h x]
  by_cases hx : x ∈ seen
  ·rw [decide_eq_true hx]
   simp only [if_true]
   refine ⟨?_, fun e => by cases e⟩
   have : ¬ ((x :: xs).Nodup ∧ ∀ y ∈ x :: xs, y ∉ seen) := fun hh => hh.2 x (by simp) hx
   simp only [decide_eq_false this, Bool.not_false]
  ·rw [if_neg (by simpa using hx)]
   have hm : ∀ y, (getM (putM m x true) y).getD false = decide (y ∈ x :: seen) := by
    intro y
    rw [ZvW]
    by_cases hy : y = x
    ·simp [hy]
    ·rw [if_neg hy, h y]; simp [hy]
   obtain ⟨h1, h2⟩ := Znq xs _ (x :: seen) hm
   refine ⟨?_, fun e y => ?_⟩
   ·rw [h1]
    congr 2
    apply propext
    simp only [List.nodup_cons, List.mem_cons, not_or, forall_eq_or_imp]
    constructor
    ·rintro ⟨a, b⟩
     exact ⟨⟨fun hh => (b x hh).1 rfl, a⟩, hx, fun y hy => (b y hy).2⟩
    ·rintro ⟨⟨a, b⟩, _, c⟩
     exact ⟨b, fun y hy => ⟨fun e => a (e ▸ hy), c y hy⟩⟩
   ·rw [h2 e y]
    congr 1
    apply propext
    simp only [List.mem_cons]
    constructor
    ·rintro (a | a | a)
     ·exact .inl (.inr a)
     ·exact .inl (.inl a)
     ·exact .inr a
    ·rintro ((a | a) | a)
     ·exact .inr (.inl a)
     ·exact .inl a
     ·exact .inr (.inr a)
namespace N2
theorem ZeC (L : List N2.Zw) (hl : L.length ≤ 1000000) : ∀ (d i : Nat), i + d = L.length → ∃ n, Z4o L (L.length : Int) (i : Int) = some n ∧ decide (0 ≤ n) = (L.drop i).any fun r => !okR r := by
 intro d
 induction d with
 | zero =>
  intro i h
  refine ⟨-1, ?_, by rw [List.drop_of_length_le (by omega)]; rfl⟩
  apply Z6t
  unfold Z3v
  rw [if_neg (by simp; omega)]
  rfl
 | succ d ih =>
  intro i h
  have hi : i < L.length := by omega
  rw [List.drop_eq_getElem_cons hi]
  obtain ⟨n, h1, h2⟩ := ih (i + 1) (by omega)
  cases hr : okR L[i] with
  | false =>
   refine ⟨i, ?_, by simp only [List.any_cons, hr]; simp⟩
   apply Z6t
   unfold Z3v
   rw [if_pos (by simp; omega)]
   unfold Z4i
   have h43 : Z6Y L[i] = some true := Zcv _ (by unfold Z6S; simp [Zb9, hr])
   simp [Z34, List.getElem?_eq_getElem hi, h43]
  | true =>
   refine ⟨n, ?_, by simp only [List.any_cons, hr, h2]; simp⟩
   apply Z6t
   unfold Z3v
   rw [if_pos (by simp; omega)]
   unfold Z4i
   have h43 : Z6Y L[i] = some false := Zcv _ (by unfold Z6S; simp [Zb9, hr])
   simp only [Z34, List.getElem?_eq_getElem hi, h43, Option.bind_some, Bool.false_eq_true, if_false, Z5k]
   rw [Zko (by omega) (by omega), show ((i : Int) + 1) = ((i + 1 : Nat) : Int) by omega]
   exact h1
theorem ZjW (L : List N2.Zw) (hl : L.length ≤ 1000000) : Z9O L = some (L.all okR) := by
 obtain ⟨n, h1, h2⟩ := ZeC L hl L.length 0 (by omega)
 apply ZkL
 have h52 : Z6i L = some n := ZfC _ (by unfold Z6e; exact h1)
 have h42 : Z5p L = some (decide (0 ≤ n)) := Ze0 _ (by unfold Z5h; rw [h52]; rfl)
 unfold Z9G
 rw [h42, h2]
 simp [List.all_eq_not_any_not]
theorem Z7Z (n : Int) (m : List (Int × Bool)) : Z5Q n m = some ((getM m n).getD false, putM m n true) := Zhn _ _ rfl
theorem Zb8 (r : N2.Zw) (m : List (Int × Bool)) : Z7s r m = some ((getM m r.ID).getD false, putM m r.ID true) := Zho _ _ (by unfold Z7l; rw [Z7Z]; rfl)
theorem ZeD (L : List N2.Zw) (hl : L.length ≤ 1000000) : ∀ (d i : Nat) (m : List (Int × Bool)), i + d = L.length →
  ∃ n, Z4p L (L.length : Int) (i : Int) m = some (n, (Z6B (ids (L.drop i)) m).2) ∧ decide (0 ≤ n) = (Z6B (ids (L.drop i)) m).1 := by
 intro d
 induction d with
 | zero =>
  intro i m h
  rw [List.drop_of_length_le (by omega)]
  refine ⟨-1, ?_, rfl⟩
  apply Z6u
  unfold Z3w
  rw [if_neg (by simp; omega)]
  rfl
 | succ d ih =>
  intro i m h
  have hi : i < L.length := by omega
  rw [List.drop_eq_getElem_cons hi]
  obtain ⟨n, h1, h2⟩ := ih (i + 1) (putM m L[i].ID true) (by omega)
  simp only [ids, List.map_cons, Z6B]
  by_cases hs : (getM m L[i].ID).getD false = true
  ·rw [if_pos hs]
   refine ⟨i, ?_, by simp⟩
   apply Z6u
   unfold Z3w
   rw [if_pos (by simp; omega)]
   unfold Z4j
   simp [Z34, List.getElem?_eq_getElem hi, Zb8, hs]
  ·rw [if_neg hs]
   refine ⟨n, ?_, h2⟩
   apply Z6u
   unfold Z3w
   rw [if_pos (by simp; omega)]
   unfold Z4j
   simp only [Z34, List.getElem?_eq_getElem hi, Zb8, Option.bind_some, if_neg hs, Z5l]
   rw [Zko (by omega) (by omega), show ((i : Int) + 1) = ((i + 1 : Nat) : Int) by omega]
   exact h1
theorem Zfe (L : List Int) (hl : L.length ≤ 1000000) : ∀ (d i : Nat) (m : List (Int × Bool)), i + d = L.length →
  ∃ n, Z4x L (L.length : Int) (i : Int) m = some (n, (Z6B (L.drop i) m).2) ∧ decide (0 ≤ n) = (Z6B (L.drop i) m).1 := by
 intro d
 induction d with
 | zero =>
  intro i m h
  rw [List.drop_of_length_le (by omega)]
  refine ⟨-1, ?_, rfl⟩
  apply Z6I
  unfold Z3E
  rw [if_neg (by simp; omega)]
  rfl
 | succ d ih =>
  intro i m h
  have hi : i < L.length := by omega
  rw [List.drop_eq_getElem_cons hi]
  obtain ⟨n, h1, h2⟩ := ih (i + 1) (putM m L[i] true) (by omega)
  simp only [Z6B]
  by_cases hs : (getM m L[i]).getD false = true
  ·rw [if_pos hs]
   refine ⟨i, ?_, by simp⟩
   apply Z6I
   unfold Z3E
   rw [if_pos (by simp; omega)]
   unfold Z4w
   simp [Z34, List.getElem?_eq_getElem hi, Z7Z, hs]
  ·rw [if_neg hs]
   refine ⟨n, ?_, h2⟩
   apply Z6I
   unfold Z3E
   rw [if_pos (by simp; omega)]
   unfold Z4w
   simp only [Z34, List.getElem?_eq_getElem hi, Z7Z, Option.bind_some, if_neg hs, Z5A]
   rw [Zko (by omega) (by omega), show ((i : Int) + 1) = ((i + 1 : Nat) : Int) by omega]
   exact h1
theorem ZkJ (d : N2.ZL) (h1 : d.Put.length ≤ 1000000) (h2 : d.Drop.length ≤ 1000000) : Zag d = some (!decide (ids d.Put ++ d.Drop).Nodup) := by
 obtain ⟨n, e1, e2⟩ := ZeD d.Put h1 d.Put.length 0 [] (by omega)
 have h52 : Z6j d.Put [] = some (n, (Z6B (ids d.Put) []).2) := ZfE _ _ (by unfold Z6f; exact e1)
 have h42 : Z5q d.Put [] = some ((Z6B (ids d.Put) []).1, (Z6B (ids d.Put) []).2) := Ze2 _ _ (by unfold Z5i; rw [h52]; simpa using e2)
 obtain ⟨k, f1, f2⟩ := Zfe d.Drop h2 d.Drop.length 0 (Z6B (ids d.Put) []).2 (by omega)
 have h53 : Z6A d.Drop (Z6B (ids d.Put) []).2 = some (k, (Z6B d.Drop (Z6B (ids d.Put) []).2).2) := ZfY _ _ (by unfold Z6z; exact f1)
 have h46 : Z5E d.Drop (Z6B (ids d.Put) []).2 = some ((Z6B d.Drop (Z6B (ids d.Put) []).2).1, (Z6B d.Drop (Z6B (ids d.Put) []).2).2) := Zey _ _ (by unfold Z5z; rw [h53]; simpa using f2)
 obtain ⟨s1, s2⟩ := Znq (ids d.Put) [] [] (by simp [getM])
 simp only [List.not_mem_nil, not_false_eq_true, implies_true, and_true, or_false] at s1 s2
 apply Zly
 unfold Za8
 rw [h42]
 simp only [Option.bind_some]
 cases hs : (Z6B (ids d.Put) []).1 with
 | true =>
  have h : ¬ (ids d.Put).Nodup := fun h => by rw [hs, decide_eq_true h] at s1; cases s1
  have : ¬ (ids d.Put ++ d.Drop).Nodup := fun h' => h (List.nodup_append.1 h').1
  rw [decide_eq_false this]
  rfl
 | false =>
  have hn : (ids d.Put).Nodup := by
   rw [hs] at s1
   simpa using s1
  rw [h46]
  obtain ⟨t1, _⟩ := Znq d.Drop _ (ids d.Put) (s2 hs)
  simp only [Bool.false_eq_true, if_false, Option.bind_some, t1]
  congr 3
  apply propext
  rw [List.nodup_append]
  constructor
  ·rintro ⟨a, b⟩
   exact ⟨hn, a, fun x hx y hy e => b y hy (e ▸ hx)⟩
  ·rintro ⟨_, a, b⟩
   exact ⟨a, fun x hx h => b x h x hx rfl⟩
end N2
end Go.Proofs.YteoeggbihfnbfaaGreatDoor
end
section
set_option linter.unusedSimpArgs false
set_option linter.unusedVariables false
namespace Go.Proofs.YteoeggbihfnbfaaGreatDoor
open Go Go.Abs
abbrev MR := List (Int × N2.Zw)
def zR : N2.Zw := N2.Zw.mk 0 0 0 0 (ByteArray.mk #[])
def zS : N2.Zz := N2.Zz.mk 0 0 0 0 []
def mput (m : MR) (l : List N2.Zw) : MR := l.foldl (fun m r => putM m r.ID r) m
def Zep : List Int → MR → Option MR
 | [], m => some m
 | i :: l, m => if (getM m i).isSome = true then Zep l (delM m i) else none
def Zeo (m : MR) : List Int := (m.map (·.1)).mergeSort (fun a b => decide (a ≤ b))
def orI (a b : Int) : Int := if a = -1 then b else a
def okK (m : MR) : Prop := ∀ q ∈ m, 1 ≤ q.1 ∧ q.1 ≤ 1099511627776
theorem ZFm {m : MR} (h : okK m) {n : Int} (y : N2.Zw) (hn : 1 ≤ n ∧ n ≤ 1099511627776) : okK (putM m n y) := by
 induction m with
 | nil => intro q hq; simp [putM] at hq; subst hq; exact hn
 | cons p r ih =>
  rw [putM]
  have hr : okK r := fun q hq => h q (by simp [hq])
  split
  ·intro q hq
   rcases List.mem_cons.1 hq with rfl | hq
   ·exact hn
   ·exact hr q hq
  ·intro q hq
   rcases List.mem_cons.1 hq with rfl | hq
   ·exact h _ (by simp)
   ·exact ih hr q hq
theorem ZFl {m : MR} (h : okK m) (n : Int) : okK (delM m n) := by
 induction m with
 | nil => exact h
 | cons p r ih =>
  have hr : okK r := fun q hq => h q (by simp [hq])
  rw [delM]
  split
  ·exact hr
  ·intro q hq
   rcases List.mem_cons.1 hq with rfl | hq
   ·exact h _ (by simp)
   ·exact ih hr q hq
theorem ZBU {r : N2.Zw} (h : okR r = true) : 1 ≤ r.ID ∧ r.ID ≤ 1099511627776 := by
 unfold okR at h
 simp only [decide_eq_true_eq] at h
 omega
theorem ZqG : ∀ {l : List N2.Zw} {m : MR}, okK m → l.all okR = true → okK (mput m l)
 | [], _, h, _ => h
 | r :: l, m, h, hl => by
  simp only [List.all_cons, Bool.and_eq_true] at hl
  exact ZqG (l := l) (ZFm h r (ZBU hl.1)) hl.2
theorem Zw7 : ∀ {l : List Int} {m m' : MR}, okK m → Zep l m = some m' → okK m'
 | [], m, m', h, e => by simp [Zep] at e; subst e; exact h
 | i :: l, m, m', h, e => by
  unfold Zep at e
  split at e
  ·exact Zw7 (ZFl h i) e
  ·simp at e
theorem Zxu : ∀ {l : List N2.Zw} {n : Int}, asc n l = true → l.all okR = true
 | [], n, _ => rfl
 | r :: l, n, h => by
  simp only [asc, Bool.and_eq_true] at h
  simp [h.1.1, Zxu h.2]
theorem ZFn {s : N2.Zz} (h : okS s = true) : s.Rules.all okR = true := by
 unfold okS at h
 simp only [Bool.and_eq_true] at h
 exact Zxu h.2
namespace N2
theorem Zpu (a b : Int) : Zel a b = some (orI a b) := Zqq _ _ (by unfold Zef orI; by_cases h : a = -1 <;> simp [h])
theorem ZlH (a b : Int) : ZaM a b = some (orI a b) := ZmY _ _ (by unfold ZaD orI; by_cases h : a = -1 <;> simp [h])
theorem ZlF (a b : Int) : ZaL a b = some (orI a b) := ZmW _ _ (by unfold ZaC orI; by_cases h : a = -1 <;> simp [h])
theorem ZlD (a b : Int) : ZaK a b = some (orI a b) := ZmU _ _ (by unfold ZaB orI; by_cases h : a = -1 <;> simp [h])
theorem Zjb : Z8Z = some () := ZjF rfl
theorem ZA0 (m : MR) : keysOf (m.map (encM ZC)) = Zeo m := by
 unfold keysOf Zeo
 rw [List.map_map]
 rfl
theorem Zhu (m : MR) (h : m.length ≤ 1048576) (hk : okK m) : Z9S m = some (Zeo m) := by
 apply Z1a (fun _ _ ha hb => RRun.uniq (Zi2 m) ha hb)
 have e : EE 52 [(.clo 78 [] [(.ptr 0 0)])] [[(.mp 1)], [(.md (m.map (encM ZC)))]] = some ((.p (.lst .sh ((Zeo m).map (eI .i64)))), [[(.mp 1)], [(.md (m.map (encM ZC)))]]) := by
  rw [show EE 52 = E PP XX HH 52 from rfl, Zuq (P := PP) (X := XX) (H := HH) (f := 52) (m := Zm5) (by kernel_rfl)]
  have : Zm5 [(.clo 78 [] [(.ptr 0 0)])] [[(.mp 1)], [(.md (m.map (encM ZC)))]] = if (m.map (encM ZC)).length ≤ 1048576 ∧ (∀ q ∈ m.map (encM ZC), -9223372036854775808 ≤ q.1 ∧ q.1 ≤ 9223372036854775807) then some (.p (.lst .sh ((keysOf (m.map (encM ZC))).map fun n => .v (.int .i64 n))), [[(.mp 1)], [(.md (m.map (encM ZC)))]]) else none := rfl
  have hr : ∀ q ∈ m.map (encM ZC), -9223372036854775808 ≤ q.1 ∧ q.1 ≤ 9223372036854775807 := by
   intro q hq
   obtain ⟨p, hp, rfl⟩ := List.mem_map.1 hq
   have := hk p hp
   show -9223372036854775808 ≤ p.1 ∧ p.1 ≤ 9223372036854775807
   omega
  rw [this, if_pos ⟨by simpa using h, hr⟩, ZA0]
  rfl
 exact ⟨_, e, [], by simp⟩
theorem Zmx (d : N2.ZL) (n1 n2 n3 n4 : Int) (L : List N2.Zw) (hl : L.length ≤ 1000000) {r : N2.Zz × Int} : ∀ (k i : Nat) (m : MR), i + k = L.length →
  Z9h d n1 n2 n3 n4 (mput m (L.drop i)) = some r → Z9o L (L.length : Int) (i : Int) d n1 n2 n3 n4 m = some r := by
 intro k
 induction k with
 | zero =>
  intro i m h hr
  rw [List.drop_of_length_le (by omega)] at hr
  apply Zg1
  unfold Z9d
  rw [if_neg (by simp; omega)]
  exact hr
 | succ k ih =>
  intro i m h hr
  have hi : i < L.length := by omega
  rw [List.drop_eq_getElem_cons hi] at hr
  apply Zg1
  unfold Z9d
  rw [if_pos (by simp; omega)]
  unfold Zbn
  rw [Z34, List.getElem?_eq_getElem hi, Zko (by omega) (by omega), show ((i : Int) + 1) = ((i + 1 : Nat) : Int) by omega]
  exact ih (i + 1) _ (by omega) hr
theorem ZmB (n1 n2 n3 n4 : Int) (L : List N2.Zw) (hl : L.length ≤ 1000000) {r : N2.Zz × Int} : ∀ (k i : Nat) (m : MR), i + k = L.length →
  Z9j n1 n2 n3 n4 (mput m (L.drop i)) = some r → Z9q L (L.length : Int) (i : Int) n1 n2 n3 n4 m = some r := by
 intro k
 induction k with
 | zero =>
  intro i m h hr
  rw [List.drop_of_length_le (by omega)] at hr
  apply Zg5
  unfold Z9f
  rw [if_neg (by simp; omega)]
  exact hr
 | succ k ih =>
  intro i m h hr
  have hi : i < L.length := by omega
  rw [List.drop_eq_getElem_cons hi] at hr
  apply Zg5
  unfold Z9f
  rw [if_pos (by simp; omega)]
  unfold Zbr
  rw [Z34, List.getElem?_eq_getElem hi, Zko (by omega) (by omega), show ((i : Int) + 1) = ((i + 1 : Nat) : Int) by omega]
  exact ih (i + 1) _ (by omega) hr
theorem Zmz (d : N2.ZL) (n1 n2 n3 n4 : Int) (L : List Int) (hl : L.length ≤ 1000000) {r : N2.Zz × Int} : ∀ (k i : Nat) (m : MR), i + k = L.length →
  (match Zep (L.drop i) m with | some m => Z9i d n1 n2 n3 n4 m | none => some (zS, 32)) = some r → Z9p L (L.length : Int) (i : Int) d n1 n2 n3 n4 m = some r := by
 intro k
 induction k with
 | zero =>
  intro i m h hr
  rw [List.drop_of_length_le (by omega)] at hr
  apply Zg3
  unfold Z9e
  rw [if_neg (by simp; omega)]
  exact hr
 | succ k ih =>
  intro i m h hr
  have hi : i < L.length := by omega
  rw [List.drop_eq_getElem_cons hi] at hr
  apply Zg3
  unfold Z9e
  rw [if_pos (by simp; omega)]
  unfold Zbo
  rw [Z34, List.getElem?_eq_getElem hi]
  simp only [Option.bind_some, Zbp, Zbq]
  unfold Zep at hr
  cases hg : (getM m L[i]).isSome with
  | false => rw [hg] at hr; exact hr
  | true =>
   rw [hg] at hr
   simp only [if_true] at hr
   simp only [Bool.not_true, Bool.false_eq_true, if_false]
   rw [Zko (by omega) (by omega), show ((i : Int) + 1) = ((i + 1 : Nat) : Int) by omega]
   exact ih (i + 1) _ (by omega) hr
theorem ZCX {α : Type} (l : List α) (a : α) (h : l.length ≤ 1000000000) : lapp l [a] = some (l ++ [a]) := by
 unfold lapp
 rw [if_pos (by simp [lim]; omega)]
theorem ZmD (n1 n2 n3 n4 : Int) (m : MR) (K : List Int) (hl : K.length ≤ 1000000) : ∀ (k i : Nat) (out : List N2.Zw), i + k = K.length → out.length ≤ i →
  Z9r K (K.length : Int) (i : Int) n1 n2 n3 n4 out m = some (⟨n1, n2, n3, n4, out ++ (K.drop i).map fun n => (getM m n).getD zR⟩, 0) := by
 intro k
 induction k with
 | zero =>
  intro i out h ho
  rw [List.drop_of_length_le (by omega)]
  apply Zg7
  unfold Z9g
  rw [if_neg (by simp; omega)]
  simp [Zbu]
 | succ k ih =>
  intro i out h ho
  have hi : i < K.length := by omega
  rw [List.drop_eq_getElem_cons hi]
  apply Zg7
  unfold Z9g
  rw [if_pos (by simp; omega)]
  unfold Zbt
  rw [Z34, List.getElem?_eq_getElem hi]
  simp only [Option.bind_some]
  rw [ZCX _ _ (by omega)]
  simp only [Option.bind_some]
  rw [Zko (by omega) (by omega), show ((i : Int) + 1) = ((i + 1 : Nat) : Int) by omega, ih (i + 1) _ (by omega) (by simp; omega), List.map_cons, List.append_assoc, List.singleton_append]
  rfl
def applyM (s : N2.Zz) (d : N2.ZL) : N2.Zz × Int :=
 if okS s = false then (zS, 10) else
 if okN (orI d.Default s.Default) (orI d.Closed s.Closed) (orI d.Fuel s.Fuel) (orI d.Stack s.Stack) = false ∨ d.Put.all okR = false then (zS, 30) else
 if ¬ (ids d.Put ++ d.Drop).Nodup then (zS, 31) else
 match Zep d.Drop (mput [] s.Rules) with
 | none => (zS, 32)
 | some m =>
  if 16 < (mput m d.Put).length then (zS, 33) else
  (⟨orI d.Default s.Default, orI d.Closed s.Closed, orI d.Fuel s.Fuel, orI d.Stack s.Stack, (Zeo (mput m d.Put)).map fun n => (getM (mput m d.Put) n).getD zR⟩, 0)
theorem ZxX {s : N2.Zz} (h : okS s = true) : s.Rules.length ≤ 16 := by
 unfold okS at h
 simp only [Bool.and_eq_true, decide_eq_true_eq] at h
 exact h.1.2
theorem ZBJ (m : MR) : (Zeo m).length = m.length := by unfold Zeo; simp
theorem g_rule_Apply_val (s : N2.Zz) (d : N2.ZL) (h1 : d.Put.length ≤ 1000000) (h2 : d.Drop.length ≤ 1000000) : Zb7 s d = some (applyM s d) := by
 apply Zrt
 unfold Zfm applyM
 rw [Zfu]
 simp only [Option.bind_some]
 cases hs : okS s with
 | false => rfl
 | true =>
  have hlen := ZxX hs
  simp only [Bool.not_true, Bool.false_eq_true, if_false, Bool.true_eq_false]
  unfold Zc6
  simp only [Zpu, ZlH, ZlF, ZlD, Zdn, Option.bind_some, ZjW _ h1, Za7]
  cases hn : okN (orI d.Default s.Default) (orI d.Closed s.Closed) (orI d.Fuel s.Fuel) (orI d.Stack s.Stack) with
  | false => rfl
  | true =>
   simp only [Bool.not_true, Bool.false_eq_true, if_false, Bool.true_eq_false, false_or]
   cases hp : d.Put.all okR with
   | false => rfl
   | true =>
    simp only [Bool.not_true, Bool.false_eq_true, if_false, Bool.true_eq_false]
    unfold Zbl
    rw [ZkJ d h1 h2]
    simp only [Option.bind_some]
    by_cases ht : (ids d.Put ++ d.Drop).Nodup
    ·simp only [decide_eq_true ht, Bool.not_true, Bool.false_eq_true, if_false, ht, not_true]
     unfold Zbm
     refine Zmx d _ _ _ _ s.Rules (by omega) s.Rules.length 0 [] (by omega) ?_
     unfold Z9h
     refine Zmz d _ _ _ _ d.Drop h2 d.Drop.length 0 _ (by omega) ?_
     simp only [List.drop_zero]
     cases hm : Zep d.Drop (mput [] s.Rules) with
     | none => rfl
     | some m =>
      simp only
      unfold Z9i
      refine ZmB _ _ _ _ d.Put h1 d.Put.length 0 _ (by omega) ?_
      simp only [List.drop_zero]
      unfold Z9j
      by_cases hc : 16 < (mput m d.Put).length
      ·rw [if_pos (by simp; omega), if_pos hc]; rfl
      ·rw [if_neg (by simp; omega), if_neg hc]
       unfold Zbs
       rw [Zjb, Zhu _ (by omega) (ZqG (Zw7 (ZqG (m := []) (fun q hq => by simp at hq) (ZFn hs)) hm) hp)]
       simp only [Option.bind_some]
       have hk : (Zeo (mput m d.Put)).length ≤ 1000000 := by rw [ZBJ]; omega
       have := ZmD (orI d.Default s.Default) (orI d.Closed s.Closed) (orI d.Fuel s.Fuel) (orI d.Stack s.Stack) (mput m d.Put) (Zeo (mput m d.Put)) hk (Zeo (mput m d.Put)).length 0 [] (by omega) (by simp)
       simpa using this
    ·simp only [decide_eq_false ht, Bool.not_false, if_true, ht, not_false_eq_true]
     rfl
end N2
end Go.Proofs.YteoeggbihfnbfaaGreatDoor
end
section
set_option linter.unusedSimpArgs false
set_option linter.unusedVariables false
namespace Go.Proofs.YteoeggbihfnbfaaGreatDoor
open Go Go.Abs
def getL (l : List N2.Zw) (n : Int) : Option N2.Zw := l.find? fun r => r.ID == n
def putL : List N2.Zw → N2.Zw → List N2.Zw
 | [], r => [r]
 | x :: t, r => if x.ID < r.ID then x :: putL t r else r :: (x :: t).filter fun y => y.ID != r.ID
abbrev Za2 (l : List N2.Zw) : Prop := l.Pairwise fun a b => a.ID < b.ID
theorem Zai (x : N2.Zw) (t : List N2.Zw) (n : Int) : getL (x :: t) n = if x.ID = n then some x else getL t n := by
 unfold getL
 rw [List.find?_cons]
 by_cases h : x.ID = n
 ·simp [h]
 ·have : (x.ID == n) = false := by simpa using h
  rw [this, if_neg h]
theorem ZlO (l : List N2.Zw) (k n : Int) : getL (l.filter fun y => y.ID != k) n = if n = k then none else getL l n := by
 induction l with
 | nil => simp [getL]
 | cons x t ih =>
  by_cases hx : x.ID = k
  ·rw [List.filter_cons_of_neg (by simp [hx]), ih, Zai]
   by_cases hn : n = k
   ·rw [if_pos hn, if_pos hn]
   ·rw [if_neg hn, if_neg hn, if_neg (fun e => hn (by rw [← e, hx]))]
  ·rw [List.filter_cons_of_pos (by simp [hx]), Zai, ih, Zai]
   by_cases hn : n = k
   ·rw [if_pos hn, if_pos hn, if_neg (fun e => hx (e.trans hn))]
   ·rw [if_neg hn, if_neg hn]
theorem ZBD (l : List N2.Zw) (r : N2.Zw) (n : Int) : getL (putL l r) n = if n = r.ID then some r else getL l n := by
 induction l with
 | nil =>
  rw [putL, Zai]
  by_cases h : r.ID = n
  ·rw [if_pos h, if_pos h.symm]
  ·rw [if_neg h, if_neg fun e => h e.symm]
 | cons x t ih =>
  rw [putL]
  split
  ·rename_i hx
   rw [Zai, ih, Zai]
   by_cases hn : n = r.ID
   ·rw [if_pos hn, if_pos hn, if_neg (by omega)]
   ·rw [if_neg hn, if_neg hn]
  ·rw [Zai, ZlO]
   by_cases hn : n = r.ID
   ·rw [if_pos hn.symm, if_pos hn]
   ·rw [if_neg (fun e => hn e.symm), if_neg hn, if_neg hn]
theorem Zw3 {l : List N2.Zw} {r y : N2.Zw} (h : y ∈ putL l r) : y = r ∨ y ∈ l := by
 induction l with
 | nil => rw [putL] at h; simpa using h
 | cons x t ih =>
  rw [putL] at h
  split at h
  ·rcases List.mem_cons.1 h with rfl | h
   ·exact .inr (by simp)
   ·rcases ih h with h | h
    ·exact .inl h
    ·exact .inr (by simp [h])
  ·rcases List.mem_cons.1 h with h | h
   ·exact .inl h
   ·exact .inr (List.mem_filter.1 h).1
theorem ZpS {l : List N2.Zw} (h : Za2 l) (r : N2.Zw) : Za2 (putL l r) := by
 induction l with
 | nil => simp [putL, Za2]
 | cons x t ih =>
  obtain ⟨h1, h2⟩ := List.pairwise_cons.1 h
  rw [putL]
  split
  ·rename_i hx
   refine List.pairwise_cons.2 ⟨fun y hy => ?_, ih h2⟩
   rcases Zw3 hy with rfl | hy
   ·exact hx
   ·exact h1 y hy
  ·rename_i hx
   refine List.pairwise_cons.2 ⟨fun y hy => ?_, h.filter _⟩
   obtain ⟨hy, hn⟩ := List.mem_filter.1 hy
   have hn : y.ID ≠ r.ID := by simpa using hn
   rcases List.mem_cons.1 hy with rfl | hy
   ·omega
   ·have := h1 y hy; omega
structure RelM (m : MR) (l : List N2.Zw) : Prop where
 nodup : (m.map (·.1)).Nodup
 sorted : Za2 l
 get : ∀ n, getM m n = getL l n
theorem ZCV (m : MR) (n : Int) (y : N2.Zw) : ∀ k, k ∈ (putM m n y).map (·.1) ↔ k = n ∨ k ∈ m.map (·.1) := by
 intro k
 induction m with
 | nil => simp [putM]
 | cons q r ih =>
  rw [putM]
  split
  ·rename_i h
   simp [h]
  ·simp only [List.map_cons, List.mem_cons, ih]
   constructor
   ·rintro (a | a | a)
    ·exact .inr (.inl a)
    ·exact .inl a
    ·exact .inr (.inr a)
   ·rintro (a | a | a)
    ·exact .inr (.inl a)
    ·exact .inl a
    ·exact .inr (.inr a)
theorem ZBN {m : MR} (h : (m.map (·.1)).Nodup) (n : Int) (y : N2.Zw) : ((putM m n y).map (·.1)).Nodup := by
 induction m with
 | nil => simp [putM]
 | cons q r ih =>
  simp only [List.map_cons, List.nodup_cons] at h
  rw [putM]
  split
  ·rename_i hq
   simp only [List.map_cons, List.nodup_cons]
   exact ⟨hq ▸ h.1, h.2⟩
  ·rename_i hq
   simp only [List.map_cons, List.nodup_cons]
   refine ⟨fun hk => ?_, ih h.2⟩
   rcases (ZCV r n y q.1).1 hk with e | e
   ·exact hq e
   ·exact h.1 e
theorem ZBF {m : MR} {n : Int} (h : n ∉ m.map (·.1)) : getM m n = none := by
 induction m with
 | nil => rfl
 | cons q r ih =>
  simp only [List.map_cons, List.mem_cons, not_or] at h
  rw [getM, if_neg (fun e => h.1 e.symm)]
  exact ih h.2
theorem ZCQ {m : MR} {n : Int} : (getM m n).isSome = true ↔ n ∈ m.map (·.1) := by
 induction m with
 | nil => simp [getM]
 | cons q r ih =>
  rw [getM]
  split
  ·rename_i h; simp [h]
  ·rename_i h
   rw [ih, List.map_cons, List.mem_cons]
   exact ⟨.inr, fun hh => hh.resolve_left fun e => h e.symm⟩
theorem ZDI (m : MR) (n : Int) : (delM m n).Sublist m := by
 induction m with
 | nil => exact .slnil
 | cons q r ih =>
  rw [delM]
  split
  ·exact List.sublist_cons_self _ _
  ·exact ih.cons_cons _
theorem ZCP {m : MR} (h : (m.map (·.1)).Nodup) (n k : Int) : getM (delM m n) k = if k = n then none else getM m k := by
 induction m with
 | nil => simp [delM, getM]
 | cons q r ih =>
  simp only [List.map_cons, List.nodup_cons] at h
  rw [delM]
  split
  ·rename_i hq
   by_cases hk : k = n
   ·rw [if_pos hk]; exact ZBF (by rw [hk, ← hq]; exact h.1)
   ·rw [if_neg hk, getM, if_neg (by rw [hq]; exact fun e => hk e.symm)]
  ·rename_i hq
   rw [getM, ih h.2, getM]
   by_cases hk : k = n
   ·rw [if_pos hk, if_pos hk, if_neg (fun e => hq (e.trans hk))]
   ·rw [if_neg hk, if_neg hk]
theorem RelM.nil : RelM [] [] := ⟨by simp, by simp [Za2], fun _ => rfl⟩
theorem RelM.put {m : MR} {l : List N2.Zw} (h : RelM m l) (r : N2.Zw) : RelM (putM m r.ID r) (putL l r) :=
 ⟨ZBN h.nodup _ _, ZpS h.sorted r, fun n => by rw [ZvW, ZBD, h.get]⟩
theorem RelM.del {m : MR} {l : List N2.Zw} (h : RelM m l) (n : Int) : RelM (delM m n) (l.filter fun y => y.ID != n) :=
 ⟨h.nodup.sublist ((ZDI m n).map _), h.sorted.filter _, fun k => by rw [ZCP h.nodup, ZlO, h.get]⟩
theorem RelM.mput {m : MR} {l : List N2.Zw} (h : RelM m l) : ∀ (L : List N2.Zw), RelM (mput m L) (L.foldl putL l)
 | [] => h
 | r :: L => RelM.mput (h.put r) L
theorem Zqz {l : List N2.Zw} {n : Int} : (getL l n).isSome = true ↔ n ∈ ids l := by
 induction l with
 | nil => simp [getL, ids]
 | cons x t ih =>
  rw [Zai]
  split
  ·rename_i h; simp [ids, h]
  ·rename_i h
   rw [ih]
   unfold ids
   rw [List.map_cons, List.mem_cons]
   exact ⟨.inr, fun hh => hh.resolve_left fun e => h e.symm⟩
theorem Zws {l : List N2.Zw} (h : Za2 l) : (ids l).Nodup := by
 unfold ids
 rw [List.nodup_iff_pairwise_ne, List.pairwise_map]
 exact h.imp fun h => by omega
theorem RelM.perm {m : MR} {l : List N2.Zw} (h : RelM m l) : (m.map (·.1)).Perm (ids l) := by
 rw [List.perm_ext_iff_of_nodup h.nodup (Zws h.sorted)]
 intro n
 rw [← ZCQ, h.get, Zqz]
theorem RelM.length {m : MR} {l : List N2.Zw} (h : RelM m l) : m.length = l.length := by
 have := h.perm.length_eq
 simpa [ids] using this
theorem RelM.keys {m : MR} {l : List N2.Zw} (h : RelM m l) : Zeo m = ids l := by
 refine List.Perm.eq_of_pairwise (le := fun a b => a ≤ b) (fun a b _ _ h1 h2 => by omega) ?_ ?_ ((List.mergeSort_perm _ _).trans h.perm)
 ·have := List.pairwise_mergeSort (le := fun a b : Int => decide (a ≤ b)) (fun a b c h1 h2 => by simp at *; omega) (fun a b => by simp; omega) (m.map (·.1))
  exact this.imp fun h => by simpa using h
 ·unfold ids
  rw [List.pairwise_map]
  exact h.sorted.imp fun h => by omega
theorem ZBE {l : List N2.Zw} (h : Za2 l) : ∀ r ∈ l, getL l r.ID = some r := by
 induction l with
 | nil => simp
 | cons x t ih =>
  obtain ⟨h1, h2⟩ := List.pairwise_cons.1 h
  intro r hr
  rw [Zai]
  rcases List.mem_cons.1 hr with rfl | hr
  ·simp
  ·rw [if_neg (by have := h1 r hr; omega)]
   exact ih h2 r hr
theorem RelM.vals {m : MR} {l : List N2.Zw} (h : RelM m l) : ((Zeo m).map fun n => (getM m n).getD zR) = l := by
 rw [h.keys]
 unfold ids
 rw [List.map_map]
 conv => rhs; rw [← List.map_id l]
 apply List.map_congr_left
 intro r hr
 simp [h.get, ZBE h.sorted r hr]
theorem Zu7 : ∀ (D : List Int) {m : MR} {l : List N2.Zw}, RelM m l → D.Nodup →
  (match Zep D m with | none => ¬ ∀ n ∈ D, n ∈ ids l | some m' => (∀ n ∈ D, n ∈ ids l) ∧ RelM m' (l.filter fun y => !D.contains y.ID))
 | [], m, l, h, _ => ⟨by simp, by rw [List.filter_eq_self.2 (by simp)]; exact h⟩
 | i :: D, m, l, h, hn => by
  obtain ⟨h1, h2⟩ := List.nodup_cons.1 hn
  unfold Zep
  by_cases hi : (getM m i).isSome = true
  ·rw [if_pos hi]
   have ih := Zu7 D (h.del i) h2
   have hm : i ∈ ids l := by rw [h.get, Zqz] at hi; exact hi
   have hk : (∀ n ∈ D, n ∈ ids (l.filter fun y => y.ID != i)) ↔ ∀ n ∈ D, n ∈ ids l := by
    constructor
    ·intro hh n hd
     have := hh n hd
     unfold ids at *
     obtain ⟨y, hy, e⟩ := List.mem_map.1 this
     exact List.mem_map.2 ⟨y, (List.mem_filter.1 hy).1, e⟩
    ·intro hh n hd
     have := hh n hd
     unfold ids at *
     obtain ⟨y, hy, e⟩ := List.mem_map.1 this
     refine List.mem_map.2 ⟨y, List.mem_filter.2 ⟨hy, ?_⟩, e⟩
     have : n ≠ i := fun e => h1 (e ▸ hd)
     simp only [bne_iff_ne, ne_eq, e]
     exact this
   cases hd : Zep D (delM m i) with
   | none =>
    rw [hd] at ih
    intro hh
    exact ih (hk.2 fun n hn => hh n (by simp [hn]))
   | some m' =>
    rw [hd] at ih
    refine ⟨fun n hn => ?_, ?_⟩
    ·rcases List.mem_cons.1 hn with rfl | hn
     ·exact hm
     ·exact hk.1 ih.1 n hn
    ·have := ih.2
     rw [List.filter_filter] at this
     have e : (l.filter fun y => !(i :: D).contains y.ID) = l.filter fun a => (!D.contains a.ID) && (a.ID != i) := by
      apply List.filter_congr
      intro y _
      rw [List.contains_cons, Bool.not_or, Bool.and_comm]
      rfl
     rw [e]
     exact this
  ·rw [if_neg hi]
   intro hh
   apply hi
   rw [h.get, Zqz]
   exact hh i (by simp)
theorem ZqX : ∀ {l : List N2.Zw} {n : Int}, asc n l = true → Za2 l ∧ (∀ r ∈ l, n < r.ID) ∧ l.all okR = true
 | [], n, _ => ⟨.nil, by simp, rfl⟩
 | r :: l, n, h => by
  simp only [asc, Bool.and_eq_true, decide_eq_true_eq] at h
  obtain ⟨⟨h1, h2⟩, h3⟩ := h
  obtain ⟨a, b, c⟩ := ZqX h3
  refine ⟨List.pairwise_cons.2 ⟨b, a⟩, ?_, by simp [h1, c]⟩
  intro x hx
  rcases List.mem_cons.1 hx with rfl | hx
  ·exact h2
  ·have := b x hx; omega
theorem ZAs : ∀ {l : List N2.Zw} {n : Int}, Za2 l → (∀ r ∈ l, n < r.ID) → l.all okR = true → asc n l = true
 | [], n, _, _, _ => rfl
 | r :: l, n, h1, h2, h3 => by
  obtain ⟨a, b⟩ := List.pairwise_cons.1 h1
  simp only [List.all_cons, Bool.and_eq_true] at h3
  simp only [asc, Bool.and_eq_true, decide_eq_true_eq]
  exact ⟨⟨h3.1, h2 r (by simp)⟩, ZAs b a h3.2⟩
theorem ZCc {l : List N2.Zw} {r : N2.Zw} (h : ∀ x ∈ l, x.ID < r.ID) : putL l r = l ++ [r] := by
 induction l with
 | nil => rfl
 | cons x t ih => rw [putL, if_pos (h x (by simp)), ih fun y hy => h y (by simp [hy])]; rfl
theorem Zu3 : ∀ {L l : List N2.Zw}, Za2 (l ++ L) → L.foldl putL l = l ++ L
 | [], l, _ => by simp
 | r :: L, l, h => by
  rw [List.foldl_cons, ZCc, Zu3]
  ·simp
  ·simpa using h
  ·intro x hx
   exact (List.pairwise_append.1 h).2.2 x hx r (by simp)
def Z7I (s : N2.Zz) (d : N2.ZL) : N2.Zz × Int :=
 if okS s = false then (zS, 10) else
 if okN (orI d.Default s.Default) (orI d.Closed s.Closed) (orI d.Fuel s.Fuel) (orI d.Stack s.Stack) = false ∨ d.Put.all okR = false then (zS, 30) else
 if ¬ (ids d.Put ++ d.Drop).Nodup then (zS, 31) else
 if ¬ ∀ n ∈ d.Drop, n ∈ ids s.Rules then (zS, 32) else
 if 16 < (d.Put.foldl putL (s.Rules.filter fun y => !d.Drop.contains y.ID)).length then (zS, 33) else
 (⟨orI d.Default s.Default, orI d.Closed s.Closed, orI d.Fuel s.Fuel, orI d.Stack s.Stack, d.Put.foldl putL (s.Rules.filter fun y => !d.Drop.contains y.ID)⟩, 0)
theorem ZrN {s : N2.Zz} (h : okS s = true) : Za2 s.Rules ∧ (∀ r ∈ s.Rules, 0 < r.ID) ∧ s.Rules.all okR = true := by
 unfold okS at h
 simp only [Bool.and_eq_true] at h
 exact ZqX h.2
theorem ZAr (s : N2.Zz) (d : N2.ZL) : N2.applyM s d = Z7I s d := by
 unfold N2.applyM Z7I
 by_cases hs : okS s = false
 ·rw [if_pos hs, if_pos hs]
 rw [if_neg hs, if_neg hs]
 by_cases hn : okN (orI d.Default s.Default) (orI d.Closed s.Closed) (orI d.Fuel s.Fuel) (orI d.Stack s.Stack) = false ∨ d.Put.all okR = false
 ·rw [if_pos hn, if_pos hn]
 rw [if_neg hn, if_neg hn]
 by_cases ht : ¬ (ids d.Put ++ d.Drop).Nodup
 ·rw [if_pos ht, if_pos ht]
 rw [if_neg ht, if_neg ht]
 have hd : d.Drop.Nodup := (List.nodup_append.1 (Classical.not_not.1 ht)).2.1
 obtain ⟨o1, _, _⟩ := ZrN (by simpa using hs)
 have hr : RelM (mput [] s.Rules) s.Rules := by
  have := RelM.nil.mput s.Rules
  rw [Zu3 (by simpa using o1)] at this
  simpa using this
 have := Zu7 d.Drop hr hd
 cases hm : Zep d.Drop (mput [] s.Rules) with
 | none =>
  rw [hm] at this
  rw [if_pos this]
 | some m =>
  rw [hm] at this
  rw [if_neg (fun h => h this.1)]
  have hp := this.2.mput d.Put
  simp only
  rw [hp.length, hp.vals]
theorem ZtT (s : N2.Zz) (d : N2.ZL) (h1 : d.Put.length ≤ 1000000) (h2 : d.Drop.length ≤ 1000000) : N2.Zb7 s d = some (Z7I s d) := by
 rw [N2.g_rule_Apply_val s d h1 h2, ZAr]
end Go.Proofs.YteoeggbihfnbfaaGreatDoor
end
section
set_option linter.unusedSimpArgs false
set_option linter.unusedVariables false
namespace Go.Proofs.YteoeggbihfnbfaaGreatDoor
open Go Go.Abs
theorem Zwp {a b : ByteArray} : seq a b = true ↔ a = b := by
 unfold seq
 rw [beq_iff_eq, ByteArray.toList_eq, ByteArray.toList_eq]
 obtain ⟨⟨x⟩⟩ := a
 obtain ⟨⟨y⟩⟩ := b
 simp
namespace N2
end N2
namespace N2
end N2
namespace N2
end N2
namespace N2
end N2
theorem ZpR {l : List N2.Zw} (h : Za2 l) : ∀ (P : List N2.Zw), Za2 (P.foldl putL l)
 | [] => h
 | r :: P => ZpR (ZpS h r) P
theorem ZCo {l : List N2.Zw} {r : N2.Zw} (h : l.all okR = true) (hr : okR r = true) : (putL l r).all okR = true := by
 rw [List.all_eq_true] at *
 intro y hy
 rcases Zw3 hy with rfl | hy
 ·exact hr
 ·exact h y hy
theorem ZuA {l : List N2.Zw} (h : l.all okR = true) : ∀ {P : List N2.Zw}, P.all okR = true → (P.foldl putL l).all okR = true
 | [], _ => h
 | r :: P, hp => by
  simp only [List.all_cons, Bool.and_eq_true] at hp
  exact ZuA (l := putL l r) (ZCo h hp.1) (P := P) hp.2
theorem ZGZ {a b c d : Int} {l : List N2.Zw} (hn : okN a b c d = true) (hl : l.length ≤ 16) (hs : Za2 l) (ha : l.all okR = true) : okS ⟨a, b, c, d, l⟩ = true := by
 unfold okS
 simp only [hn, hl, decide_true, Bool.and_self, Bool.true_and]
 refine ZAs hs (fun r hr => ?_) ha
 have := ZBU (List.all_eq_true.1 ha r hr)
 omega
theorem ZtS {s : N2.Zz} {d : N2.ZL} {t : N2.Zz} (h : Z7I s d = (t, 0)) : okS s = true ∧ okN (orI d.Default s.Default) (orI d.Closed s.Closed) (orI d.Fuel s.Fuel) (orI d.Stack s.Stack) = true ∧ d.Put.all okR = true ∧
  (ids d.Put ++ d.Drop).Nodup ∧ (∀ n ∈ d.Drop, n ∈ ids s.Rules) ∧ (d.Put.foldl putL (s.Rules.filter fun y => !d.Drop.contains y.ID)).length ≤ 16 ∧
  t = ⟨orI d.Default s.Default, orI d.Closed s.Closed, orI d.Fuel s.Fuel, orI d.Stack s.Stack, d.Put.foldl putL (s.Rules.filter fun y => !d.Drop.contains y.ID)⟩ := by
 unfold Z7I at h
 split at h
 ·simp at h
 rename_i h1
 split at h
 ·simp at h
 rename_i h2
 split at h
 ·simp at h
 rename_i h3
 split at h
 ·simp at h
 rename_i h4
 split at h
 ·simp at h
 rename_i h5
 simp only [Prod.mk.injEq, and_true] at h
 simp only [not_or, Bool.not_eq_false] at h2
 exact ⟨by simpa using h1, h2.1, h2.2, Classical.not_not.1 h3, Classical.not_not.1 h4, by omega, h.symm⟩
theorem ZuC {s : N2.Zz} {d : N2.ZL} {t : N2.Zz} (h : Z7I s d = (t, 0)) : okS t = true := by
 obtain ⟨h1, h2, h3, _, _, h6, rfl⟩ := ZtS h
 obtain ⟨o1, _, o3⟩ := ZrN h1
 refine ZGZ h2 h6 (ZpR (o1.filter _) _) (ZuA ?_ h3)
 rw [List.all_eq_true] at *
 intro r hr
 exact o3 r (List.mem_filter.1 hr).1
namespace N2
end N2
end Go.Proofs.YteoeggbihfnbfaaGreatDoor
end
section
set_option linter.unusedSimpArgs false
set_option linter.unusedVariables false
namespace Go.Proofs.YteoeggbihfnbfaaGreatDoor
open Go Go.Abs
noncomputable def patF (x : ByteArray) : N2.ZJ := (N2.Z5a x).getD ⟨0, 0, 0⟩
abbrev Fine (r : N2.Zw) : Prop := (patF r.Pattern).Code = 0
noncomputable def badF (r : N2.Zw) : N2.ZJ := ⟨(patF r.Pattern).Code, r.ID, (patF r.Pattern).At⟩
noncomputable def Z8E : List N2.Zw → N2.ZJ
 | [] => ⟨0, 0, 0⟩
 | r :: l => if (patF r.Pattern).Code = 0 then Z8E l else badF r
noncomputable def Z7S (s : N2.Zz) : N2.ZJ := if okS s = false then ⟨10, 0, 0⟩ else Z8E s.Rules
noncomputable def ZoK (s : N2.Zz) (d : N2.ZL) : N2.Zz × N2.ZJ :=
 if (Z7I s d).2 ≠ 0 then (zS, ⟨(Z7I s d).2, 0, 0⟩) else if (Z7S (Z7I s d).1).Code ≠ 0 then (zS, Z7S (Z7I s d).1) else ((Z7I s d).1, ⟨0, 0, 0⟩)
theorem Znw : ∀ {l : List N2.Zw}, (∀ r ∈ l, Fine r) → Z8E l = ⟨0, 0, 0⟩
 | [], _ => rfl
 | r :: l, h => by rw [Z8E, if_pos (h r (by simp)), Znw fun x hx => h x (by simp [hx])]
theorem Znx : ∀ {l : List N2.Zw}, (Z8E l).Code = 0 → ∀ r ∈ l, Fine r
 | [], _ => by simp
 | r :: l, h => by
  intro x hx
  rw [Z8E] at h
  split at h
  ·rename_i hr
   rcases List.mem_cons.1 hx with rfl | hx
   ·exact hr
   ·exact Znx h x hx
  ·rename_i hr
   exact absurd h hr
theorem Zxp {s : N2.Zz} (h : (Z7S s).Code = 0) : okS s = true ∧ ∀ r ∈ s.Rules, Fine r := by
 unfold Z7S at h
 split at h
 ·simp at h
 ·rename_i hs
  exact ⟨by simpa using hs, Znx h⟩
theorem Zxo {s : N2.Zz} (h : okS s = true) (h2 : ∀ r ∈ s.Rules, Fine r) : Z7S s = ⟨0, 0, 0⟩ := by
 unfold Z7S
 rw [if_neg (by simp [h]), Znw h2]
theorem ZuG {s : N2.Zz} {d : N2.ZL} (h : (Z7S s).Code = 0) (hd : d.Put = []) : (ZoK s d).2 = ⟨(Z7I s d).2, 0, 0⟩ := by
 obtain ⟨h1, h2⟩ := Zxp h
 unfold ZoK
 by_cases he : (Z7I s d).2 = 0
 ·have hap : Z7I s d = ((Z7I s d).1, 0) := by rw [← he]
  obtain ⟨_, _, _, _, _, _, e⟩ := ZtS hap
  have hr := ZuC hap
  have hf : Z7S (Z7I s d).1 = ⟨0, 0, 0⟩ := by
   refine Zxo hr fun r hm => ?_
   rw [e, hd] at hm
   exact h2 r (List.mem_filter.1 hm).1
  rw [if_neg (by simp [he]), hf, if_neg (by simp), he]
 ·rw [if_pos he]
end Go.Proofs.YteoeggbihfnbfaaGreatDoor
end
section
set_option linter.unusedSimpArgs false
set_option linter.unusedVariables false
namespace Go.Proofs.YteoeggbihfnbfaaGreatDoor.N2
open Go Go.Abs Go.Proofs.Unis Go.Proofs.Norm
set_option maxRecDepth 100000
theorem ZAd (x : ByteArray) : ∃ v, Z5a x = some v ∧ v.Rule = 0 := by
 by_cases h : (Z6x x).2.Code = 0
 ·obtain ⟨v, hv⟩ := ZCR (ZAc h)
  refine ⟨⟨chkF v, 0, 0⟩, ?_, rfl⟩
  apply ZbH
  unfold Z7y Z8Y
  rw [Zow, Option.bind_some, if_neg (Zge h)]
  rw [show (Z6x x).1 = ⟨(Z6x x).1.Root, (Z6x x).1.Groups, (Z6x x).1.Fold⟩ from rfl, ZAy hv, Option.bind_some]
 ·refine ⟨⟨(Z6x x).2.Code, 0, (Z6x x).2.At⟩, ?_, rfl⟩
  apply ZbH
  unfold Z7y
  rw [Zow, Option.bind_some, if_pos (ZeN h)]
theorem ZpO (x : ByteArray) : Z5a x = some (patF x) := by
 obtain ⟨v, h, _⟩ := ZAd x
 unfold patF
 rw [h]
 rfl
theorem ZAf (L : List Zw) (hl : L.length ≤ 1000000) : ∀ (k i : Nat), i + k = L.length → Z8n L (L.length : Int) (i : Int) = some (Z8E (L.drop i)) := by
 intro k
 induction k with
 | zero =>
  intro i h
  apply Zf0
  unfold Z8j Z9K
  rw [if_neg (Z2q (by omega)), List.drop_of_length_le (by omega)]
  rfl
 | succ k ih =>
  intro i h
  have hi : i < L.length := by omega
  have ih := ih (i + 1) (by omega)
  apply Zf0
  unfold Z8j Zab Z9J
  rw [if_pos (Z2w (by omega)), Z34, List.getElem?_eq_getElem hi, Option.bind_some, ZpO, Option.bind_some, List.drop_eq_getElem_cons hi, Z8E]
  by_cases hc : (patF L[i].Pattern).Code = 0
  ·rw [if_neg (Zge hc), if_pos hc, wrap_i64 (by omega) (by omega)]
   exact ih
  ·rw [if_pos (ZeN hc), if_neg hc]
   rfl
theorem Zkk (s : Zz) : Z7t s = some (Z7S s) := by
 apply Zol
 unfold Zca Zaa Z7S
 rw [Zfu, Option.bind_some]
 cases h : okS s with
 | false => rfl
 | true =>
  rw [if_neg (by simp), if_neg (by simp)]
  exact ZAf s.Rules (Nat.le_trans (ZxX h) (by omega)) s.Rules.length 0 (by omega)
theorem Zyf (s : Zz) (d : ZL) (h1 : d.Put.length ≤ 1000000) (h2 : d.Drop.length ≤ 1000000) : ZbG s d = some (ZoK s d) := by
 apply ZnU
 unfold ZbB Z9H Z9I ZoK
 rw [ZtT s d h1 h2, Option.bind_some]
 by_cases h : (Z7I s d).2 = 0
 ·rw [if_neg (Zge h), if_neg (by simp [h]), Zkk, Option.bind_some]
  by_cases hc : (Z7S (Z7I s d).1).Code = 0
  ·rw [if_neg (Zge hc), if_neg (by simp [hc])]
  ·rw [if_pos (ZeN hc), if_pos hc]
   rfl
 ·rw [if_pos (ZeN h), if_pos h]
  rfl
theorem ZDo (x : S91) (k : Int) (d : ZL) (L : List Zw) (hl : L.length ≤ 20) {r : Bool} (hr : Z3q x (IntKind.i64.wrap (k + 1)) d = some r) : ∀ (m i : Nat), i + m = L.length →
  ∃ r', Z5P x k L (L.length : Int) (i : Int) d = some r' ∧ (r' = true → r = true) := by
 intro m
 induction m with
 | zero =>
  intro i h
  refine ⟨r, ?_, id⟩
  apply Z8m
  unfold Z4F Z72
  rw [if_neg (Z2q (by omega))]
  exact hr
 | succ m ih =>
  intro i h
  have hi : i < L.length := by omega
  obtain ⟨r', e, e2⟩ := ih (i + 1) (by omega)
  by_cases hc : 300 < (L[i].Pattern.size : Int)
  ·refine ⟨false, ?_, by simp⟩
   apply Z8m
   unfold Z4F Z5J
   rw [if_pos (Z2w (by omega)), Z34, List.getElem?_eq_getElem hi, Option.bind_some, if_pos (Z2w hc)]
  ·refine ⟨r', ?_, e2⟩
   apply Z8m
   unfold Z4F Z5J Z71
   rw [if_pos (Z2w (by omega)), Z34, List.getElem?_eq_getElem hi, Option.bind_some, if_neg (Z2q hc), wrap_i64 (by omega) (by omega)]
   exact e
theorem Zwr (x : S91) (k : Nat) (hk : k < 2) (d : ZL) {L : List Zw} (hL : [x.c0, x.c1][k]? = some L) {r : Bool} (hr : Z3q x ((k + 1 : Nat) : Int) d = some r) :
  ∃ r', Z3q x (k : Int) d = some r' ∧ (r' = true → r = true ∧ L.length ≤ 20) := by
 by_cases hc : 20 < (L.length : Int)
 ·refine ⟨false, ?_, by simp⟩
  apply Z8l
  unfold Z4E Z5I
  rw [if_pos (Z2w (by omega)), Z34, hL, Option.bind_some, if_pos (Z2w hc)]
 ·obtain ⟨r', e, e2⟩ := ZDo x k d L (by omega) (r := r) (by rw [wrap_i64 (by omega) (by omega)]; exact hr) L.length 0 (by omega)
  refine ⟨r', ?_, fun h => ⟨e2 h, by omega⟩⟩
  apply Z8l
  unfold Z4E Z5I Z7b
  rw [if_pos (Z2w (by omega)), Z34, hL, Option.bind_some, if_neg (Z2q hc)]
  exact e
theorem ZCf (s : Zz) (d : ZL) : ∃ b, Z8z s d = some b ∧ (b = true → s.Rules.length ≤ 20 ∧ d.Put.length ≤ 20 ∧ d.Drop.length ≤ 40) := by
 have h2 : Z3q ⟨s.Rules, d.Put⟩ ((1 + 1 : Nat) : Int) d = some (decide ((d.Drop.length : Int) ≤ 40)) := by
  apply Z8l
  unfold Z4E Z73
  rw [if_neg (Z2q (by omega))]
 obtain ⟨r1, e1, p1⟩ := Zwr ⟨s.Rules, d.Put⟩ 1 (by omega) d (L := d.Put) rfl h2
 obtain ⟨r0, e0, p0⟩ := Zwr ⟨s.Rules, d.Put⟩ 0 (by omega) d (L := s.Rules) rfl e1
 refine ⟨r0, Zj8 _ _ (by unfold Z8w; exact e0), fun h => ?_⟩
 obtain ⟨q0, l0⟩ := p0 h
 obtain ⟨q1, l1⟩ := p1 q0
 have := of_decide_eq_true q1
 exact ⟨l0, l1, by omega⟩
theorem ZtP {x : ByteArray} (h : (Z6x x).2.Code ≠ 0) : patF x = ⟨(Z6x x).2.Code, 0, (Z6x x).2.At⟩ := by
 have : Z5a x = some ⟨(Z6x x).2.Code, 0, (Z6x x).2.At⟩ := by
  apply ZbH
  unfold Z7y
  rw [Zow, Option.bind_some, if_pos (ZeN h)]
 unfold patF
 rw [this]
 rfl
theorem ZwB : Z8a = some true := by
 have e1 : (Z6x (ByteArray.mk #[97, 42, 42])).2 = ⟨23, 2⟩ := by rfl
 have e2 : (Z6x (ByteArray.mk #[40])).2.Code = 20 := by rfl
 have e3 : (Z6x (ByteArray.mk #[40])).2.At = 0 := by rfl
 have hf : Zcu = some ⟨0, 255, 10000, 500, []⟩ := Zru rfl
 have p1 : patF (ByteArray.mk #[97, 42, 42]) = ⟨23, 0, 2⟩ := by
  rw [ZtP (by rw [e1]; decide), e1]
 have p2 : (patF (ByteArray.mk #[40])).Code = 20 := by rw [ZtP (by rw [e2]; decide), e2]
 have r1 : ∃ a, Z7S ⟨0, 255, 10000, 500, [⟨3, 0, 0, 1, ByteArray.mk #[40]⟩, ⟨7, 0, 0, 1, ByteArray.mk #[41]⟩]⟩ = ⟨20, 3, a⟩ := by
  refine ⟨(patF (ByteArray.mk #[40])).At, ?_⟩
  unfold Z7S
  rw [if_neg (by decide)]
  show Z8E _ = _
  rw [Z8E, if_neg (by rw [p2]; decide)]
  unfold badF
  rw [p2]
 have r2 : Z7S ⟨0, 255, 10000, 500, []⟩ = ⟨0, 0, 0⟩ := by
  unfold Z7S
  rw [if_neg (by decide)]
  rfl
 obtain ⟨a, r1⟩ := r1
 have ha : a = 0 := by
  have : (Z7S ⟨0, 255, 10000, 500, [⟨3, 0, 0, 1, ByteArray.mk #[40]⟩, ⟨7, 0, 0, 1, ByteArray.mk #[41]⟩]⟩).At = (Z6x (ByteArray.mk #[40])).2.At := by
   unfold Z7S
   rw [if_neg (by decide)]
   show (Z8E _).At = _
   rw [Z8E, if_neg (by rw [p2]; decide)]
   unfold badF
   rw [ZtP (by rw [e2]; decide)]
  rw [r1, e3] at this
  exact this
 subst ha
 apply Zic
 unfold Z85
 rw [hf, Option.bind_some, ZpO, Option.bind_some, p1, if_pos (by rfl), Zkk, Option.bind_some, r1, if_pos (by rfl), Option.bind_some, Zkk, r2]
 rfl
end Go.Proofs.YteoeggbihfnbfaaGreatDoor.N2
end
