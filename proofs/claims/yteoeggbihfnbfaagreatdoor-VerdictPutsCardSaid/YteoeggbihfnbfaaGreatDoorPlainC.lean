/- Rules, sets, deltas, verdicts, as plain functions. No condition. -/
import Derived.Test.YteoeggbihfnbfaaGreatDoorPlain
import Derived.Test.YteoeggbihfnbfaaGreatDoorTypB
import Derived.Test.YteoeggbihfnbfaaGreatDoorTypC
import Derived.Test.YteoeggbihfnbfaaGreatDoorPlainB

section
set_option linter.unusedSimpArgs false
set_option linter.unusedVariables false
namespace Go.Proofs.YteoeggbihfnbfaaGreatDoor
open Go Go.Abs
def okR (r : N2.Zp) : Bool := decide (1 ≤ r.ID ∧ r.ID ≤ 1099511627776 ∧ 0 ≤ r.Priority ∧ r.Priority ≤ 1000 ∧ 0 ≤ r.Action ∧ r.Action ≤ 255 ∧ 1 ≤ r.Scope ∧ r.Scope ≤ 65535 ∧ (r.Pattern.size : Int) ≤ 256)
def okN (a b c d : Int) : Bool := decide (0 ≤ a ∧ a ≤ 255 ∧ 0 ≤ b ∧ b ≤ 255 ∧ 1 ≤ c ∧ c ≤ 1048576 ∧ 0 ≤ d ∧ d ≤ 4096)
def asc : Int → List N2.Zp → Bool
 | _, [] => true
 | n, r :: l => okR r && decide (n < r.ID) && asc r.ID l
def okS (s : N2.ZD) : Bool := okN s.Default s.Closed s.Fuel s.Stack && decide (s.Rules.length ≤ 16) && asc 0 s.Rules
namespace N2
theorem Z8L (r : N2.Zp) : Z7H r = some (okR r) := by
 apply Znn
 unfold ZaN okR
 repeat' split
 all_goals simp_all
 all_goals omega
theorem ZdE (s : N2.ZD) : Z7Z s = some (okN s.Default s.Closed s.Fuel s.Stack) := by
 apply Zld
 unfold Z9R okN
 repeat' split
 all_goals simp_all
 all_goals omega
theorem ZiX {i : Int} (h1 : 0 ≤ i) (h2 : i ≤ 1000000000) : IntKind.i64.wrap (i + 1) = i + 1 := wrap_i64 (by omega) (by omega)
theorem Zm5 (L : List N2.Zp) (hl : L.length ≤ 1000000) : ∀ (d i : Nat) (n : Int), i + d = L.length → Z7Y n L (L.length : Int) (i : Int) = some (asc n (L.drop i)) := by
 intro d
 induction d with
 | zero =>
  intro i n h
  apply Zee
  unfold Z7T
  rw [if_neg (by simp; omega), List.drop_of_length_le (by omega)]
  rfl
 | succ d ih =>
  intro i n h
  apply Zee
  unfold Z7T
  have hi : i < L.length := by omega
  rw [if_pos (by simp; omega)]
  unfold Z9P
  rw [Z36, List.getElem?_eq_getElem hi, List.drop_eq_getElem_cons hi]
  simp only [Option.bind_some, Z8L, asc, Z7V, Z9Q, Z99]
  cases h1 : okR L[i] with
  | false => simp
  | true =>
   simp only [Bool.not_true, Bool.false_eq_true, if_false, Bool.true_and]
   by_cases h2 : L[i].ID ≤ n
   ·rw [if_pos (by simpa using h2)]
    have : ¬ n < L[i].ID := by omega
    simp [this]
   ·rw [if_neg (by simpa using h2), ZiX (by omega) (by omega)]
    have := ih (i + 1) L[i].ID (by omega)
    rw [show ((i : Int) + 1) = ((i + 1 : Nat) : Int) by omega, this]
    have : n < L[i].ID := by omega
    simp [this]
theorem ZfO (s : N2.ZD) : Z9E s = some (okS s) := by
 apply Zom
 unfold ZbH
 simp only [ZdE, Option.bind_some, Z7U, Z9O, okS]
 cases h : okN s.Default s.Closed s.Fuel s.Stack with
 | false => simp
 | true =>
  by_cases h2 : s.Rules.length ≤ 16
  ·have h3 : ¬ 16 < (s.Rules.length : Int) := by omega
   simp only [Bool.not_true, Bool.false_eq_true, if_false, h3, decide_false, h2, decide_true, Bool.true_and]
   exact Zm5 s.Rules (by omega) s.Rules.length 0 0 (by omega)
  ·have h3 : 16 < (s.Rules.length : Int) := by omega
   simp [h2, h3]
end N2
end Go.Proofs.YteoeggbihfnbfaaGreatDoor
end
section
set_option linter.unusedSimpArgs false
set_option linter.unusedVariables false
namespace Go.Proofs.YteoeggbihfnbfaaGreatDoor
open Go Go.Abs
def Z6H : List Int → List (Int × Bool) → Bool × List (Int × Bool)
 | [], m => (false, m)
 | x :: xs, m => if (getM m x).getD false = true then (true, putM m x true) else Z6H xs (putM m x true)
def ids (l : List N2.Zp) : List Int := l.map (·.ID)
theorem Zwx {α : Type} (m : List (Int × α)) (n k : Int) (y : α) : getM (putM m n y) k = if k = n then some y else getM m k := by
 induction m with
 | nil => simp only [putM, getM]; by_cases h : n = k <;> simp [h, eq_comm]
 | cons q r ih =>
  simp only [putM]
  split
  ·rename_i h
   simp only [getM]
   by_cases hk : n = k
   ·simp [hk]
   ·simp only [if_neg hk]; rw [h, if_neg hk, if_neg (fun e => hk e.symm)]
  ·rename_i h
   simp only [getM, ih]
   by_cases hk : q.1 = k
   ·rw [if_pos hk]; have : k ≠ n := fun e => h (hk.trans e); rw [if_neg this, if_pos hk]
   ·rw [if_neg hk]; split <;> simp [hk]
theorem ZnY : ∀ (xs : List Int) (m : List (Int × Bool)) (seen : List Int), (∀ x, (getM m x).getD false = decide (x ∈ seen)) → (Z6H xs m).1 = !decide (xs.Nodup ∧ ∀ x ∈ xs, x ∉ seen) ∧
  ((Z6H xs m).1 = false → ∀ x, (getM (Z6H xs m).2 x).getD false = decide (x ∈ xs ∨ x ∈ seen))
 | [], m, seen, h => by simpa [Z6H] using h
 | x :: xs, m, seen, h => by
  unfold Z6H
  rw [h x]
  by_cases hx : x ∈ seen
  ·rw [decide_eq_true hx]
   simp only [if_true]
   refine ⟨?_, fun e => by cases e⟩
   have : ¬ ((x :: xs).Nodup ∧ ∀ y ∈ x :: xs, y ∉ seen) := fun hh => hh.2 x (by simp) hx
   simp only [decide_eq_false this, Bool.not_false]
  ·rw [if_neg (by simpa using hx)]
   have hm : ∀ y, (getM (putM m x true) y).getD false = decide (y ∈ x :: seen) := by
    intro y
    rw [Zwx]
    by_cases hy : y = x
    ·simp [hy]
    ·rw [if_neg hy, h y]; simp [hy]
   obtain ⟨h1, h2⟩ := ZnY xs _ (x :: seen) hm
   refine ⟨?_, fun e y => ?_⟩
   ·rw [h1]
    congr 2
    apply propext
    simp only [List.nodup_cons, List.mem_cons, not_or, forall_eq_or_imp]
    constructor
    ·rintro ⟨a, b⟩
     exact ⟨⟨fun hh => (b x hh).1 rfl, a⟩, hx, fun y hy => (b y hy).2⟩
    ·rintro ⟨⟨a, b⟩, _, c⟩
     exact ⟨b, fun y hy => ⟨fun e => a (e ▸ hy), c y hy⟩⟩
   ·rw [h2 e y]
    congr 1
    apply propext
    simp only [List.mem_cons]
    constructor
    ·rintro (a | a | a)
     ·exact .inl (.inr a)
     ·exact .inl (.inl a)
     ·exact .inr a
    ·rintro ((a | a) | a)
     ·exact .inr (.inl a)
     ·exact .inl a
     ·exact .inr (.inr a)
namespace N2
theorem ZeV (L : List N2.Zp) (hl : L.length ≤ 1000000) : ∀ (d i : Nat), i + d = L.length → ∃ n, Z4u L (L.length : Int) (i : Int) = some n ∧ decide (0 ≤ n) = (L.drop i).any fun r => !okR r := by
 intro d
 induction d with
 | zero =>
  intro i h
  refine ⟨-1, ?_, by rw [List.drop_of_length_le (by omega)]; rfl⟩
  apply Z6z
  unfold Z3B
  rw [if_neg (by simp; omega)]
  rfl
 | succ d ih =>
  intro i h
  have hi : i < L.length := by omega
  rw [List.drop_eq_getElem_cons hi]
  obtain ⟨n, h1, h2⟩ := ih (i + 1) (by omega)
  cases hr : okR L[i] with
  | false =>
   refine ⟨i, ?_, by simp only [List.any_cons, hr]; simp⟩
   apply Z6z
   unfold Z3B
   rw [if_pos (by simp; omega)]
   unfold Z4o
   have h43 : Z74 L[i] = some true := ZcL _ (by unfold Z6Y; simp [Z8L, hr])
   simp [Z36, List.getElem?_eq_getElem hi, h43]
  | true =>
   refine ⟨n, ?_, by simp only [List.any_cons, hr, h2]; simp⟩
   apply Z6z
   unfold Z3B
   rw [if_pos (by simp; omega)]
   unfold Z4o
   have h43 : Z74 L[i] = some false := ZcL _ (by unfold Z6Y; simp [Z8L, hr])
   simp only [Z36, List.getElem?_eq_getElem hi, h43, Option.bind_some, Bool.false_eq_true, if_false, Z5s]
   rw [ZiX (by omega) (by omega), show ((i : Int) + 1) = ((i + 1 : Nat) : Int) by omega]
   exact h1
theorem Zkk (L : List N2.Zp) (hl : L.length ≤ 1000000) : Za0 L = some (L.all okR) := by
 obtain ⟨n, h1, h2⟩ := ZeV L hl L.length 0 (by omega)
 apply Zle
 have h52 : Z6o L = some n := ZfW _ (by unfold Z6k; exact h1)
 have h42 : Z5x L = some (decide (0 ≤ n)) := Zek _ (by unfold Z5p; rw [h52]; rfl)
 unfold Z9S
 rw [h42, h2]
 simp [List.all_eq_not_any_not]
theorem Z86 (n : Int) (m : List (Int × Bool)) : Z5X n m = some ((getM m n).getD false, putM m n true) := ZhI _ _ rfl
theorem Zbk (r : N2.Zp) (m : List (Int × Bool)) : Z7z r m = some ((getM m r.ID).getD false, putM m r.ID true) := ZhJ _ _ (by unfold Z7r; rw [Z86]; rfl)
theorem ZeW (L : List N2.Zp) (hl : L.length ≤ 1000000) : ∀ (d i : Nat) (m : List (Int × Bool)), i + d = L.length →
  ∃ n, Z4v L (L.length : Int) (i : Int) m = some (n, (Z6H (ids (L.drop i)) m).2) ∧ decide (0 ≤ n) = (Z6H (ids (L.drop i)) m).1 := by
 intro d
 induction d with
 | zero =>
  intro i m h
  rw [List.drop_of_length_le (by omega)]
  refine ⟨-1, ?_, rfl⟩
  apply Z6A
  unfold Z3C
  rw [if_neg (by simp; omega)]
  rfl
 | succ d ih =>
  intro i m h
  have hi : i < L.length := by omega
  rw [List.drop_eq_getElem_cons hi]
  obtain ⟨n, h1, h2⟩ := ih (i + 1) (putM m L[i].ID true) (by omega)
  simp only [ids, List.map_cons, Z6H]
  by_cases hs : (getM m L[i].ID).getD false = true
  ·rw [if_pos hs]
   refine ⟨i, ?_, by simp⟩
   apply Z6A
   unfold Z3C
   rw [if_pos (by simp; omega)]
   unfold Z4p
   simp [Z36, List.getElem?_eq_getElem hi, Zbk, hs]
  ·rw [if_neg hs]
   refine ⟨n, ?_, h2⟩
   apply Z6A
   unfold Z3C
   rw [if_pos (by simp; omega)]
   unfold Z4p
   simp only [Z36, List.getElem?_eq_getElem hi, Zbk, Option.bind_some, if_neg hs, Z5t]
   rw [ZiX (by omega) (by omega), show ((i : Int) + 1) = ((i + 1 : Nat) : Int) by omega]
   exact h1
theorem Zfy (L : List Int) (hl : L.length ≤ 1000000) : ∀ (d i : Nat) (m : List (Int × Bool)), i + d = L.length →
  ∃ n, Z4C L (L.length : Int) (i : Int) m = some (n, (Z6H (L.drop i) m).2) ∧ decide (0 ≤ n) = (Z6H (L.drop i) m).1 := by
 intro d
 induction d with
 | zero =>
  intro i m h
  rw [List.drop_of_length_le (by omega)]
  refine ⟨-1, ?_, rfl⟩
  apply Z6O
  unfold Z3K
  rw [if_neg (by simp; omega)]
  rfl
 | succ d ih =>
  intro i m h
  have hi : i < L.length := by omega
  rw [List.drop_eq_getElem_cons hi]
  obtain ⟨n, h1, h2⟩ := ih (i + 1) (putM m L[i] true) (by omega)
  simp only [Z6H]
  by_cases hs : (getM m L[i]).getD false = true
  ·rw [if_pos hs]
   refine ⟨i, ?_, by simp⟩
   apply Z6O
   unfold Z3K
   rw [if_pos (by simp; omega)]
   unfold Z4B
   simp [Z36, List.getElem?_eq_getElem hi, Z86, hs]
  ·rw [if_neg hs]
   refine ⟨n, ?_, h2⟩
   apply Z6O
   unfold Z3K
   rw [if_pos (by simp; omega)]
   unfold Z4B
   simp only [Z36, List.getElem?_eq_getElem hi, Z86, Option.bind_some, if_neg hs, Z5I]
   rw [ZiX (by omega) (by omega), show ((i : Int) + 1) = ((i + 1 : Nat) : Int) by omega]
   exact h1
theorem Zl8 (d : N2.ZX) (h1 : d.Put.length ≤ 1000000) (h2 : d.Drop.length ≤ 1000000) : Zat d = some (!decide (ids d.Put ++ d.Drop).Nodup) := by
 obtain ⟨n, e1, e2⟩ := ZeW d.Put h1 d.Put.length 0 [] (by omega)
 have h52 : Z6p d.Put [] = some (n, (Z6H (ids d.Put) []).2) := ZfY _ _ (by unfold Z6l; exact e1)
 have h42 : Z5y d.Put [] = some ((Z6H (ids d.Put) []).1, (Z6H (ids d.Put) []).2) := Zem _ _ (by unfold Z5q; rw [h52]; simpa using e2)
 obtain ⟨k, f1, f2⟩ := Zfy d.Drop h2 d.Drop.length 0 (Z6H (ids d.Put) []).2 (by omega)
 have h53 : Z6G d.Drop (Z6H (ids d.Put) []).2 = some (k, (Z6H d.Drop (Z6H (ids d.Put) []).2).2) := Zgi _ _ (by unfold Z6F; exact f1)
 have h46 : Z5M d.Drop (Z6H (ids d.Put) []).2 = some ((Z6H d.Drop (Z6H (ids d.Put) []).2).1, (Z6H d.Drop (Z6H (ids d.Put) []).2).2) := ZeR _ _ (by unfold Z5H; rw [h53]; simpa using f2)
 obtain ⟨s1, s2⟩ := ZnY (ids d.Put) [] [] (by simp [getM])
 simp only [List.not_mem_nil, not_false_eq_true, implies_true, and_true, or_false] at s1 s2
 apply Zm2
 unfold Zaj
 rw [h42]
 simp only [Option.bind_some]
 cases hs : (Z6H (ids d.Put) []).1 with
 | true =>
  have h : ¬ (ids d.Put).Nodup := fun h => by rw [hs, decide_eq_true h] at s1; cases s1
  have : ¬ (ids d.Put ++ d.Drop).Nodup := fun h' => h (List.nodup_append.1 h').1
  rw [decide_eq_false this]
  rfl
 | false =>
  have hn : (ids d.Put).Nodup := by
   rw [hs] at s1
   simpa using s1
  rw [h46]
  obtain ⟨t1, _⟩ := ZnY d.Drop _ (ids d.Put) (s2 hs)
  simp only [Bool.false_eq_true, if_false, Option.bind_some, t1]
  congr 3
  apply propext
  rw [List.nodup_append]
  constructor
  ·rintro ⟨a, b⟩
   exact ⟨hn, a, fun x hx y hy e => b y hy (e ▸ hx)⟩
  ·rintro ⟨_, a, b⟩
   exact ⟨a, fun x hx h => b x h x hx rfl⟩
end N2
end Go.Proofs.YteoeggbihfnbfaaGreatDoor
end
section
set_option linter.unusedSimpArgs false
set_option linter.unusedVariables false
namespace Go.Proofs.YteoeggbihfnbfaaGreatDoor
open Go Go.Abs
abbrev MR := List (Int × N2.Zp)
def zR : N2.Zp := N2.Zp.mk 0 0 0 0 (ByteArray.mk #[])
def zS : N2.ZD := N2.ZD.mk 0 0 0 0 []
def mput (m : MR) (l : List N2.Zp) : MR := l.foldl (fun m r => putM m r.ID r) m
def ZeJ : List Int → MR → Option MR
 | [], m => some m
 | i :: l, m => if (getM m i).isSome = true then ZeJ l (delM m i) else none
def ZeI (m : MR) : List Int := (m.map (·.1)).mergeSort (fun a b => decide (a ≤ b))
def orI (a b : Int) : Int := if a = -1 then b else a
def okK (m : MR) : Prop := ∀ q ∈ m, 1 ≤ q.1 ∧ q.1 ≤ 1099511627776
theorem ZGc {m : MR} (h : okK m) {n : Int} (y : N2.Zp) (hn : 1 ≤ n ∧ n ≤ 1099511627776) : okK (putM m n y) := by
 induction m with
 | nil => intro q hq; simp [putM] at hq; subst hq; exact hn
 | cons p r ih =>
  rw [putM]
  have hr : okK r := fun q hq => h q (by simp [hq])
  split
  ·intro q hq
   rcases List.mem_cons.1 hq with rfl | hq
   ·exact hn
   ·exact hr q hq
  ·intro q hq
   rcases List.mem_cons.1 hq with rfl | hq
   ·exact h _ (by simp)
   ·exact ih hr q hq
theorem ZGb {m : MR} (h : okK m) (n : Int) : okK (delM m n) := by
 induction m with
 | nil => exact h
 | cons p r ih =>
  have hr : okK r := fun q hq => h q (by simp [hq])
  rw [delM]
  split
  ·exact hr
  ·intro q hq
   rcases List.mem_cons.1 hq with rfl | hq
   ·exact h _ (by simp)
   ·exact ih hr q hq
theorem ZCG {r : N2.Zp} (h : okR r = true) : 1 ≤ r.ID ∧ r.ID ≤ 1099511627776 := by
 unfold okR at h
 simp only [decide_eq_true_eq] at h
 omega
theorem Zrf : ∀ {l : List N2.Zp} {m : MR}, okK m → l.all okR = true → okK (mput m l)
 | [], _, h, _ => h
 | r :: l, m, h, hl => by
  simp only [List.all_cons, Bool.and_eq_true] at hl
  exact Zrf (l := l) (ZGc h r (ZCG hl.1)) hl.2
theorem ZwH : ∀ {l : List Int} {m m' : MR}, okK m → ZeJ l m = some m' → okK m'
 | [], m, m', h, e => by simp [ZeJ] at e; subst e; exact h
 | i :: l, m, m', h, e => by
  unfold ZeJ at e
  split at e
  ·exact ZwH (ZGb h i) e
  ·simp at e
theorem Zy4 : ∀ {l : List N2.Zp} {n : Int}, asc n l = true → l.all okR = true
 | [], n, _ => rfl
 | r :: l, n, h => by
  simp only [asc, Bool.and_eq_true] at h
  simp [h.1.1, Zy4 h.2]
theorem ZGd {s : N2.ZD} (h : okS s = true) : s.Rules.all okR = true := by
 unfold okS at h
 simp only [Bool.and_eq_true] at h
 exact Zy4 h.2
namespace N2
theorem Zq4 (a b : Int) : ZeF a b = some (orI a b) := ZqZ _ _ (by unfold Zez orI; by_cases h : a = -1 <;> simp [h])
theorem Zmb (a b : Int) : ZaZ a b = some (orI a b) := Znu _ _ (by unfold ZaQ orI; by_cases h : a = -1 <;> simp [h])
theorem Zm9 (a b : Int) : ZaY a b = some (orI a b) := Zns _ _ (by unfold ZaP orI; by_cases h : a = -1 <;> simp [h])
theorem Zm7 (a b : Int) : ZaX a b = some (orI a b) := Znq _ _ (by unfold ZaO orI; by_cases h : a = -1 <;> simp [h])
theorem ZjA : Z9b = some () := Zk3 rfl
theorem ZAD (m : MR) : keysOf (m.map (encM ZF)) = ZeI m := by
 unfold keysOf ZeI
 rw [List.map_map]
 rfl
theorem ZhQ (m : MR) (h : m.length ≤ 1048576) (hk : okK m) : Za4 m = some (ZeI m) := by
 apply Z1f (fun _ _ ha hb => RRun.uniq (Zip m) ha hb)
 have e : EE 52 [(.clo 78 [] [(.ptr 0 0)])] [[(.mp 1)], [(.md (m.map (encM ZF)))]] = some ((.p (.lst .sh ((ZeI m).map (eI .i64)))), [[(.mp 1)], [(.md (m.map (encM ZF)))]]) := by
  rw [show EE 52 = E PP XX HH 52 from rfl, Zv0 (P := PP) (X := XX) (H := HH) (f := 52) (m := Zmz) (by kernel_rfl)]
  have : Zmz [(.clo 78 [] [(.ptr 0 0)])] [[(.mp 1)], [(.md (m.map (encM ZF)))]] = if (m.map (encM ZF)).length ≤ 1048576 ∧ (∀ q ∈ m.map (encM ZF), -9223372036854775808 ≤ q.1 ∧ q.1 ≤ 9223372036854775807) then some (.p (.lst .sh ((keysOf (m.map (encM ZF))).map fun n => .v (.int .i64 n))), [[(.mp 1)], [(.md (m.map (encM ZF)))]]) else none := rfl
  have hr : ∀ q ∈ m.map (encM ZF), -9223372036854775808 ≤ q.1 ∧ q.1 ≤ 9223372036854775807 := by
   intro q hq
   obtain ⟨p, hp, rfl⟩ := List.mem_map.1 hq
   have := hk p hp
   show -9223372036854775808 ≤ p.1 ∧ p.1 ≤ 9223372036854775807
   omega
  rw [this, if_pos ⟨by simpa using h, hr⟩, ZAD]
  rfl
 exact ⟨_, e, [], by simp⟩
theorem Zn2 (d : N2.ZX) (n1 n2 n3 n4 : Int) (L : List N2.Zp) (hl : L.length ≤ 1000000) {r : N2.ZD × Int} : ∀ (k i : Nat) (m : MR), i + k = L.length →
  Z9t d n1 n2 n3 n4 (mput m (L.drop i)) = some r → Z9A L (L.length : Int) (i : Int) d n1 n2 n3 n4 m = some r := by
 intro k
 induction k with
 | zero =>
  intro i m h hr
  rw [List.drop_of_length_le (by omega)] at hr
  apply Zgl
  unfold Z9p
  rw [if_neg (by simp; omega)]
  exact hr
 | succ k ih =>
  intro i m h hr
  have hi : i < L.length := by omega
  rw [List.drop_eq_getElem_cons hi] at hr
  apply Zgl
  unfold Z9p
  rw [if_pos (by simp; omega)]
  unfold Zbz
  rw [Z36, List.getElem?_eq_getElem hi, ZiX (by omega) (by omega), show ((i : Int) + 1) = ((i + 1 : Nat) : Int) by omega]
  exact ih (i + 1) _ (by omega) hr
theorem Zn6 (n1 n2 n3 n4 : Int) (L : List N2.Zp) (hl : L.length ≤ 1000000) {r : N2.ZD × Int} : ∀ (k i : Nat) (m : MR), i + k = L.length →
  Z9v n1 n2 n3 n4 (mput m (L.drop i)) = some r → Z9C L (L.length : Int) (i : Int) n1 n2 n3 n4 m = some r := by
 intro k
 induction k with
 | zero =>
  intro i m h hr
  rw [List.drop_of_length_le (by omega)] at hr
  apply Zgp
  unfold Z9r
  rw [if_neg (by simp; omega)]
  exact hr
 | succ k ih =>
  intro i m h hr
  have hi : i < L.length := by omega
  rw [List.drop_eq_getElem_cons hi] at hr
  apply Zgp
  unfold Z9r
  rw [if_pos (by simp; omega)]
  unfold ZbD
  rw [Z36, List.getElem?_eq_getElem hi, ZiX (by omega) (by omega), show ((i : Int) + 1) = ((i + 1 : Nat) : Int) by omega]
  exact ih (i + 1) _ (by omega) hr
theorem Zn4 (d : N2.ZX) (n1 n2 n3 n4 : Int) (L : List Int) (hl : L.length ≤ 1000000) {r : N2.ZD × Int} : ∀ (k i : Nat) (m : MR), i + k = L.length →
  (match ZeJ (L.drop i) m with | some m => Z9u d n1 n2 n3 n4 m | none => some (zS, 32)) = some r → Z9B L (L.length : Int) (i : Int) d n1 n2 n3 n4 m = some r := by
 intro k
 induction k with
 | zero =>
  intro i m h hr
  rw [List.drop_of_length_le (by omega)] at hr
  apply Zgn
  unfold Z9q
  rw [if_neg (by simp; omega)]
  exact hr
 | succ k ih =>
  intro i m h hr
  have hi : i < L.length := by omega
  rw [List.drop_eq_getElem_cons hi] at hr
  apply Zgn
  unfold Z9q
  rw [if_pos (by simp; omega)]
  unfold ZbA
  rw [Z36, List.getElem?_eq_getElem hi]
  simp only [Option.bind_some, ZbB, ZbC]
  unfold ZeJ at hr
  cases hg : (getM m L[i]).isSome with
  | false => rw [hg] at hr; exact hr
  | true =>
   rw [hg] at hr
   simp only [if_true] at hr
   simp only [Bool.not_true, Bool.false_eq_true, if_false]
   rw [ZiX (by omega) (by omega), show ((i : Int) + 1) = ((i + 1 : Nat) : Int) by omega]
   exact ih (i + 1) _ (by omega) hr
theorem ZDK {α : Type} (l : List α) (a : α) (h : l.length ≤ 1000000000) : lapp l [a] = some (l ++ [a]) := by
 unfold lapp
 rw [if_pos (by simp [lim]; omega)]
theorem Zn8 (n1 n2 n3 n4 : Int) (m : MR) (K : List Int) (hl : K.length ≤ 1000000) : ∀ (k i : Nat) (out : List N2.Zp), i + k = K.length → out.length ≤ i →
  Z9D K (K.length : Int) (i : Int) n1 n2 n3 n4 out m = some (⟨n1, n2, n3, n4, out ++ (K.drop i).map fun n => (getM m n).getD zR⟩, 0) := by
 intro k
 induction k with
 | zero =>
  intro i out h ho
  rw [List.drop_of_length_le (by omega)]
  apply Zgr
  unfold Z9s
  rw [if_neg (by simp; omega)]
  simp [ZbG]
 | succ k ih =>
  intro i out h ho
  have hi : i < K.length := by omega
  rw [List.drop_eq_getElem_cons hi]
  apply Zgr
  unfold Z9s
  rw [if_pos (by simp; omega)]
  unfold ZbF
  rw [Z36, List.getElem?_eq_getElem hi]
  simp only [Option.bind_some]
  rw [ZDK _ _ (by omega)]
  simp only [Option.bind_some]
  rw [ZiX (by omega) (by omega), show ((i : Int) + 1) = ((i + 1 : Nat) : Int) by omega, ih (i + 1) _ (by omega) (by simp; omega), List.map_cons, List.append_assoc, List.singleton_append]
  rfl
def applyM (s : N2.ZD) (d : N2.ZX) : N2.ZD × Int :=
 if okS s = false then (zS, 10) else
 if okN (orI d.Default s.Default) (orI d.Closed s.Closed) (orI d.Fuel s.Fuel) (orI d.Stack s.Stack) = false ∨ d.Put.all okR = false then (zS, 30) else
 if ¬ (ids d.Put ++ d.Drop).Nodup then (zS, 31) else
 match ZeJ d.Drop (mput [] s.Rules) with
 | none => (zS, 32)
 | some m =>
  if 16 < (mput m d.Put).length then (zS, 33) else
  (⟨orI d.Default s.Default, orI d.Closed s.Closed, orI d.Fuel s.Fuel, orI d.Stack s.Stack, (ZeI (mput m d.Put)).map fun n => (getM (mput m d.Put) n).getD zR⟩, 0)
theorem Zur {s : N2.ZD} (h : okS s = true) : s.Rules.length ≤ 16 := by
 unfold okS at h
 simp only [Bool.and_eq_true, decide_eq_true_eq] at h
 exact h.1.2
theorem ZCv (m : MR) : (ZeI m).length = m.length := by unfold ZeI; simp
theorem g_rule_Apply_val (s : N2.ZD) (d : N2.ZX) (h1 : d.Put.length ≤ 1000000) (h2 : d.Drop.length ≤ 1000000) : ZcJ s d = some (applyM s d) := by
 apply Zs5
 unfold ZfF applyM
 rw [ZfO]
 simp only [Option.bind_some]
 cases hs : okS s with
 | false => rfl
 | true =>
  have hlen := Zur hs
  simp only [Bool.not_true, Bool.false_eq_true, if_false, Bool.true_eq_false]
  unfold Zck
  simp only [Zq4, Zmb, Zm9, Zm7, ZdE, Option.bind_some, Zkk _ h1, Zai]
  cases hn : okN (orI d.Default s.Default) (orI d.Closed s.Closed) (orI d.Fuel s.Fuel) (orI d.Stack s.Stack) with
  | false => rfl
  | true =>
   simp only [Bool.not_true, Bool.false_eq_true, if_false, Bool.true_eq_false, false_or]
   cases hp : d.Put.all okR with
   | false => rfl
   | true =>
    simp only [Bool.not_true, Bool.false_eq_true, if_false, Bool.true_eq_false]
    unfold Zbx
    rw [Zl8 d h1 h2]
    simp only [Option.bind_some]
    by_cases ht : (ids d.Put ++ d.Drop).Nodup
    ·simp only [decide_eq_true ht, Bool.not_true, Bool.false_eq_true, if_false, ht, not_true]
     unfold Zby
     refine Zn2 d _ _ _ _ s.Rules (by omega) s.Rules.length 0 [] (by omega) ?_
     unfold Z9t
     refine Zn4 d _ _ _ _ d.Drop h2 d.Drop.length 0 _ (by omega) ?_
     simp only [List.drop_zero]
     cases hm : ZeJ d.Drop (mput [] s.Rules) with
     | none => rfl
     | some m =>
      simp only
      unfold Z9u
      refine Zn6 _ _ _ _ d.Put h1 d.Put.length 0 _ (by omega) ?_
      simp only [List.drop_zero]
      unfold Z9v
      by_cases hc : 16 < (mput m d.Put).length
      ·rw [if_pos (by simp; omega), if_pos hc]; rfl
      ·rw [if_neg (by simp; omega), if_neg hc]
       unfold ZbE
       rw [ZjA, ZhQ _ (by omega) (Zrf (ZwH (Zrf (m := []) (fun q hq => by simp at hq) (ZGd hs)) hm) hp)]
       simp only [Option.bind_some]
       have hk : (ZeI (mput m d.Put)).length ≤ 1000000 := by rw [ZCv]; omega
       have := Zn8 (orI d.Default s.Default) (orI d.Closed s.Closed) (orI d.Fuel s.Fuel) (orI d.Stack s.Stack) (mput m d.Put) (ZeI (mput m d.Put)) hk (ZeI (mput m d.Put)).length 0 [] (by omega) (by simp)
       simpa using this
    ·simp only [decide_eq_false ht, Bool.not_false, if_true, ht, not_false_eq_true]
     rfl
end N2
end Go.Proofs.YteoeggbihfnbfaaGreatDoor
end
section
set_option linter.unusedSimpArgs false
set_option linter.unusedVariables false
namespace Go.Proofs.YteoeggbihfnbfaaGreatDoor
open Go Go.Abs
def getL (l : List N2.Zp) (n : Int) : Option N2.Zp := l.find? fun r => r.ID == n
def putL : List N2.Zp → N2.Zp → List N2.Zp
 | [], r => [r]
 | x :: t, r => if x.ID < r.ID then x :: putL t r else r :: (x :: t).filter fun y => y.ID != r.ID
abbrev Z8W (l : List N2.Zp) : Prop := l.Pairwise fun a b => a.ID < b.ID
theorem Z7J (x : N2.Zp) (t : List N2.Zp) (n : Int) : getL (x :: t) n = if x.ID = n then some x else getL t n := by
 unfold getL
 rw [List.find?_cons]
 by_cases h : x.ID = n
 ·simp [h]
 ·have : (x.ID == n) = false := by simpa using h
  rw [this, if_neg h]
theorem Zmi (l : List N2.Zp) (k n : Int) : getL (l.filter fun y => y.ID != k) n = if n = k then none else getL l n := by
 induction l with
 | nil => simp [getL]
 | cons x t ih =>
  by_cases hx : x.ID = k
  ·rw [List.filter_cons_of_neg (by simp [hx]), ih, Z7J]
   by_cases hn : n = k
   ·rw [if_pos hn, if_pos hn]
   ·rw [if_neg hn, if_neg hn, if_neg (fun e => hn (by rw [← e, hx]))]
  ·rw [List.filter_cons_of_pos (by simp [hx]), Z7J, ih, Z7J]
   by_cases hn : n = k
   ·rw [if_pos hn, if_pos hn, if_neg (fun e => hx (e.trans hn))]
   ·rw [if_neg hn, if_neg hn]
theorem ZoW (l : List N2.Zp) (r : N2.Zp) (n : Int) : getL (putL l r) n = if n = r.ID then some r else getL l n := by
 induction l with
 | nil =>
  rw [putL, Z7J]
  by_cases h : r.ID = n
  ·rw [if_pos h, if_pos h.symm]
  ·rw [if_neg h, if_neg fun e => h e.symm]
 | cons x t ih =>
  rw [putL]
  split
  ·rename_i hx
   rw [Z7J, ih, Z7J]
   by_cases hn : n = r.ID
   ·rw [if_pos hn, if_pos hn, if_neg (by omega)]
   ·rw [if_neg hn, if_neg hn]
  ·rw [Z7J, Zmi]
   by_cases hn : n = r.ID
   ·rw [if_pos hn.symm, if_pos hn]
   ·rw [if_neg (fun e => hn e.symm), if_neg hn, if_neg hn]
theorem ZnL {l : List N2.Zp} {r y : N2.Zp} (h : y ∈ putL l r) : y = r ∨ y ∈ l := by
 induction l with
 | nil => rw [putL] at h; simpa using h
 | cons x t ih =>
  rw [putL] at h
  split at h
  ·rcases List.mem_cons.1 h with rfl | h
   ·exact .inr (by simp)
   ·rcases ih h with h | h
    ·exact .inl h
    ·exact .inr (by simp [h])
  ·rcases List.mem_cons.1 h with h | h
   ·exact .inl h
   ·exact .inr (List.mem_filter.1 h).1
theorem Zqs {l : List N2.Zp} (h : Z8W l) (r : N2.Zp) : Z8W (putL l r) := by
 induction l with
 | nil => simp [putL, Z8W]
 | cons x t ih =>
  obtain ⟨h1, h2⟩ := List.pairwise_cons.1 h
  rw [putL]
  split
  ·rename_i hx
   refine List.pairwise_cons.2 ⟨fun y hy => ?_, ih h2⟩
   rcases ZnL hy with rfl | hy
   ·exact hx
   ·exact h1 y hy
  ·rename_i hx
   refine List.pairwise_cons.2 ⟨fun y hy => ?_, h.filter _⟩
   obtain ⟨hy, hn⟩ := List.mem_filter.1 hy
   have hn : y.ID ≠ r.ID := by simpa using hn
   rcases List.mem_cons.1 hy with rfl | hy
   ·omega
   ·have := h1 y hy; omega
structure RelM (m : MR) (l : List N2.Zp) : Prop where
 nodup : (m.map (·.1)).Nodup
 sorted : Z8W l
 get : ∀ n, getM m n = getL l n
theorem ZDI (m : MR) (n : Int) (y : N2.Zp) : ∀ k, k ∈ (putM m n y).map (·.1) ↔ k = n ∨ k ∈ m.map (·.1) := by
 intro k
 induction m with
 | nil => simp [putM]
 | cons q r ih =>
  rw [putM]
  split
  ·rename_i h
   simp [h]
  ·simp only [List.map_cons, List.mem_cons, ih]
   constructor
   ·rintro (a | a | a)
    ·exact .inr (.inl a)
    ·exact .inl a
    ·exact .inr (.inr a)
   ·rintro (a | a | a)
    ·exact .inr (.inl a)
    ·exact .inl a
    ·exact .inr (.inr a)
theorem ZCz {m : MR} (h : (m.map (·.1)).Nodup) (n : Int) (y : N2.Zp) : ((putM m n y).map (·.1)).Nodup := by
 induction m with
 | nil => simp [putM]
 | cons q r ih =>
  simp only [List.map_cons, List.nodup_cons] at h
  rw [putM]
  split
  ·rename_i hq
   simp only [List.map_cons, List.nodup_cons]
   exact ⟨hq ▸ h.1, h.2⟩
  ·rename_i hq
   simp only [List.map_cons, List.nodup_cons]
   refine ⟨fun hk => ?_, ih h.2⟩
   rcases (ZDI r n y q.1).1 hk with e | e
   ·exact hq e
   ·exact h.1 e
theorem ZCr {m : MR} {n : Int} (h : n ∉ m.map (·.1)) : getM m n = none := by
 induction m with
 | nil => rfl
 | cons q r ih =>
  simp only [List.map_cons, List.mem_cons, not_or] at h
  rw [getM, if_neg (fun e => h.1 e.symm)]
  exact ih h.2
theorem ZDD {m : MR} {n : Int} : (getM m n).isSome = true ↔ n ∈ m.map (·.1) := by
 induction m with
 | nil => simp [getM]
 | cons q r ih =>
  rw [getM]
  split
  ·rename_i h; simp [h]
  ·rename_i h
   rw [ih, List.map_cons, List.mem_cons]
   exact ⟨.inr, fun hh => hh.resolve_left fun e => h e.symm⟩
theorem ZEx (m : MR) (n : Int) : (delM m n).Sublist m := by
 induction m with
 | nil => exact .slnil
 | cons q r ih =>
  rw [delM]
  split
  ·exact List.sublist_cons_self _ _
  ·exact ih.cons_cons _
theorem ZDC {m : MR} (h : (m.map (·.1)).Nodup) (n k : Int) : getM (delM m n) k = if k = n then none else getM m k := by
 induction m with
 | nil => simp [delM, getM]
 | cons q r ih =>
  simp only [List.map_cons, List.nodup_cons] at h
  rw [delM]
  split
  ·rename_i hq
   by_cases hk : k = n
   ·rw [if_pos hk]; exact ZCr (by rw [hk, ← hq]; exact h.1)
   ·rw [if_neg hk, getM, if_neg (by rw [hq]; exact fun e => hk e.symm)]
  ·rename_i hq
   rw [getM, ih h.2, getM]
   by_cases hk : k = n
   ·rw [if_pos hk, if_pos hk, if_neg (fun e => hq (e.trans hk))]
   ·rw [if_neg hk, if_neg hk]
theorem RelM.nil : RelM [] [] := ⟨by simp, by simp [Z8W], fun _ => rfl⟩
theorem RelM.put {m : MR} {l : List N2.Zp} (h : RelM m l) (r : N2.Zp) : RelM (putM m r.ID r) (putL l r) :=
 ⟨ZCz h.nodup _ _, Zqs h.sorted r, fun n => by rw [Zwx, ZoW, h.get]⟩
theorem RelM.del {m : MR} {l : List N2.Zp} (h : RelM m l) (n : Int) : RelM (delM m n) (l.filter fun y => y.ID != n) :=
 ⟨h.nodup.sublist ((ZEx m n).map _), h.sorted.filter _, fun k => by rw [ZDC h.nodup, Zmi, h.get]⟩
theorem RelM.mput {m : MR} {l : List N2.Zp} (h : RelM m l) : ∀ (L : List N2.Zp), RelM (mput m L) (L.foldl putL l)
 | [] => h
 | r :: L => RelM.mput (h.put r) L
theorem Zr8 {l : List N2.Zp} {n : Int} : (getL l n).isSome = true ↔ n ∈ ids l := by
 induction l with
 | nil => simp [getL, ids]
 | cons x t ih =>
  rw [Z7J]
  split
  ·rename_i h; simp [ids, h]
  ·rename_i h
   rw [ih]
   unfold ids
   rw [List.map_cons, List.mem_cons]
   exact ⟨.inr, fun hh => hh.resolve_left fun e => h e.symm⟩
theorem Zx1 {l : List N2.Zp} (h : Z8W l) : (ids l).Nodup := by
 unfold ids
 rw [List.nodup_iff_pairwise_ne, List.pairwise_map]
 exact h.imp fun h => by omega
theorem RelM.perm {m : MR} {l : List N2.Zp} (h : RelM m l) : (m.map (·.1)).Perm (ids l) := by
 rw [List.perm_ext_iff_of_nodup h.nodup (Zx1 h.sorted)]
 intro n
 rw [← ZDD, h.get, Zr8]
theorem RelM.length {m : MR} {l : List N2.Zp} (h : RelM m l) : m.length = l.length := by
 have := h.perm.length_eq
 simpa [ids] using this
theorem RelM.keys {m : MR} {l : List N2.Zp} (h : RelM m l) : ZeI m = ids l := by
 refine List.Perm.eq_of_pairwise (le := fun a b => a ≤ b) (fun a b _ _ h1 h2 => by omega) ?_ ?_ ((List.mergeSort_perm _ _).trans h.perm)
 ·have := List.pairwise_mergeSort (le := fun a b : Int => decide (a ≤ b)) (fun a b c h1 h2 => by simp at *; omega) (fun a b => by simp; omega) (m.map (·.1))
  exact this.imp fun h => by simpa using h
 ·unfold ids
  rw [List.pairwise_map]
  exact h.sorted.imp fun h => by omega
theorem ZCq {l : List N2.Zp} (h : Z8W l) : ∀ r ∈ l, getL l r.ID = some r := by
 induction l with
 | nil => simp
 | cons x t ih =>
  obtain ⟨h1, h2⟩ := List.pairwise_cons.1 h
  intro r hr
  rw [Z7J]
  rcases List.mem_cons.1 hr with rfl | hr
  ·simp
  ·rw [if_neg (by have := h1 r hr; omega)]
   exact ih h2 r hr
theorem RelM.vals {m : MR} {l : List N2.Zp} (h : RelM m l) : ((ZeI m).map fun n => (getM m n).getD zR) = l := by
 rw [h.keys]
 unfold ids
 rw [List.map_map]
 conv => rhs; rw [← List.map_id l]
 apply List.map_congr_left
 intro r hr
 simp [h.get, ZCq h.sorted r hr]
theorem ZuI : ∀ (D : List Int) {m : MR} {l : List N2.Zp}, RelM m l → D.Nodup →
  (match ZeJ D m with | none => ¬ ∀ n ∈ D, n ∈ ids l | some m' => (∀ n ∈ D, n ∈ ids l) ∧ RelM m' (l.filter fun y => !D.contains y.ID))
 | [], m, l, h, _ => ⟨by simp, by rw [List.filter_eq_self.2 (by simp)]; exact h⟩
 | i :: D, m, l, h, hn => by
  obtain ⟨h1, h2⟩ := List.nodup_cons.1 hn
  unfold ZeJ
  by_cases hi : (getM m i).isSome = true
  ·rw [if_pos hi]
   have ih := ZuI D (h.del i) h2
   have hm : i ∈ ids l := by rw [h.get, Zr8] at hi; exact hi
   have hk : (∀ n ∈ D, n ∈ ids (l.filter fun y => y.ID != i)) ↔ ∀ n ∈ D, n ∈ ids l := by
    constructor
    ·intro hh n hd
     have := hh n hd
     unfold ids at *
     obtain ⟨y, hy, e⟩ := List.mem_map.1 this
     exact List.mem_map.2 ⟨y, (List.mem_filter.1 hy).1, e⟩
    ·intro hh n hd
     have := hh n hd
     unfold ids at *
     obtain ⟨y, hy, e⟩ := List.mem_map.1 this
     refine List.mem_map.2 ⟨y, List.mem_filter.2 ⟨hy, ?_⟩, e⟩
     have : n ≠ i := fun e => h1 (e ▸ hd)
     simp only [bne_iff_ne, ne_eq, e]
     exact this
   cases hd : ZeJ D (delM m i) with
   | none =>
    rw [hd] at ih
    intro hh
    exact ih (hk.2 fun n hn => hh n (by simp [hn]))
   | some m' =>
    rw [hd] at ih
    refine ⟨fun n hn => ?_, ?_⟩
    ·rcases List.mem_cons.1 hn with rfl | hn
     ·exact hm
     ·exact hk.1 ih.1 n hn
    ·have := ih.2
     rw [List.filter_filter] at this
     have e : (l.filter fun y => !(i :: D).contains y.ID) = l.filter fun a => (!D.contains a.ID) && (a.ID != i) := by
      apply List.filter_congr
      intro y _
      rw [List.contains_cons, Bool.not_or, Bool.and_comm]
      rfl
     rw [e]
     exact this
  ·rw [if_neg hi]
   intro hh
   apply hi
   rw [h.get, Zr8]
   exact hh i (by simp)
theorem Zrx : ∀ {l : List N2.Zp} {n : Int}, asc n l = true → Z8W l ∧ (∀ r ∈ l, n < r.ID) ∧ l.all okR = true
 | [], n, _ => ⟨.nil, by simp, rfl⟩
 | r :: l, n, h => by
  simp only [asc, Bool.and_eq_true, decide_eq_true_eq] at h
  obtain ⟨⟨h1, h2⟩, h3⟩ := h
  obtain ⟨a, b, c⟩ := Zrx h3
  refine ⟨List.pairwise_cons.2 ⟨b, a⟩, ?_, by simp [h1, c]⟩
  intro x hx
  rcases List.mem_cons.1 hx with rfl | hx
  ·exact h2
  ·have := b x hx; omega
theorem ZB8 : ∀ {l : List N2.Zp} {n : Int}, Z8W l → (∀ r ∈ l, n < r.ID) → l.all okR = true → asc n l = true
 | [], n, _, _, _ => rfl
 | r :: l, n, h1, h2, h3 => by
  obtain ⟨a, b⟩ := List.pairwise_cons.1 h1
  simp only [List.all_cons, Bool.and_eq_true] at h3
  simp only [asc, Bool.and_eq_true, decide_eq_true_eq]
  exact ⟨⟨h3.1, h2 r (by simp)⟩, ZB8 b a h3.2⟩
theorem ZCY {l : List N2.Zp} {r : N2.Zp} (h : ∀ x ∈ l, x.ID < r.ID) : putL l r = l ++ [r] := by
 induction l with
 | nil => rfl
 | cons x t ih => rw [putL, if_pos (h x (by simp)), ih fun y hy => h y (by simp [hy])]; rfl
theorem ZuE : ∀ {L l : List N2.Zp}, Z8W (l ++ L) → L.foldl putL l = l ++ L
 | [], l, _ => by simp
 | r :: L, l, h => by
  rw [List.foldl_cons, ZCY, ZuE]
  ·simp
  ·simpa using h
  ·intro x hx
   exact (List.pairwise_append.1 h).2.2 x hx r (by simp)
def Z7g (s : N2.ZD) (d : N2.ZX) : N2.ZD × Int :=
 if okS s = false then (zS, 10) else
 if okN (orI d.Default s.Default) (orI d.Closed s.Closed) (orI d.Fuel s.Fuel) (orI d.Stack s.Stack) = false ∨ d.Put.all okR = false then (zS, 30) else
 if ¬ (ids d.Put ++ d.Drop).Nodup then (zS, 31) else
 if ¬ ∀ n ∈ d.Drop, n ∈ ids s.Rules then (zS, 32) else
 if 16 < (d.Put.foldl putL (s.Rules.filter fun y => !d.Drop.contains y.ID)).length then (zS, 33) else
 (⟨orI d.Default s.Default, orI d.Closed s.Closed, orI d.Fuel s.Fuel, orI d.Stack s.Stack, d.Put.foldl putL (s.Rules.filter fun y => !d.Drop.contains y.ID)⟩, 0)
theorem ZnQ {s : N2.ZD} (h : okS s = true) : Z8W s.Rules ∧ (∀ r ∈ s.Rules, 0 < r.ID) ∧ s.Rules.all okR = true := by
 unfold okS at h
 simp only [Bool.and_eq_true] at h
 exact Zrx h.2
theorem ZB6 (s : N2.ZD) (d : N2.ZX) : N2.applyM s d = Z7g s d := by
 unfold N2.applyM Z7g
 by_cases hs : okS s = false
 ·rw [if_pos hs, if_pos hs]
 rw [if_neg hs, if_neg hs]
 by_cases hn : okN (orI d.Default s.Default) (orI d.Closed s.Closed) (orI d.Fuel s.Fuel) (orI d.Stack s.Stack) = false ∨ d.Put.all okR = false
 ·rw [if_pos hn, if_pos hn]
 rw [if_neg hn, if_neg hn]
 by_cases ht : ¬ (ids d.Put ++ d.Drop).Nodup
 ·rw [if_pos ht, if_pos ht]
 rw [if_neg ht, if_neg ht]
 have hd : d.Drop.Nodup := (List.nodup_append.1 (Classical.not_not.1 ht)).2.1
 obtain ⟨o1, _, _⟩ := ZnQ (by simpa using hs)
 have hr : RelM (mput [] s.Rules) s.Rules := by
  have := RelM.nil.mput s.Rules
  rw [ZuE (by simpa using o1)] at this
  simpa using this
 have := ZuI d.Drop hr hd
 cases hm : ZeJ d.Drop (mput [] s.Rules) with
 | none =>
  rw [hm] at this
  rw [if_pos this]
 | some m =>
  rw [hm] at this
  rw [if_neg (fun h => h this.1)]
  have hp := this.2.mput d.Put
  simp only
  rw [hp.length, hp.vals]
theorem ZB7 (s : N2.ZD) (d : N2.ZX) (h1 : d.Put.length ≤ 1000000) (h2 : d.Drop.length ≤ 1000000) : N2.ZcJ s d = some (Z7g s d) := by
 rw [N2.g_rule_Apply_val s d h1 h2, ZB6]
end Go.Proofs.YteoeggbihfnbfaaGreatDoor
end
section
set_option linter.unusedSimpArgs false
set_option linter.unusedVariables false
namespace Go.Proofs.YteoeggbihfnbfaaGreatDoor
open Go Go.Abs
theorem Zsy {a b : ByteArray} : seq a b = true ↔ a = b := by
 unfold seq
 rw [beq_iff_eq, ByteArray.toList_eq, ByteArray.toList_eq]
 obtain ⟨⟨x⟩⟩ := a
 obtain ⟨⟨y⟩⟩ := b
 simp
def eqR (a b : N2.Zp) : Bool := (a.ID == b.ID) && ((a.Priority == b.Priority) && ((a.Action == b.Action) && ((a.Scope == b.Scope) && ((seq a.Pattern b.Pattern) && true))))
theorem ZEy {a b : N2.Zp} : eqR a b = true ↔ a = b := by
 unfold eqR
 simp only [Bool.and_eq_true, beq_iff_eq, Zsy, and_true]
 constructor
 ·rintro ⟨h1, h2, h3, h4, h5⟩
  cases a; cases b
  simp only at h1 h2 h3 h4 h5
  subst h1; subst h2; subst h3; subst h4; subst h5
  rfl
 ·rintro rfl
  exact ⟨rfl, rfl, rfl, rfl, rfl⟩
namespace N2
theorem Znp (n : Int) (L : List N2.Zp) (hl : L.length ≤ 1000000) : ∀ (k i : Nat), i + k = L.length → Z8x n L (L.length : Int) (i : Int) = some (match getL (L.drop i) n with | some r => (r, true) | none => (zR, false)) := by
 intro k
 induction k with
 | zero =>
  intro i h
  rw [List.drop_of_length_le (by omega)]
  apply Zfh
  unfold Z8p
  rw [if_neg (by simp; omega)]
  rfl
 | succ k ih =>
  intro i h
  have hi : i < L.length := by omega
  rw [List.drop_eq_getElem_cons hi]
  apply Zfh
  unfold Z8p
  rw [if_pos (by simp; omega)]
  unfold Zak
  rw [Z36, List.getElem?_eq_getElem hi, Z7J]
  simp only [Option.bind_some]
  by_cases hh : L[i].ID = n
  ·rw [if_pos hh, if_pos (by simpa using hh)]
  ·rw [if_neg hh, if_neg (by simpa using hh)]
   unfold Zal
   rw [ZiX (by omega) (by omega), show ((i : Int) + 1) = ((i + 1 : Nat) : Int) by omega]
   exact ih (i + 1) (by omega)
end N2
namespace N2
theorem Zgv (s : N2.ZD) (n : Int) (hl : s.Rules.length ≤ 1000000) : Zau s n = some (match getL s.Rules n with | some r => (r, true) | none => (zR, false)) := by
 apply ZoQ
 unfold Zcl
 exact Znp n s.Rules hl s.Rules.length 0 (by omega)
end N2
namespace N2
end N2
namespace N2
theorem filter_self (l : List N2.Zp) : (l.filter fun y => !([] : List Int).contains y.ID) = l := List.filter_eq_self.2 (by simp)
end N2
theorem Zqr {l : List N2.Zp} (h : Z8W l) : ∀ (P : List N2.Zp), Z8W (P.foldl putL l)
 | [] => h
 | r :: P => Zqr (Zqs h r) P
theorem ZDa {l : List N2.Zp} {r : N2.Zp} (h : l.all okR = true) (hr : okR r = true) : (putL l r).all okR = true := by
 rw [List.all_eq_true] at *
 intro y hy
 rcases ZnL hy with rfl | hy
 ·exact hr
 ·exact h y hy
theorem Zv8 {l : List N2.Zp} (h : l.all okR = true) : ∀ {P : List N2.Zp}, P.all okR = true → (P.foldl putL l).all okR = true
 | [], _ => h
 | r :: P, hp => by
  simp only [List.all_cons, Bool.and_eq_true] at hp
  exact Zv8 (l := putL l r) (ZDa h hp.1) (P := P) hp.2
theorem ZHR {a b c d : Int} {l : List N2.Zp} (hn : okN a b c d = true) (hl : l.length ≤ 16) (hs : Z8W l) (ha : l.all okR = true) : okS ⟨a, b, c, d, l⟩ = true := by
 unfold okS
 simp only [hn, hl, decide_true, Bool.and_self, Bool.true_and]
 refine ZB8 hs (fun r hr => ?_) ha
 have := ZCG (List.all_eq_true.1 ha r hr)
 omega
theorem ZB5 {s : N2.ZD} {d : N2.ZX} {t : N2.ZD} (h : Z7g s d = (t, 0)) : okS s = true ∧ okN (orI d.Default s.Default) (orI d.Closed s.Closed) (orI d.Fuel s.Fuel) (orI d.Stack s.Stack) = true ∧ d.Put.all okR = true ∧
  (ids d.Put ++ d.Drop).Nodup ∧ (∀ n ∈ d.Drop, n ∈ ids s.Rules) ∧ (d.Put.foldl putL (s.Rules.filter fun y => !d.Drop.contains y.ID)).length ≤ 16 ∧
  t = ⟨orI d.Default s.Default, orI d.Closed s.Closed, orI d.Fuel s.Fuel, orI d.Stack s.Stack, d.Put.foldl putL (s.Rules.filter fun y => !d.Drop.contains y.ID)⟩ := by
 unfold Z7g at h
 split at h
 ·simp at h
 rename_i h1
 split at h
 ·simp at h
 rename_i h2
 split at h
 ·simp at h
 rename_i h3
 split at h
 ·simp at h
 rename_i h4
 split at h
 ·simp at h
 rename_i h5
 simp only [Prod.mk.injEq, and_true] at h
 simp only [not_or, Bool.not_eq_false] at h2
 exact ⟨by simpa using h1, h2.1, h2.2, Classical.not_not.1 h3, Classical.not_not.1 h4, by omega, h.symm⟩
theorem Zva {s : N2.ZD} {d : N2.ZX} {t : N2.ZD} (h : Z7g s d = (t, 0)) : okS t = true := by
 obtain ⟨h1, h2, h3, _, _, h6, rfl⟩ := ZB5 h
 obtain ⟨o1, _, o3⟩ := ZnQ h1
 refine ZHR h2 h6 (Zqr (o1.filter _) _) (Zv8 ?_ h3)
 rw [List.all_eq_true] at *
 intro r hr
 exact o3 r (List.mem_filter.1 hr).1
theorem ZB4 {s : N2.ZD} {d : N2.ZX} (h1 : okS s = true) (h2 : okN (orI d.Default s.Default) (orI d.Closed s.Closed) (orI d.Fuel s.Fuel) (orI d.Stack s.Stack) = true) (h3 : d.Put.all okR = true)
  (h4 : (ids d.Put ++ d.Drop).Nodup) (h5 : ∀ n ∈ d.Drop, n ∈ ids s.Rules) (h6 : (d.Put.foldl putL (s.Rules.filter fun y => !d.Drop.contains y.ID)).length ≤ 16) :
  Z7g s d = (⟨orI d.Default s.Default, orI d.Closed s.Closed, orI d.Fuel s.Fuel, orI d.Stack s.Stack, d.Put.foldl putL (s.Rules.filter fun y => !d.Drop.contains y.ID)⟩, 0) := by
 unfold Z7g
 rw [if_neg (by simp [h1]), if_neg (by simp [h2, h3]), if_neg (by simpa using h4), if_neg (by simpa using h5), if_neg (by omega)]
theorem ZAz {l : List N2.Zp} (hs : Z8W l) (n : Int) : (l.filter fun y => y.ID != n).length + (if (getL l n).isSome = true then 1 else 0) = l.length := by
 induction l with
 | nil => simp [getL]
 | cons x t ih =>
  obtain ⟨h1, h2⟩ := List.pairwise_cons.1 hs
  rw [Z7J]
  by_cases hx : x.ID = n
  ·rw [if_pos hx, List.filter_cons_of_neg (by simp [hx])]
   have e : t.filter (fun y => y.ID != n) = t := List.filter_eq_self.2 fun y hy => by have := h1 y hy; simp; omega
   rw [e]
   simp
  ·rw [if_neg hx, List.filter_cons_of_pos (by simp [hx])]
   have := ih h2
   simp only [List.length_cons]
   omega
theorem ZE6 {l : List N2.Zp} (hs : Z8W l) (r : N2.Zp) : (putL l r).length = l.length + 1 - (if (getL l r.ID).isSome = true then 1 else 0) := by
 induction l with
 | nil => simp [putL, getL]
 | cons x t ih =>
  obtain ⟨h1, h2⟩ := List.pairwise_cons.1 hs
  rw [putL]
  split
  ·rename_i hx
   have hne : ¬ x.ID = r.ID := by omega
   rw [Z7J, if_neg hne, List.length_cons, ih h2, List.length_cons]
   split
   ·rename_i hh
    have : 0 < t.length := by
     cases t with
     | nil => simp [getL] at hh
     | cons a b => simp
    omega
   ·omega
  ·have := ZAz hs r.ID
   rw [List.length_cons]
   omega
namespace N2
end N2
end Go.Proofs.YteoeggbihfnbfaaGreatDoor
end
section
set_option linter.unusedSimpArgs false
set_option linter.unusedVariables false
namespace Go.Proofs.YteoeggbihfnbfaaGreatDoor
open Go Go.Abs
noncomputable def patF (x : ByteArray) : N2.ZI := (N2.Z4H x).getD ⟨0, 0, 0⟩
abbrev Fine (r : N2.Zp) : Prop := (patF r.Pattern).Code = 0
noncomputable def badF (r : N2.Zp) : N2.ZI := ⟨(patF r.Pattern).Code, r.ID, (patF r.Pattern).At⟩
noncomputable def Z7x : List N2.Zp → N2.ZI
 | [] => ⟨0, 0, 0⟩
 | r :: l => if (patF r.Pattern).Code = 0 then Z7x l else badF r
noncomputable def Z80 (s : N2.ZD) : N2.ZI := if okS s = false then ⟨10, 0, 0⟩ else Z7x s.Rules
noncomputable def Zdd (s : N2.ZD) (d : N2.ZX) : N2.ZD × N2.ZI :=
 if (Z7g s d).2 ≠ 0 then (zS, ⟨(Z7g s d).2, 0, 0⟩) else if (Z80 (Z7g s d).1).Code ≠ 0 then (zS, Z80 (Z7g s d).1) else ((Z7g s d).1, ⟨0, 0, 0⟩)
theorem Zo4 : ∀ {l : List N2.Zp}, (∀ r ∈ l, Fine r) → Z7x l = ⟨0, 0, 0⟩
 | [], _ => rfl
 | r :: l, h => by rw [Z7x, if_pos (h r (by simp)), Zo4 fun x hx => h x (by simp [hx])]
theorem Zo5 : ∀ {l : List N2.Zp}, (Z7x l).Code = 0 → ∀ r ∈ l, Fine r
 | [], _ => by simp
 | r :: l, h => by
  intro x hx
  rw [Z7x] at h
  split at h
  ·rename_i hr
   rcases List.mem_cons.1 hx with rfl | hx
   ·exact hr
   ·exact Zo5 h x hx
  ·rename_i hr
   exact absurd h hr
theorem ZoF {x : N2.Zp} : ∀ {l : List N2.Zp}, (∀ r ∈ l, r = x ∨ Fine r) → x ∈ l → ¬ Fine x → Z7x l = badF x
 | [], _, h, _ => by simp at h
 | r :: l, h1, h2, h3 => by
  rw [Z7x]
  split
  ·rename_i hr
   have : x ≠ r := fun e => h3 (e ▸ hr)
   rcases List.mem_cons.1 h2 with e | h2
   ·exact absurd e this
   ·exact ZoF (fun y hy => h1 y (by simp [hy])) h2 h3
  ·rename_i hr
   rcases h1 r (by simp) with rfl | h
   ·rfl
   ·exact absurd h hr
theorem ZxZ {s : N2.ZD} (h : (Z80 s).Code = 0) : okS s = true ∧ ∀ r ∈ s.Rules, Fine r := by
 unfold Z80 at h
 split at h
 ·simp at h
 ·rename_i hs
  exact ⟨by simpa using hs, Zo5 h⟩
theorem ZxY {s : N2.ZD} (h : okS s = true) (h2 : ∀ r ∈ s.Rules, Fine r) : Z80 s = ⟨0, 0, 0⟩ := by
 unfold Z80
 rw [if_neg (by simp [h]), Zo4 h2]
abbrev put1 (x : N2.Zp) : N2.ZX := ⟨-1, -1, -1, -1, [x], []⟩
theorem ZEq {s : N2.ZD} (h : okS s = true) : okN s.Default s.Closed s.Fuel s.Stack = true := by
 unfold okS at h
 simp only [Bool.and_eq_true] at h
 exact h.1.1
theorem Zrh (n : Int) : orI (-1) n = n := by simp [orI]
theorem ZyL {s : N2.ZD} {x : N2.Zp} (h : okS s = true) (hx : okR x = true) : Z7g s (put1 x) = if (putL s.Rules x).length ≤ 16 then (⟨s.Default, s.Closed, s.Fuel, s.Stack, putL s.Rules x⟩, 0) else (zS, 33) := by
 have hf : (s.Rules.filter fun y => !([] : List Int).contains y.ID) = s.Rules := N2.filter_self _
 by_cases hl : (putL s.Rules x).length ≤ 16
 ·rw [if_pos hl]
  have := ZB4 (s := s) (d := put1 x) h (by simp only [Zrh]; exact ZEq h) (by simp [hx]) (by simp [ids]) (by simp) (by rw [hf]; simpa using hl)
  rw [this, hf]
  simp only [Zrh, List.foldl_cons, List.foldl_nil]
 ·rw [if_neg hl]
  unfold Z7g
  simp only [Zrh]
  rw [if_neg (by simp [h]), if_neg (by simp [ZEq h, hx]), if_neg (by simp [ids])]
  rw [if_neg (by simp), hf]
  rw [if_pos (by simpa using hl)]
end Go.Proofs.YteoeggbihfnbfaaGreatDoor
end
section
set_option linter.unusedSimpArgs false
set_option linter.unusedVariables false
namespace Go.Proofs.YteoeggbihfnbfaaGreatDoor.N2
open Go Go.Abs Go.Proofs.Unis Go.Proofs.Norm
set_option maxRecDepth 100000
theorem ZAQ (x : ByteArray) : ∃ v, Z4H x = some v ∧ v.Rule = 0 := by
 by_cases h : (Z6D x).2.Code = 0
 ·obtain ⟨v, hv⟩ := ZDE (ZAP h)
  refine ⟨⟨chkF v, 0, 0⟩, ?_, rfl⟩
  apply ZbU
  unfold Z7F Z9a
  rw [Zp8, Option.bind_some, if_neg (Zf6 h)]
  rw [show (Z6D x).1 = ⟨(Z6D x).1.Root, (Z6D x).1.Groups, (Z6D x).1.Fold⟩ from rfl, ZBe hv, Option.bind_some]
 ·refine ⟨⟨(Z6D x).2.Code, 0, (Z6D x).2.At⟩, ?_, rfl⟩
  apply ZbU
  unfold Z7F
  rw [Zp8, Option.bind_some, if_pos (Zdc h)]
theorem Zll (x : ByteArray) : Z4H x = some (patF x) := by
 obtain ⟨v, h, _⟩ := ZAQ x
 unfold patF
 rw [h]
 rfl
theorem ZAS (L : List Zp) (hl : L.length ≤ 1000000) : ∀ (k i : Nat), i + k = L.length → Z8y L (L.length : Int) (i : Int) = some (Z7x (L.drop i)) := by
 intro k
 induction k with
 | zero =>
  intro i h
  apply Zfl
  unfold Z8s Z9W
  rw [if_neg (Z2x (by omega)), List.drop_of_length_le (by omega)]
  rfl
 | succ k ih =>
  intro i h
  have hi : i < L.length := by omega
  have ih := ih (i + 1) (by omega)
  apply Zfl
  unfold Z8s Zao Z9V
  rw [if_pos (Z2C (by omega)), Z36, List.getElem?_eq_getElem hi, Option.bind_some, Zll, Option.bind_some, List.drop_eq_getElem_cons hi, Z7x]
  by_cases hc : (patF L[i].Pattern).Code = 0
  ·rw [if_neg (Zf6 hc), if_pos hc, wrap_i64 (by omega) (by omega)]
   exact ih
  ·rw [if_pos (Zdc hc), if_neg hc]
   rfl
theorem ZkJ (s : ZD) : Z7A s = some (Z80 s) := by
 apply ZoV
 unfold Zcp Zan Z80
 rw [ZfO, Option.bind_some]
 cases h : okS s with
 | false => rfl
 | true =>
  rw [if_neg (by simp), if_neg (by simp)]
  exact ZAS s.Rules (Nat.le_trans (Zur h) (by omega)) s.Rules.length 0 (by omega)
theorem ZyQ (s : ZD) (d : ZX) (h1 : d.Put.length ≤ 1000000) (h2 : d.Drop.length ≤ 1000000) : ZbT s d = some (Zdd s d) := by
 apply Zot
 unfold ZbN Z9T Z9U Zdd
 rw [ZB7 s d h1 h2, Option.bind_some]
 by_cases h : (Z7g s d).2 = 0
 ·rw [if_neg (Zf6 h), if_neg (by simp [h]), ZkJ, Option.bind_some]
  by_cases hc : (Z80 (Z7g s d).1).Code = 0
  ·rw [if_neg (Zf6 hc), if_neg (by simp [hc])]
  ·rw [if_pos (Zdc hc), if_pos hc]
   rfl
 ·rw [if_pos (Zdc h), if_pos h]
  rfl
theorem ZEc (x : S91) (k : Int) (d : ZX) (L : List Zp) (hl : L.length ≤ 20) {r : Bool} (hr : Z3v x (IntKind.i64.wrap (k + 1)) d = some r) : ∀ (m i : Nat), i + m = L.length →
  ∃ r', Z5W x k L (L.length : Int) (i : Int) d = some r' ∧ (r' = true → r = true) := by
 intro m
 induction m with
 | zero =>
  intro i h
  refine ⟨r, ?_, id⟩
  apply Z8w
  unfold Z4L Z77
  rw [if_neg (Z2x (by omega))]
  exact hr
 | succ m ih =>
  intro i h
  have hi : i < L.length := by omega
  obtain ⟨r', e, e2⟩ := ih (i + 1) (by omega)
  by_cases hc : 300 < (L[i].Pattern.size : Int)
  ·refine ⟨false, ?_, by simp⟩
   apply Z8w
   unfold Z4L Z5R
   rw [if_pos (Z2C (by omega)), Z36, List.getElem?_eq_getElem hi, Option.bind_some, if_pos (Z2C hc)]
  ·refine ⟨r', ?_, e2⟩
   apply Z8w
   unfold Z4L Z5R Z76
   rw [if_pos (Z2C (by omega)), Z36, List.getElem?_eq_getElem hi, Option.bind_some, if_neg (Z2x hc), wrap_i64 (by omega) (by omega)]
   exact e
theorem Zx0 (x : S91) (k : Nat) (hk : k < 2) (d : ZX) {L : List Zp} (hL : [x.c0, x.c1][k]? = some L) {r : Bool} (hr : Z3v x ((k + 1 : Nat) : Int) d = some r) :
  ∃ r', Z3v x (k : Int) d = some r' ∧ (r' = true → r = true ∧ L.length ≤ 20) := by
 by_cases hc : 20 < (L.length : Int)
 ·refine ⟨false, ?_, by simp⟩
  apply Z8v
  unfold Z4K Z5Q
  rw [if_pos (Z2C (by omega)), Z36, hL, Option.bind_some, if_pos (Z2C hc)]
 ·obtain ⟨r', e, e2⟩ := ZEc x k d L (by omega) (r := r) (by rw [wrap_i64 (by omega) (by omega)]; exact hr) L.length 0 (by omega)
  refine ⟨r', ?_, fun h => ⟨e2 h, by omega⟩⟩
  apply Z8v
  unfold Z4K Z5Q Z7h
  rw [if_pos (Z2C (by omega)), Z36, hL, Option.bind_some, if_neg (Z2x hc)]
  exact e
theorem ZD1 (s : ZD) (d : ZX) : ∃ b, Z8K s d = some b ∧ (b = true → s.Rules.length ≤ 20 ∧ d.Put.length ≤ 20 ∧ d.Drop.length ≤ 40) := by
 have h2 : Z3v ⟨s.Rules, d.Put⟩ ((1 + 1 : Nat) : Int) d = some (decide ((d.Drop.length : Int) ≤ 40)) := by
  apply Z8v
  unfold Z4K Z78
  rw [if_neg (Z2x (by omega))]
 obtain ⟨r1, e1, p1⟩ := Zx0 ⟨s.Rules, d.Put⟩ 1 (by omega) d (L := d.Put) rfl h2
 obtain ⟨r0, e0, p0⟩ := Zx0 ⟨s.Rules, d.Put⟩ 0 (by omega) d (L := s.Rules) rfl e1
 refine ⟨r0, Zjx _ _ (by unfold Z8H; exact e0), fun h => ?_⟩
 obtain ⟨q0, l0⟩ := p0 h
 obtain ⟨q1, l1⟩ := p1 q0
 have := of_decide_eq_true q1
 exact ⟨l0, l1, by omega⟩
theorem Zus {x : ByteArray} (h : (Z6D x).2.Code ≠ 0) : patF x = ⟨(Z6D x).2.Code, 0, (Z6D x).2.At⟩ := by
 have : Z4H x = some ⟨(Z6D x).2.Code, 0, (Z6D x).2.At⟩ := by
  apply ZbU
  unfold Z7F
  rw [Zp8, Option.bind_some, if_pos (Zdc h)]
 unfold patF
 rw [this]
 rfl
theorem Zxa : Z8h = some true := by
 have e1 : (Z6D (ByteArray.mk #[97, 42, 42])).2 = ⟨23, 2⟩ := by rfl
 have e2 : (Z6D (ByteArray.mk #[40])).2.Code = 20 := by rfl
 have e3 : (Z6D (ByteArray.mk #[40])).2.At = 0 := by rfl
 have hf : ZcK = some ⟨0, 255, 10000, 500, []⟩ := Zs7 rfl
 have p1 : patF (ByteArray.mk #[97, 42, 42]) = ⟨23, 0, 2⟩ := by
  rw [Zus (by rw [e1]; decide), e1]
 have p2 : (patF (ByteArray.mk #[40])).Code = 20 := by rw [Zus (by rw [e2]; decide), e2]
 have r1 : ∃ a, Z80 ⟨0, 255, 10000, 500, [⟨3, 0, 0, 1, ByteArray.mk #[40]⟩, ⟨7, 0, 0, 1, ByteArray.mk #[41]⟩]⟩ = ⟨20, 3, a⟩ := by
  refine ⟨(patF (ByteArray.mk #[40])).At, ?_⟩
  unfold Z80
  rw [if_neg (by decide)]
  show Z7x _ = _
  rw [Z7x, if_neg (by rw [p2]; decide)]
  unfold badF
  rw [p2]
 have r2 : Z80 ⟨0, 255, 10000, 500, []⟩ = ⟨0, 0, 0⟩ := by
  unfold Z80
  rw [if_neg (by decide)]
  rfl
 obtain ⟨a, r1⟩ := r1
 have ha : a = 0 := by
  have : (Z80 ⟨0, 255, 10000, 500, [⟨3, 0, 0, 1, ByteArray.mk #[40]⟩, ⟨7, 0, 0, 1, ByteArray.mk #[41]⟩]⟩).At = (Z6D (ByteArray.mk #[40])).2.At := by
   unfold Z80
   rw [if_neg (by decide)]
   show (Z7x _).At = _
   rw [Z7x, if_neg (by rw [p2]; decide)]
   unfold badF
   rw [Zus (by rw [e2]; decide)]
  rw [r1, e3] at this
  exact this
 subst ha
 apply Ziz
 unfold Z8c
 rw [hf, Option.bind_some, Zll, Option.bind_some, p1, if_pos (by rfl), ZkJ, Option.bind_some, r1, if_pos (by rfl), Option.bind_some, ZkJ, r2]
 rfl
end Go.Proofs.YteoeggbihfnbfaaGreatDoor.N2
end
