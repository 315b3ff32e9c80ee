/- Rules, sets, deltas, verdicts, as plain functions. No condition. -/
import Derived.Test.YteoeggbihfnbfaaGreatDoorPlain
import Derived.Test.YteoeggbihfnbfaaGreatDoorTypB
import Derived.Test.YteoeggbihfnbfaaGreatDoorTypC
import Derived.Test.YteoeggbihfnbfaaGreatDoorPlainB

section
set_option linter.unusedSimpArgs false
set_option linter.unusedVariables false
namespace Go.Proofs.YteoeggbihfnbfaaGreatDoor
open Go Go.Abs
def okR (r : N2.Zw) : Bool := decide (1 ≤ r.ID ∧ r.ID ≤ 1099511627776 ∧ 0 ≤ r.Priority ∧ r.Priority ≤ 1000 ∧ 0 ≤ r.Action ∧ r.Action ≤ 255 ∧ 1 ≤ r.Scope ∧ r.Scope ≤ 65535 ∧ (r.Pattern.size : Int) ≤ 256)
def okN (a b c d : Int) : Bool := decide (0 ≤ a ∧ a ≤ 255 ∧ 0 ≤ b ∧ b ≤ 255 ∧ 1 ≤ c ∧ c ≤ 1048576 ∧ 0 ≤ d ∧ d ≤ 4096)
def asc : Int → List N2.Zw → Bool
 | _, [] => true
 | n, r :: l => okR r && decide (n < r.ID) && asc r.ID l
def okS (s : N2.ZC) : Bool := okN s.Default s.Closed s.Fuel s.Stack && decide (s.Rules.length ≤ 16) && asc 0 s.Rules
namespace N2
theorem Zb8 (r : N2.Zw) : Z8V r = some (okR r) := by
 apply Zn0
 unfold ZaB okR
 repeat' split
 all_goals simp_all
 all_goals omega
theorem Zdx (s : N2.ZC) : Z7T s = some (okN s.Default s.Closed s.Fuel s.Stack) := by
 apply ZkO
 unfold Z9L okN
 repeat' split
 all_goals simp_all
 all_goals omega
theorem Zkt {i : Int} (h1 : 0 ≤ i) (h2 : i ≤ 1000000000) : IntKind.i64.wrap (i + 1) = i + 1 := wrap_i64 (by omega) (by omega)
theorem ZlI (L : List N2.Zw) (hl : L.length ≤ 1000000) : ∀ (d i : Nat) (n : Int), i + d = L.length → Z7S n L (L.length : Int) (i : Int) = some (asc n (L.drop i)) := by
 intro d
 induction d with
 | zero =>
  intro i n h
  apply Ze7
  unfold Z7N
  rw [if_neg (by simp; omega), List.drop_of_length_le (by omega)]
  rfl
 | succ d ih =>
  intro i n h
  apply Ze7
  unfold Z7N
  have hi : i < L.length := by omega
  rw [if_pos (by simp; omega)]
  unfold Z9J
  rw [Z30, List.getElem?_eq_getElem hi, List.drop_eq_getElem_cons hi]
  simp only [Option.bind_some, Zb8, asc, Z7P, Z9K, Z92]
  cases h1 : okR L[i] with
  | false => simp
  | true =>
   simp only [Bool.not_true, Bool.false_eq_true, if_false, Bool.true_and]
   by_cases h2 : L[i].ID ≤ n
   ·rw [if_pos (by simpa using h2)]
    have : ¬ n < L[i].ID := by omega
    simp [this]
   ·rw [if_neg (by simpa using h2), Zkt (by omega) (by omega)]
    have := ih (i + 1) L[i].ID (by omega)
    rw [show ((i : Int) + 1) = ((i + 1 : Nat) : Int) by omega, this]
    have : n < L[i].ID := by omega
    simp [this]
theorem ZbF (s : N2.ZC) : Z81 s = some (okS s) := by
 apply ZnU
 unfold Zbv
 simp only [Zdx, Option.bind_some, Z7O, Z9I, okS]
 cases h : okN s.Default s.Closed s.Fuel s.Stack with
 | false => simp
 | true =>
  by_cases h2 : s.Rules.length ≤ 16
  ·have h3 : ¬ 16 < (s.Rules.length : Int) := by omega
   simp only [Bool.not_true, Bool.false_eq_true, if_false, h3, decide_false, h2, decide_true, Bool.true_and]
   exact ZlI s.Rules (by omega) s.Rules.length 0 0 (by omega)
  ·have h3 : 16 < (s.Rules.length : Int) := by omega
   simp [h2, h3]
end N2
end Go.Proofs.YteoeggbihfnbfaaGreatDoor
end
section
set_option linter.unusedSimpArgs false
set_option linter.unusedVariables false
namespace Go.Proofs.YteoeggbihfnbfaaGreatDoor
open Go Go.Abs
def Z6G : List Int → List (Int × Bool) → Bool × List (Int × Bool)
 | [], m => (false, m)
 | x :: xs, m => if (getM m x).getD false = true then (true, putM m x true) else Z6G xs (putM m x true)
def ids (l : List N2.Zw) : List Int := l.map (·.ID)
theorem ZvY {α : Type} (m : List (Int × α)) (n k : Int) (y : α) : getM (putM m n y) k = if k = n then some y else getM m k := by
 induction m with
 | nil => simp only [putM, getM]; by_cases h : n = k <;> simp [h, eq_comm]
 | cons q r ih =>
  simp only [putM]
  split
  ·rename_i h
   simp only [getM]
   by_cases hk : n = k
   ·simp [hk]
   ·simp only [if_neg hk]; rw [h, if_neg hk, if_neg (fun e => hk e.symm)]
  ·rename_i h
   simp only [getM, ih]
   by_cases hk : q.1 = k
   ·rw [if_pos hk]; have : k ≠ n := fun e => h (hk.trans e); rw [if_neg this, if_pos hk]
   ·rw [if_neg hk]; split <;> simp [hk]
theorem Znx : ∀ (xs : List Int) (m : List (Int × Bool)) (seen : List Int), (∀ x, (getM m x).getD false = decide (x ∈ seen)) → (Z6G xs m).1 = !decide (xs.Nodup ∧ ∀ x ∈ xs, x ∉ seen) ∧
  ((Z6G xs m).1 = false → ∀ x, (getM (Z6G xs m).2 x).getD false = decide (x ∈ xs ∨ x ∈ seen))
 | [], m, seen, h => by simpa [Z6G] using h
 | x :: xs, m, seen, h => by
  unfold Z6G
  rw [h x]
  by_cases hx : x ∈ seen
  ·rw [decide_eq_true hx]
   simp only [if_true]
   refine ⟨?_, fun e => by cases e⟩
   have : ¬ ((x :: xs).Nodup ∧ ∀ y ∈ x :: xs, y ∉ seen) := fun hh => hh.2 x (by simp) hx
   simp only [decide_eq_false this, Bool.not_false]
  ·rw [if_neg (by simpa using hx)]
   have hm : ∀ y, (getM (putM m x true) y).getD false = decide (y ∈ x :: seen) := by
    intro y
    rw [ZvY]
    by_cases hy : y = x
    ·simp [hy]
    ·rw [if_neg hy, h y]; simp [hy]
   obtain ⟨h1, h2⟩ := Znx xs _ (x :: seen) hm
   refine ⟨?_, fun e y => ?_⟩
   ·rw [h1]
    congr 2
    apply propext
    simp only [List.nodup_cons, List.mem_cons, not_or, forall_eq_or_imp]
    constructor
    ·rintro ⟨a, b⟩
     exact ⟨⟨fun hh => (b x hh).1 rfl, a⟩, hx, fun y hy => (b y hy).2⟩
    ·rintro ⟨⟨a, b⟩, _, c⟩
     exact ⟨b, fun y hy => ⟨fun e => a (e ▸ hy), c y hy⟩⟩
   ·rw [h2 e y]
    congr 1
    apply propext
    simp only [List.mem_cons]
    constructor
    ·rintro (a | a | a)
     ·exact .inl (.inr a)
     ·exact .inl (.inl a)
     ·exact .inr a
    ·rintro ((a | a) | a)
     ·exact .inr (.inl a)
     ·exact .inl a
     ·exact .inr (.inr a)
namespace N2
theorem ZeP (L : List N2.Zw) (hl : L.length ≤ 1000000) : ∀ (d i : Nat), i + d = L.length → ∃ n, Z4o L (L.length : Int) (i : Int) = some n ∧ decide (0 ≤ n) = (L.drop i).any fun r => !okR r := by
 intro d
 induction d with
 | zero =>
  intro i h
  refine ⟨-1, ?_, by rw [List.drop_of_length_le (by omega)]; rfl⟩
  apply Z6y
  unfold Z3s
  rw [if_neg (by simp; omega)]
  rfl
 | succ d ih =>
  intro i h
  have hi : i < L.length := by omega
  rw [List.drop_eq_getElem_cons hi]
  obtain ⟨n, h1, h2⟩ := ih (i + 1) (by omega)
  cases hr : okR L[i] with
  | false =>
   refine ⟨i, ?_, by simp only [List.any_cons, hr]; simp⟩
   apply Z6y
   unfold Z3s
   rw [if_pos (by simp; omega)]
   unfold Z4i
   have h43 : Z73 L[i] = some true := ZcC _ (by unfold Z6X; simp [Zb8, hr])
   simp [Z30, List.getElem?_eq_getElem hi, h43]
  | true =>
   refine ⟨n, ?_, by simp only [List.any_cons, hr, h2]; simp⟩
   apply Z6y
   unfold Z3s
   rw [if_pos (by simp; omega)]
   unfold Z4i
   have h43 : Z73 L[i] = some false := ZcC _ (by unfold Z6X; simp [Zb8, hr])
   simp only [Z30, List.getElem?_eq_getElem hi, h43, Option.bind_some, Bool.false_eq_true, if_false, Z5q]
   rw [Zkt (by omega) (by omega), show ((i : Int) + 1) = ((i + 1 : Nat) : Int) by omega]
   exact h1
theorem Zk4 (L : List N2.Zw) (hl : L.length ≤ 1000000) : Z9S L = some (L.all okR) := by
 obtain ⟨n, h1, h2⟩ := ZeP L hl L.length 0 (by omega)
 apply ZkP
 have h52 : Z6n L = some n := ZfL _ (by unfold Z6j; exact h1)
 have h42 : Z5v L = some (decide (0 ≤ n)) := Zed _ (by unfold Z5n; rw [h52]; rfl)
 unfold Z9M
 rw [h42, h2]
 simp [List.all_eq_not_any_not]
theorem Z80 (n : Int) (m : List (Int × Bool)) : Z5W n m = some ((getM m n).getD false, putM m n true) := Zhu _ _ rfl
theorem Zb7 (r : N2.Zw) (m : List (Int × Bool)) : Z7w r m = some ((getM m r.ID).getD false, putM m r.ID true) := Zhv _ _ (by unfold Z7p; rw [Z80]; rfl)
theorem ZeQ (L : List N2.Zw) (hl : L.length ≤ 1000000) : ∀ (d i : Nat) (m : List (Int × Bool)), i + d = L.length →
  ∃ n, Z4p L (L.length : Int) (i : Int) m = some (n, (Z6G (ids (L.drop i)) m).2) ∧ decide (0 ≤ n) = (Z6G (ids (L.drop i)) m).1 := by
 intro d
 induction d with
 | zero =>
  intro i m h
  rw [List.drop_of_length_le (by omega)]
  refine ⟨-1, ?_, rfl⟩
  apply Z6z
  unfold Z3t
  rw [if_neg (by simp; omega)]
  rfl
 | succ d ih =>
  intro i m h
  have hi : i < L.length := by omega
  rw [List.drop_eq_getElem_cons hi]
  obtain ⟨n, h1, h2⟩ := ih (i + 1) (putM m L[i].ID true) (by omega)
  simp only [ids, List.map_cons, Z6G]
  by_cases hs : (getM m L[i].ID).getD false = true
  ·rw [if_pos hs]
   refine ⟨i, ?_, by simp⟩
   apply Z6z
   unfold Z3t
   rw [if_pos (by simp; omega)]
   unfold Z4j
   simp [Z30, List.getElem?_eq_getElem hi, Zb7, hs]
  ·rw [if_neg hs]
   refine ⟨n, ?_, h2⟩
   apply Z6z
   unfold Z3t
   rw [if_pos (by simp; omega)]
   unfold Z4j
   simp only [Z30, List.getElem?_eq_getElem hi, Zb7, Option.bind_some, if_neg hs, Z5r]
   rw [Zkt (by omega) (by omega), show ((i : Int) + 1) = ((i + 1 : Nat) : Int) by omega]
   exact h1
theorem Zfq (L : List Int) (hl : L.length ≤ 1000000) : ∀ (d i : Nat) (m : List (Int × Bool)), i + d = L.length →
  ∃ n, Z4w L (L.length : Int) (i : Int) m = some (n, (Z6G (L.drop i) m).2) ∧ decide (0 ≤ n) = (Z6G (L.drop i) m).1 := by
 intro d
 induction d with
 | zero =>
  intro i m h
  rw [List.drop_of_length_le (by omega)]
  refine ⟨-1, ?_, rfl⟩
  apply Z6N
  unfold Z3C
  rw [if_neg (by simp; omega)]
  rfl
 | succ d ih =>
  intro i m h
  have hi : i < L.length := by omega
  rw [List.drop_eq_getElem_cons hi]
  obtain ⟨n, h1, h2⟩ := ih (i + 1) (putM m L[i] true) (by omega)
  simp only [Z6G]
  by_cases hs : (getM m L[i]).getD false = true
  ·rw [if_pos hs]
   refine ⟨i, ?_, by simp⟩
   apply Z6N
   unfold Z3C
   rw [if_pos (by simp; omega)]
   unfold Z4v
   simp [Z30, List.getElem?_eq_getElem hi, Z80, hs]
  ·rw [if_neg hs]
   refine ⟨n, ?_, h2⟩
   apply Z6N
   unfold Z3C
   rw [if_pos (by simp; omega)]
   unfold Z4v
   simp only [Z30, List.getElem?_eq_getElem hi, Z80, Option.bind_some, if_neg hs, Z5G]
   rw [Zkt (by omega) (by omega), show ((i : Int) + 1) = ((i + 1 : Nat) : Int) by omega]
   exact h1
theorem ZkN (d : N2.ZU) (h1 : d.Put.length ≤ 1000000) (h2 : d.Drop.length ≤ 1000000) : Zak d = some (!decide (ids d.Put ++ d.Drop).Nodup) := by
 obtain ⟨n, e1, e2⟩ := ZeQ d.Put h1 d.Put.length 0 [] (by omega)
 have h52 : Z6o d.Put [] = some (n, (Z6G (ids d.Put) []).2) := ZfN _ _ (by unfold Z6k; exact e1)
 have h42 : Z5w d.Put [] = some ((Z6G (ids d.Put) []).1, (Z6G (ids d.Put) []).2) := Zef _ _ (by unfold Z5o; rw [h52]; simpa using e2)
 obtain ⟨k, f1, f2⟩ := Zfq d.Drop h2 d.Drop.length 0 (Z6G (ids d.Put) []).2 (by omega)
 have h53 : Z6F d.Drop (Z6G (ids d.Put) []).2 = some (k, (Z6G d.Drop (Z6G (ids d.Put) []).2).2) := Zg7 _ _ (by unfold Z6E; exact f1)
 have h46 : Z5K d.Drop (Z6G (ids d.Put) []).2 = some ((Z6G d.Drop (Z6G (ids d.Put) []).2).1, (Z6G d.Drop (Z6G (ids d.Put) []).2).2) := ZeL _ _ (by unfold Z5F; rw [h53]; simpa using f2)
 obtain ⟨s1, s2⟩ := Znx (ids d.Put) [] [] (by simp [getM])
 simp only [List.not_mem_nil, not_false_eq_true, implies_true, and_true, or_false] at s1 s2
 apply ZlF
 unfold Zac
 rw [h42]
 simp only [Option.bind_some]
 cases hs : (Z6G (ids d.Put) []).1 with
 | true =>
  have h : ¬ (ids d.Put).Nodup := fun h => by rw [hs, decide_eq_true h] at s1; cases s1
  have : ¬ (ids d.Put ++ d.Drop).Nodup := fun h' => h (List.nodup_append.1 h').1
  rw [decide_eq_false this]
  rfl
 | false =>
  have hn : (ids d.Put).Nodup := by
   rw [hs] at s1
   simpa using s1
  rw [h46]
  obtain ⟨t1, _⟩ := Znx d.Drop _ (ids d.Put) (s2 hs)
  simp only [Bool.false_eq_true, if_false, Option.bind_some, t1]
  congr 3
  apply propext
  rw [List.nodup_append]
  constructor
  ·rintro ⟨a, b⟩
   exact ⟨hn, a, fun x hx y hy e => b y hy (e ▸ hx)⟩
  ·rintro ⟨_, a, b⟩
   exact ⟨a, fun x hx h => b x h x hx rfl⟩
end N2
end Go.Proofs.YteoeggbihfnbfaaGreatDoor
end
section
set_option linter.unusedSimpArgs false
set_option linter.unusedVariables false
namespace Go.Proofs.YteoeggbihfnbfaaGreatDoor
open Go Go.Abs
abbrev MR := List (Int × N2.Zw)
def zR : N2.Zw := N2.Zw.mk 0 0 0 0 (ByteArray.mk #[])
def zS : N2.ZC := N2.ZC.mk 0 0 0 0 []
def mput (m : MR) (l : List N2.Zw) : MR := l.foldl (fun m r => putM m r.ID r) m
def ZeC : List Int → MR → Option MR
 | [], m => some m
 | i :: l, m => if (getM m i).isSome = true then ZeC l (delM m i) else none
def ZeB (m : MR) : List Int := (m.map (·.1)).mergeSort (fun a b => decide (a ≤ b))
def orI (a b : Int) : Int := if a = -1 then b else a
def okK (m : MR) : Prop := ∀ q ∈ m, 1 ≤ q.1 ∧ q.1 ≤ 1099511627776
theorem ZFz {m : MR} (h : okK m) {n : Int} (y : N2.Zw) (hn : 1 ≤ n ∧ n ≤ 1099511627776) : okK (putM m n y) := by
 induction m with
 | nil => intro q hq; simp [putM] at hq; subst hq; exact hn
 | cons p r ih =>
  rw [putM]
  have hr : okK r := fun q hq => h q (by simp [hq])
  split
  ·intro q hq
   rcases List.mem_cons.1 hq with rfl | hq
   ·exact hn
   ·exact hr q hq
  ·intro q hq
   rcases List.mem_cons.1 hq with rfl | hq
   ·exact h _ (by simp)
   ·exact ih hr q hq
theorem ZFy {m : MR} (h : okK m) (n : Int) : okK (delM m n) := by
 induction m with
 | nil => exact h
 | cons p r ih =>
  have hr : okK r := fun q hq => h q (by simp [hq])
  rw [delM]
  split
  ·exact hr
  ·intro q hq
   rcases List.mem_cons.1 hq with rfl | hq
   ·exact h _ (by simp)
   ·exact ih hr q hq
theorem ZC6 {r : N2.Zw} (h : okR r = true) : 1 ≤ r.ID ∧ r.ID ≤ 1099511627776 := by
 unfold okR at h
 simp only [decide_eq_true_eq] at h
 omega
theorem ZqL : ∀ {l : List N2.Zw} {m : MR}, okK m → l.all okR = true → okK (mput m l)
 | [], _, h, _ => h
 | r :: l, m, h, hl => by
  simp only [List.all_cons, Bool.and_eq_true] at hl
  exact ZqL (l := l) (ZFz h r (ZC6 hl.1)) hl.2
theorem Zw9 : ∀ {l : List Int} {m m' : MR}, okK m → ZeC l m = some m' → okK m'
 | [], m, m', h, e => by simp [ZeC] at e; subst e; exact h
 | i :: l, m, m', h, e => by
  unfold ZeC at e
  split at e
  ·exact Zw9 (ZFy h i) e
  ·simp at e
theorem Zxz : ∀ {l : List N2.Zw} {n : Int}, asc n l = true → l.all okR = true
 | [], n, _ => rfl
 | r :: l, n, h => by
  simp only [asc, Bool.and_eq_true] at h
  simp [h.1.1, Zxz h.2]
theorem ZFA {s : N2.ZC} (h : okS s = true) : s.Rules.all okR = true := by
 unfold okS at h
 simp only [Bool.and_eq_true] at h
 exact Zxz h.2
namespace N2
theorem Zpz (a b : Int) : Zey a b = some (orI a b) := Zqv _ _ (by unfold Zes orI; by_cases h : a = -1 <;> simp [h])
theorem ZlO (a b : Int) : ZaN a b = some (orI a b) := Zn6 _ _ (by unfold ZaE orI; by_cases h : a = -1 <;> simp [h])
theorem ZlM (a b : Int) : ZaM a b = some (orI a b) := Zn4 _ _ (by unfold ZaD orI; by_cases h : a = -1 <;> simp [h])
theorem ZlK (a b : Int) : ZaL a b = some (orI a b) := Zn2 _ _ (by unfold ZaC orI; by_cases h : a = -1 <;> simp [h])
theorem Zjk : Z94 = some () := ZjN rfl
theorem ZA8 (m : MR) : keysOf (m.map (encM ZD)) = ZeB m := by
 unfold keysOf ZeB
 rw [List.map_map]
 rfl
theorem ZhB (m : MR) (h : m.length ≤ 1048576) (hk : okK m) : Z9W m = some (ZeB m) := by
 apply Z1a (fun _ _ ha hb => RRun.uniq (Zia m) ha hb)
 have e : EE 52 [(.clo 78 [] [(.ptr 0 0)])] [[(.mp 1)], [(.md (m.map (encM ZD)))]] = some ((.p (.lst .sh ((ZeB m).map (eI .i64)))), [[(.mp 1)], [(.md (m.map (encM ZD)))]]) := by
  rw [show EE 52 = E PP XX HH 52 from rfl, Zus (P := PP) (X := XX) (H := HH) (f := 52) (m := Zmc) (by kernel_rfl)]
  have : Zmc [(.clo 78 [] [(.ptr 0 0)])] [[(.mp 1)], [(.md (m.map (encM ZD)))]] = if (m.map (encM ZD)).length ≤ 1048576 ∧ (∀ q ∈ m.map (encM ZD), -9223372036854775808 ≤ q.1 ∧ q.1 ≤ 9223372036854775807) then some (.p (.lst .sh ((keysOf (m.map (encM ZD))).map fun n => .v (.int .i64 n))), [[(.mp 1)], [(.md (m.map (encM ZD)))]]) else none := rfl
  have hr : ∀ q ∈ m.map (encM ZD), -9223372036854775808 ≤ q.1 ∧ q.1 ≤ 9223372036854775807 := by
   intro q hq
   obtain ⟨p, hp, rfl⟩ := List.mem_map.1 hq
   have := hk p hp
   show -9223372036854775808 ≤ p.1 ∧ p.1 ≤ 9223372036854775807
   omega
  rw [this, if_pos ⟨by simpa using h, hr⟩, ZA8]
  rfl
 exact ⟨_, e, [], by simp⟩
theorem ZmF (d : N2.ZU) (n1 n2 n3 n4 : Int) (L : List N2.Zw) (hl : L.length ≤ 1000000) {r : N2.ZC × Int} : ∀ (k i : Nat) (m : MR), i + k = L.length →
  Z9o d n1 n2 n3 n4 (mput m (L.drop i)) = some r → Z9v L (L.length : Int) (i : Int) d n1 n2 n3 n4 m = some r := by
 intro k
 induction k with
 | zero =>
  intro i m h hr
  rw [List.drop_of_length_le (by omega)] at hr
  apply Zga
  unfold Z9k
  rw [if_neg (by simp; omega)]
  exact hr
 | succ k ih =>
  intro i m h hr
  have hi : i < L.length := by omega
  rw [List.drop_eq_getElem_cons hi] at hr
  apply Zga
  unfold Z9k
  rw [if_pos (by simp; omega)]
  unfold Zbn
  rw [Z30, List.getElem?_eq_getElem hi, Zkt (by omega) (by omega), show ((i : Int) + 1) = ((i + 1 : Nat) : Int) by omega]
  exact ih (i + 1) _ (by omega) hr
theorem ZmJ (n1 n2 n3 n4 : Int) (L : List N2.Zw) (hl : L.length ≤ 1000000) {r : N2.ZC × Int} : ∀ (k i : Nat) (m : MR), i + k = L.length →
  Z9q n1 n2 n3 n4 (mput m (L.drop i)) = some r → Z9x L (L.length : Int) (i : Int) n1 n2 n3 n4 m = some r := by
 intro k
 induction k with
 | zero =>
  intro i m h hr
  rw [List.drop_of_length_le (by omega)] at hr
  apply Zge
  unfold Z9m
  rw [if_neg (by simp; omega)]
  exact hr
 | succ k ih =>
  intro i m h hr
  have hi : i < L.length := by omega
  rw [List.drop_eq_getElem_cons hi] at hr
  apply Zge
  unfold Z9m
  rw [if_pos (by simp; omega)]
  unfold Zbr
  rw [Z30, List.getElem?_eq_getElem hi, Zkt (by omega) (by omega), show ((i : Int) + 1) = ((i + 1 : Nat) : Int) by omega]
  exact ih (i + 1) _ (by omega) hr
theorem ZmH (d : N2.ZU) (n1 n2 n3 n4 : Int) (L : List Int) (hl : L.length ≤ 1000000) {r : N2.ZC × Int} : ∀ (k i : Nat) (m : MR), i + k = L.length →
  (match ZeC (L.drop i) m with | some m => Z9p d n1 n2 n3 n4 m | none => some (zS, 32)) = some r → Z9w L (L.length : Int) (i : Int) d n1 n2 n3 n4 m = some r := by
 intro k
 induction k with
 | zero =>
  intro i m h hr
  rw [List.drop_of_length_le (by omega)] at hr
  apply Zgc
  unfold Z9l
  rw [if_neg (by simp; omega)]
  exact hr
 | succ k ih =>
  intro i m h hr
  have hi : i < L.length := by omega
  rw [List.drop_eq_getElem_cons hi] at hr
  apply Zgc
  unfold Z9l
  rw [if_pos (by simp; omega)]
  unfold Zbo
  rw [Z30, List.getElem?_eq_getElem hi]
  simp only [Option.bind_some, Zbp, Zbq]
  unfold ZeC at hr
  cases hg : (getM m L[i]).isSome with
  | false => rw [hg] at hr; exact hr
  | true =>
   rw [hg] at hr
   simp only [if_true] at hr
   simp only [Bool.not_true, Bool.false_eq_true, if_false]
   rw [Zkt (by omega) (by omega), show ((i : Int) + 1) = ((i + 1 : Nat) : Int) by omega]
   exact ih (i + 1) _ (by omega) hr
theorem ZDb {α : Type} (l : List α) (a : α) (h : l.length ≤ 1000000000) : lapp l [a] = some (l ++ [a]) := by
 unfold lapp
 rw [if_pos (by simp [lim]; omega)]
theorem ZmL (n1 n2 n3 n4 : Int) (m : MR) (K : List Int) (hl : K.length ≤ 1000000) : ∀ (k i : Nat) (out : List N2.Zw), i + k = K.length → out.length ≤ i →
  Z9y K (K.length : Int) (i : Int) n1 n2 n3 n4 out m = some (⟨n1, n2, n3, n4, out ++ (K.drop i).map fun n => (getM m n).getD zR⟩, 0) := by
 intro k
 induction k with
 | zero =>
  intro i out h ho
  rw [List.drop_of_length_le (by omega)]
  apply Zgg
  unfold Z9n
  rw [if_neg (by simp; omega)]
  simp [Zbu]
 | succ k ih =>
  intro i out h ho
  have hi : i < K.length := by omega
  rw [List.drop_eq_getElem_cons hi]
  apply Zgg
  unfold Z9n
  rw [if_pos (by simp; omega)]
  unfold Zbt
  rw [Z30, List.getElem?_eq_getElem hi]
  simp only [Option.bind_some]
  rw [ZDb _ _ (by omega)]
  simp only [Option.bind_some]
  rw [Zkt (by omega) (by omega), show ((i : Int) + 1) = ((i + 1 : Nat) : Int) by omega, ih (i + 1) _ (by omega) (by simp; omega), List.map_cons, List.append_assoc, List.singleton_append]
  rfl
def applyM (s : N2.ZC) (d : N2.ZU) : N2.ZC × Int :=
 if okS s = false then (zS, 10) else
 if okN (orI d.Default s.Default) (orI d.Closed s.Closed) (orI d.Fuel s.Fuel) (orI d.Stack s.Stack) = false ∨ d.Put.all okR = false then (zS, 30) else
 if ¬ (ids d.Put ++ d.Drop).Nodup then (zS, 31) else
 match ZeC d.Drop (mput [] s.Rules) with
 | none => (zS, 32)
 | some m =>
  if 16 < (mput m d.Put).length then (zS, 33) else
  (⟨orI d.Default s.Default, orI d.Closed s.Closed, orI d.Fuel s.Fuel, orI d.Stack s.Stack, (ZeB (mput m d.Put)).map fun n => (getM (mput m d.Put) n).getD zR⟩, 0)
theorem okS_len {s : N2.ZC} (h : okS s = true) : s.Rules.length ≤ 16 := by
 unfold okS at h
 simp only [Bool.and_eq_true, decide_eq_true_eq] at h
 exact h.1.2
theorem ZBV (m : MR) : (ZeB m).length = m.length := by unfold ZeB; simp
theorem g_rule_Apply_val (s : N2.ZC) (d : N2.ZU) (h1 : d.Put.length ≤ 1000000) (h2 : d.Drop.length ≤ 1000000) : ZcA s d = some (applyM s d) := by
 apply Zry
 unfold Zfx applyM
 rw [ZbF]
 simp only [Option.bind_some]
 cases hs : okS s with
 | false => rfl
 | true =>
  have hlen := okS_len hs
  simp only [Bool.not_true, Bool.false_eq_true, if_false, Bool.true_eq_false]
  unfold Zc8
  simp only [Zpz, ZlO, ZlM, ZlK, Zdx, Option.bind_some, Zk4 _ h1, Zab]
  cases hn : okN (orI d.Default s.Default) (orI d.Closed s.Closed) (orI d.Fuel s.Fuel) (orI d.Stack s.Stack) with
  | false => rfl
  | true =>
   simp only [Bool.not_true, Bool.false_eq_true, if_false, Bool.true_eq_false, false_or]
   cases hp : d.Put.all okR with
   | false => rfl
   | true =>
    simp only [Bool.not_true, Bool.false_eq_true, if_false, Bool.true_eq_false]
    unfold Zbl
    rw [ZkN d h1 h2]
    simp only [Option.bind_some]
    by_cases ht : (ids d.Put ++ d.Drop).Nodup
    ·simp only [decide_eq_true ht, Bool.not_true, Bool.false_eq_true, if_false, ht, not_true]
     unfold Zbm
     refine ZmF d _ _ _ _ s.Rules (by omega) s.Rules.length 0 [] (by omega) ?_
     unfold Z9o
     refine ZmH d _ _ _ _ d.Drop h2 d.Drop.length 0 _ (by omega) ?_
     simp only [List.drop_zero]
     cases hm : ZeC d.Drop (mput [] s.Rules) with
     | none => rfl
     | some m =>
      simp only
      unfold Z9p
      refine ZmJ _ _ _ _ d.Put h1 d.Put.length 0 _ (by omega) ?_
      simp only [List.drop_zero]
      unfold Z9q
      by_cases hc : 16 < (mput m d.Put).length
      ·rw [if_pos (by simp; omega), if_pos hc]; rfl
      ·rw [if_neg (by simp; omega), if_neg hc]
       unfold Zbs
       rw [Zjk, ZhB _ (by omega) (ZqL (Zw9 (ZqL (m := []) (fun q hq => by simp at hq) (ZFA hs)) hm) hp)]
       simp only [Option.bind_some]
       have hk : (ZeB (mput m d.Put)).length ≤ 1000000 := by rw [ZBV]; omega
       have := ZmL (orI d.Default s.Default) (orI d.Closed s.Closed) (orI d.Fuel s.Fuel) (orI d.Stack s.Stack) (mput m d.Put) (ZeB (mput m d.Put)) hk (ZeB (mput m d.Put)).length 0 [] (by omega) (by simp)
       simpa using this
    ·simp only [decide_eq_false ht, Bool.not_false, if_true, ht, not_false_eq_true]
     rfl
end N2
end Go.Proofs.YteoeggbihfnbfaaGreatDoor
end
section
set_option linter.unusedSimpArgs false
set_option linter.unusedVariables false
namespace Go.Proofs.YteoeggbihfnbfaaGreatDoor
open Go Go.Abs
def getL (l : List N2.Zw) (n : Int) : Option N2.Zw := l.find? fun r => r.ID == n
def putL : List N2.Zw → N2.Zw → List N2.Zw
 | [], r => [r]
 | x :: t, r => if x.ID < r.ID then x :: putL t r else r :: (x :: t).filter fun y => y.ID != r.ID
abbrev Z9f (l : List N2.Zw) : Prop := l.Pairwise fun a b => a.ID < b.ID
theorem Z9c (x : N2.Zw) (t : List N2.Zw) (n : Int) : getL (x :: t) n = if x.ID = n then some x else getL t n := by
 unfold getL
 rw [List.find?_cons]
 by_cases h : x.ID = n
 ·simp [h]
 ·have : (x.ID == n) = false := by simpa using h
  rw [this, if_neg h]
theorem ZlV (l : List N2.Zw) (k n : Int) : getL (l.filter fun y => y.ID != k) n = if n = k then none else getL l n := by
 induction l with
 | nil => simp [getL]
 | cons x t ih =>
  by_cases hx : x.ID = k
  ·rw [List.filter_cons_of_neg (by simp [hx]), ih, Z9c]
   by_cases hn : n = k
   ·rw [if_pos hn, if_pos hn]
   ·rw [if_neg hn, if_neg hn, if_neg (fun e => hn (by rw [← e, hx]))]
  ·rw [List.filter_cons_of_pos (by simp [hx]), Z9c, ih, Z9c]
   by_cases hn : n = k
   ·rw [if_pos hn, if_pos hn, if_neg (fun e => hx (e.trans hn))]
   ·rw [if_neg hn, if_neg hn]
theorem ZBQ (l : List N2.Zw) (r : N2.Zw) (n : Int) : getL (putL l r) n = if n = r.ID then some r else getL l n := by
 induction l with
 | nil =>
  rw [putL, Z9c]
  by_cases h : r.ID = n
  ·rw [if_pos h, if_pos h.symm]
  ·rw [if_neg h, if_neg fun e => h e.symm]
 | cons x t ih =>
  rw [putL]
  split
  ·rename_i hx
   rw [Z9c, ih, Z9c]
   by_cases hn : n = r.ID
   ·rw [if_pos hn, if_pos hn, if_neg (by omega)]
   ·rw [if_neg hn, if_neg hn]
  ·rw [Z9c, ZlV]
   by_cases hn : n = r.ID
   ·rw [if_pos hn.symm, if_pos hn]
   ·rw [if_neg (fun e => hn e.symm), if_neg hn, if_neg hn]
theorem Zw5 {l : List N2.Zw} {r y : N2.Zw} (h : y ∈ putL l r) : y = r ∨ y ∈ l := by
 induction l with
 | nil => rw [putL] at h; simpa using h
 | cons x t ih =>
  rw [putL] at h
  split at h
  ·rcases List.mem_cons.1 h with rfl | h
   ·exact .inr (by simp)
   ·rcases ih h with h | h
    ·exact .inl h
    ·exact .inr (by simp [h])
  ·rcases List.mem_cons.1 h with h | h
   ·exact .inl h
   ·exact .inr (List.mem_filter.1 h).1
theorem ZpX {l : List N2.Zw} (h : Z9f l) (r : N2.Zw) : Z9f (putL l r) := by
 induction l with
 | nil => simp [putL, Z9f]
 | cons x t ih =>
  obtain ⟨h1, h2⟩ := List.pairwise_cons.1 h
  rw [putL]
  split
  ·rename_i hx
   refine List.pairwise_cons.2 ⟨fun y hy => ?_, ih h2⟩
   rcases Zw5 hy with rfl | hy
   ·exact hx
   ·exact h1 y hy
  ·rename_i hx
   refine List.pairwise_cons.2 ⟨fun y hy => ?_, h.filter _⟩
   obtain ⟨hy, hn⟩ := List.mem_filter.1 hy
   have hn : y.ID ≠ r.ID := by simpa using hn
   rcases List.mem_cons.1 hy with rfl | hy
   ·omega
   ·have := h1 y hy; omega
structure RelM (m : MR) (l : List N2.Zw) : Prop where
 nodup : (m.map (·.1)).Nodup
 sorted : Z9f l
 get : ∀ n, getM m n = getL l n
theorem ZD9 (m : MR) (n : Int) (y : N2.Zw) : ∀ k, k ∈ (putM m n y).map (·.1) ↔ k = n ∨ k ∈ m.map (·.1) := by
 intro k
 induction m with
 | nil => simp [putM]
 | cons q r ih =>
  rw [putM]
  split
  ·rename_i h
   simp [h]
  ·simp only [List.map_cons, List.mem_cons, ih]
   constructor
   ·rintro (a | a | a)
    ·exact .inr (.inl a)
    ·exact .inl a
    ·exact .inr (.inr a)
   ·rintro (a | a | a)
    ·exact .inr (.inl a)
    ·exact .inl a
    ·exact .inr (.inr a)
theorem ZBZ {m : MR} (h : (m.map (·.1)).Nodup) (n : Int) (y : N2.Zw) : ((putM m n y).map (·.1)).Nodup := by
 induction m with
 | nil => simp [putM]
 | cons q r ih =>
  simp only [List.map_cons, List.nodup_cons] at h
  rw [putM]
  split
  ·rename_i hq
   simp only [List.map_cons, List.nodup_cons]
   exact ⟨hq ▸ h.1, h.2⟩
  ·rename_i hq
   simp only [List.map_cons, List.nodup_cons]
   refine ⟨fun hk => ?_, ih h.2⟩
   rcases (ZD9 r n y q.1).1 hk with e | e
   ·exact hq e
   ·exact h.1 e
theorem ZBR {m : MR} {n : Int} (h : n ∉ m.map (·.1)) : getM m n = none := by
 induction m with
 | nil => rfl
 | cons q r ih =>
  simp only [List.map_cons, List.mem_cons, not_or] at h
  rw [getM, if_neg (fun e => h.1 e.symm)]
  exact ih h.2
theorem ZD4 {m : MR} {n : Int} : (getM m n).isSome = true ↔ n ∈ m.map (·.1) := by
 induction m with
 | nil => simp [getM]
 | cons q r ih =>
  rw [getM]
  split
  ·rename_i h; simp [h]
  ·rename_i h
   rw [ih, List.map_cons, List.mem_cons]
   exact ⟨.inr, fun hh => hh.resolve_left fun e => h e.symm⟩
theorem ZDV (m : MR) (n : Int) : (delM m n).Sublist m := by
 induction m with
 | nil => exact .slnil
 | cons q r ih =>
  rw [delM]
  split
  ·exact List.sublist_cons_self _ _
  ·exact ih.cons_cons _
theorem ZD3 {m : MR} (h : (m.map (·.1)).Nodup) (n k : Int) : getM (delM m n) k = if k = n then none else getM m k := by
 induction m with
 | nil => simp [delM, getM]
 | cons q r ih =>
  simp only [List.map_cons, List.nodup_cons] at h
  rw [delM]
  split
  ·rename_i hq
   by_cases hk : k = n
   ·rw [if_pos hk]; exact ZBR (by rw [hk, ← hq]; exact h.1)
   ·rw [if_neg hk, getM, if_neg (by rw [hq]; exact fun e => hk e.symm)]
  ·rename_i hq
   rw [getM, ih h.2, getM]
   by_cases hk : k = n
   ·rw [if_pos hk, if_pos hk, if_neg (fun e => hq (e.trans hk))]
   ·rw [if_neg hk, if_neg hk]
theorem RelM.nil : RelM [] [] := ⟨by simp, by simp [Z9f], fun _ => rfl⟩
theorem RelM.put {m : MR} {l : List N2.Zw} (h : RelM m l) (r : N2.Zw) : RelM (putM m r.ID r) (putL l r) :=
 ⟨ZBZ h.nodup _ _, ZpX h.sorted r, fun n => by rw [ZvY, ZBQ, h.get]⟩
theorem RelM.del {m : MR} {l : List N2.Zw} (h : RelM m l) (n : Int) : RelM (delM m n) (l.filter fun y => y.ID != n) :=
 ⟨h.nodup.sublist ((ZDV m n).map _), h.sorted.filter _, fun k => by rw [ZD3 h.nodup, ZlV, h.get]⟩
theorem RelM.mput {m : MR} {l : List N2.Zw} (h : RelM m l) : ∀ (L : List N2.Zw), RelM (mput m L) (L.foldl putL l)
 | [] => h
 | r :: L => RelM.mput (h.put r) L
theorem ZqE {l : List N2.Zw} {n : Int} : (getL l n).isSome = true ↔ n ∈ ids l := by
 induction l with
 | nil => simp [getL, ids]
 | cons x t ih =>
  rw [Z9c]
  split
  ·rename_i h; simp [ids, h]
  ·rename_i h
   rw [ih]
   unfold ids
   rw [List.map_cons, List.mem_cons]
   exact ⟨.inr, fun hh => hh.resolve_left fun e => h e.symm⟩
theorem Zwv {l : List N2.Zw} (h : Z9f l) : (ids l).Nodup := by
 unfold ids
 rw [List.nodup_iff_pairwise_ne, List.pairwise_map]
 exact h.imp fun h => by omega
theorem RelM.perm {m : MR} {l : List N2.Zw} (h : RelM m l) : (m.map (·.1)).Perm (ids l) := by
 rw [List.perm_ext_iff_of_nodup h.nodup (Zwv h.sorted)]
 intro n
 rw [← ZD4, h.get, ZqE]
theorem RelM.length {m : MR} {l : List N2.Zw} (h : RelM m l) : m.length = l.length := by
 have := h.perm.length_eq
 simpa [ids] using this
theorem RelM.keys {m : MR} {l : List N2.Zw} (h : RelM m l) : ZeB m = ids l := by
 refine List.Perm.eq_of_pairwise (le := fun a b => a ≤ b) (fun a b _ _ h1 h2 => by omega) ?_ ?_ ((List.mergeSort_perm _ _).trans h.perm)
 ·have := List.pairwise_mergeSort (le := fun a b : Int => decide (a ≤ b)) (fun a b c h1 h2 => by simp at *; omega) (fun a b => by simp; omega) (m.map (·.1))
  exact this.imp fun h => by simpa using h
 ·unfold ids
  rw [List.pairwise_map]
  exact h.sorted.imp fun h => by omega
theorem Zu6 {l : List N2.Zw} (h : Z9f l) : ∀ r ∈ l, getL l r.ID = some r := by
 induction l with
 | nil => simp
 | cons x t ih =>
  obtain ⟨h1, h2⟩ := List.pairwise_cons.1 h
  intro r hr
  rw [Z9c]
  rcases List.mem_cons.1 hr with rfl | hr
  ·simp
  ·rw [if_neg (by have := h1 r hr; omega)]
   exact ih h2 r hr
theorem RelM.vals {m : MR} {l : List N2.Zw} (h : RelM m l) : ((ZeB m).map fun n => (getM m n).getD zR) = l := by
 rw [h.keys]
 unfold ids
 rw [List.map_map]
 conv => rhs; rw [← List.map_id l]
 apply List.map_congr_left
 intro r hr
 simp [h.get, Zu6 h.sorted r hr]
theorem Zu9 : ∀ (D : List Int) {m : MR} {l : List N2.Zw}, RelM m l → D.Nodup →
  (match ZeC D m with | none => ¬ ∀ n ∈ D, n ∈ ids l | some m' => (∀ n ∈ D, n ∈ ids l) ∧ RelM m' (l.filter fun y => !D.contains y.ID))
 | [], m, l, h, _ => ⟨by simp, by rw [List.filter_eq_self.2 (by simp)]; exact h⟩
 | i :: D, m, l, h, hn => by
  obtain ⟨h1, h2⟩ := List.nodup_cons.1 hn
  unfold ZeC
  by_cases hi : (getM m i).isSome = true
  ·rw [if_pos hi]
   have ih := Zu9 D (h.del i) h2
   have hm : i ∈ ids l := by rw [h.get, ZqE] at hi; exact hi
   have hk : (∀ n ∈ D, n ∈ ids (l.filter fun y => y.ID != i)) ↔ ∀ n ∈ D, n ∈ ids l := by
    constructor
    ·intro hh n hd
     have := hh n hd
     unfold ids at *
     obtain ⟨y, hy, e⟩ := List.mem_map.1 this
     exact List.mem_map.2 ⟨y, (List.mem_filter.1 hy).1, e⟩
    ·intro hh n hd
     have := hh n hd
     unfold ids at *
     obtain ⟨y, hy, e⟩ := List.mem_map.1 this
     refine List.mem_map.2 ⟨y, List.mem_filter.2 ⟨hy, ?_⟩, e⟩
     have : n ≠ i := fun e => h1 (e ▸ hd)
     simp only [bne_iff_ne, ne_eq, e]
     exact this
   cases hd : ZeC D (delM m i) with
   | none =>
    rw [hd] at ih
    intro hh
    exact ih (hk.2 fun n hn => hh n (by simp [hn]))
   | some m' =>
    rw [hd] at ih
    refine ⟨fun n hn => ?_, ?_⟩
    ·rcases List.mem_cons.1 hn with rfl | hn
     ·exact hm
     ·exact hk.1 ih.1 n hn
    ·have := ih.2
     rw [List.filter_filter] at this
     have e : (l.filter fun y => !(i :: D).contains y.ID) = l.filter fun a => (!D.contains a.ID) && (a.ID != i) := by
      apply List.filter_congr
      intro y _
      rw [List.contains_cons, Bool.not_or, Bool.and_comm]
      rfl
     rw [e]
     exact this
  ·rw [if_neg hi]
   intro hh
   apply hi
   rw [h.get, ZqE]
   exact hh i (by simp)
theorem Zr2 : ∀ {l : List N2.Zw} {n : Int}, asc n l = true → Z9f l ∧ (∀ r ∈ l, n < r.ID) ∧ l.all okR = true
 | [], n, _ => ⟨.nil, by simp, rfl⟩
 | r :: l, n, h => by
  simp only [asc, Bool.and_eq_true, decide_eq_true_eq] at h
  obtain ⟨⟨h1, h2⟩, h3⟩ := h
  obtain ⟨a, b, c⟩ := Zr2 h3
  refine ⟨List.pairwise_cons.2 ⟨b, a⟩, ?_, by simp [h1, c]⟩
  intro x hx
  rcases List.mem_cons.1 hx with rfl | hx
  ·exact h2
  ·have := b x hx; omega
theorem ZAD : ∀ {l : List N2.Zw} {n : Int}, Z9f l → (∀ r ∈ l, n < r.ID) → l.all okR = true → asc n l = true
 | [], n, _, _, _ => rfl
 | r :: l, n, h1, h2, h3 => by
  obtain ⟨a, b⟩ := List.pairwise_cons.1 h1
  simp only [List.all_cons, Bool.and_eq_true] at h3
  simp only [asc, Bool.and_eq_true, decide_eq_true_eq]
  exact ⟨⟨h3.1, h2 r (by simp)⟩, ZAD b a h3.2⟩
theorem ZCo {l : List N2.Zw} {r : N2.Zw} (h : ∀ x ∈ l, x.ID < r.ID) : putL l r = l ++ [r] := by
 induction l with
 | nil => rfl
 | cons x t ih => rw [putL, if_pos (h x (by simp)), ih fun y hy => h y (by simp [hy])]; rfl
theorem Zu4 : ∀ {L l : List N2.Zw}, Z9f (l ++ L) → L.foldl putL l = l ++ L
 | [], l, _ => by simp
 | r :: L, l, h => by
  rw [List.foldl_cons, ZCo, Zu4]
  ·simp
  ·simpa using h
  ·intro x hx
   exact (List.pairwise_append.1 h).2.2 x hx r (by simp)
def ZdZ (s : N2.ZC) (d : N2.ZU) : N2.ZC × Int :=
 if okS s = false then (zS, 10) else
 if okN (orI d.Default s.Default) (orI d.Closed s.Closed) (orI d.Fuel s.Fuel) (orI d.Stack s.Stack) = false ∨ d.Put.all okR = false then (zS, 30) else
 if ¬ (ids d.Put ++ d.Drop).Nodup then (zS, 31) else
 if ¬ ∀ n ∈ d.Drop, n ∈ ids s.Rules then (zS, 32) else
 if 16 < (d.Put.foldl putL (s.Rules.filter fun y => !d.Drop.contains y.ID)).length then (zS, 33) else
 (⟨orI d.Default s.Default, orI d.Closed s.Closed, orI d.Fuel s.Fuel, orI d.Stack s.Stack, d.Put.foldl putL (s.Rules.filter fun y => !d.Drop.contains y.ID)⟩, 0)
theorem ZiD {s : N2.ZC} (h : okS s = true) : Z9f s.Rules ∧ (∀ r ∈ s.Rules, 0 < r.ID) ∧ s.Rules.all okR = true := by
 unfold okS at h
 simp only [Bool.and_eq_true] at h
 exact Zr2 h.2
theorem ZAB (s : N2.ZC) (d : N2.ZU) : N2.applyM s d = ZdZ s d := by
 unfold N2.applyM ZdZ
 by_cases hs : okS s = false
 ·rw [if_pos hs, if_pos hs]
 rw [if_neg hs, if_neg hs]
 by_cases hn : okN (orI d.Default s.Default) (orI d.Closed s.Closed) (orI d.Fuel s.Fuel) (orI d.Stack s.Stack) = false ∨ d.Put.all okR = false
 ·rw [if_pos hn, if_pos hn]
 rw [if_neg hn, if_neg hn]
 by_cases ht : ¬ (ids d.Put ++ d.Drop).Nodup
 ·rw [if_pos ht, if_pos ht]
 rw [if_neg ht, if_neg ht]
 have hd : d.Drop.Nodup := (List.nodup_append.1 (Classical.not_not.1 ht)).2.1
 obtain ⟨o1, _, _⟩ := ZiD (by simpa using hs)
 have hr : RelM (mput [] s.Rules) s.Rules := by
  have := RelM.nil.mput s.Rules
  rw [Zu4 (by simpa using o1)] at this
  simpa using this
 have := Zu9 d.Drop hr hd
 cases hm : ZeC d.Drop (mput [] s.Rules) with
 | none =>
  rw [hm] at this
  rw [if_pos this]
 | some m =>
  rw [hm] at this
  rw [if_neg (fun h => h this.1)]
  have hp := this.2.mput d.Put
  simp only
  rw [hp.length, hp.vals]
theorem ZAC (s : N2.ZC) (d : N2.ZU) (h1 : d.Put.length ≤ 1000000) (h2 : d.Drop.length ≤ 1000000) : N2.ZcA s d = some (ZdZ s d) := by
 rw [N2.g_rule_Apply_val s d h1 h2, ZAB]
end Go.Proofs.YteoeggbihfnbfaaGreatDoor
end
section
set_option linter.unusedSimpArgs false
set_option linter.unusedVariables false
namespace Go.Proofs.YteoeggbihfnbfaaGreatDoor
open Go Go.Abs
theorem Zws {a b : ByteArray} : seq a b = true ↔ a = b := by
 unfold seq
 rw [beq_iff_eq, ByteArray.toList_eq, ByteArray.toList_eq]
 obtain ⟨⟨x⟩⟩ := a
 obtain ⟨⟨y⟩⟩ := b
 simp
namespace N2
end N2
namespace N2
end N2
namespace N2
end N2
namespace N2
end N2
theorem ZpW {l : List N2.Zw} (h : Z9f l) : ∀ (P : List N2.Zw), Z9f (P.foldl putL l)
 | [] => h
 | r :: P => ZpW (ZpX h r) P
theorem ZCA {l : List N2.Zw} {r : N2.Zw} (h : l.all okR = true) (hr : okR r = true) : (putL l r).all okR = true := by
 rw [List.all_eq_true] at *
 intro y hy
 rcases Zw5 hy with rfl | hy
 ·exact hr
 ·exact h y hy
theorem ZuC {l : List N2.Zw} (h : l.all okR = true) : ∀ {P : List N2.Zw}, P.all okR = true → (P.foldl putL l).all okR = true
 | [], _ => h
 | r :: P, hp => by
  simp only [List.all_cons, Bool.and_eq_true] at hp
  exact ZuC (l := putL l r) (ZCA h hp.1) (P := P) hp.2
theorem ZHc {a b c d : Int} {l : List N2.Zw} (hn : okN a b c d = true) (hl : l.length ≤ 16) (hs : Z9f l) (ha : l.all okR = true) : okS ⟨a, b, c, d, l⟩ = true := by
 unfold okS
 simp only [hn, hl, decide_true, Bool.and_self, Bool.true_and]
 refine ZAD hs (fun r hr => ?_) ha
 have := ZC6 (List.all_eq_true.1 ha r hr)
 omega
theorem ZAA {s : N2.ZC} {d : N2.ZU} {t : N2.ZC} (h : ZdZ s d = (t, 0)) : okS s = true ∧ okN (orI d.Default s.Default) (orI d.Closed s.Closed) (orI d.Fuel s.Fuel) (orI d.Stack s.Stack) = true ∧ d.Put.all okR = true ∧
  (ids d.Put ++ d.Drop).Nodup ∧ (∀ n ∈ d.Drop, n ∈ ids s.Rules) ∧ (d.Put.foldl putL (s.Rules.filter fun y => !d.Drop.contains y.ID)).length ≤ 16 ∧
  t = ⟨orI d.Default s.Default, orI d.Closed s.Closed, orI d.Fuel s.Fuel, orI d.Stack s.Stack, d.Put.foldl putL (s.Rules.filter fun y => !d.Drop.contains y.ID)⟩ := by
 unfold ZdZ at h
 split at h
 ·simp at h
 rename_i h1
 split at h
 ·simp at h
 rename_i h2
 split at h
 ·simp at h
 rename_i h3
 split at h
 ·simp at h
 rename_i h4
 split at h
 ·simp at h
 rename_i h5
 simp only [Prod.mk.injEq, and_true] at h
 simp only [not_or, Bool.not_eq_false] at h2
 exact ⟨by simpa using h1, h2.1, h2.2, Classical.not_not.1 h3, Classical.not_not.1 h4, by omega, h.symm⟩
theorem ZuE {s : N2.ZC} {d : N2.ZU} {t : N2.ZC} (h : ZdZ s d = (t, 0)) : okS t = true := by
 obtain ⟨h1, h2, h3, _, _, h6, rfl⟩ := ZAA h
 obtain ⟨o1, _, o3⟩ := ZiD h1
 refine ZHc h2 h6 (ZpW (o1.filter _) _) (ZuC ?_ h3)
 rw [List.all_eq_true] at *
 intro r hr
 exact o3 r (List.mem_filter.1 hr).1
theorem ZAz {s : N2.ZC} {d : N2.ZU} (h1 : okS s = true) (h2 : okN (orI d.Default s.Default) (orI d.Closed s.Closed) (orI d.Fuel s.Fuel) (orI d.Stack s.Stack) = true) (h3 : d.Put.all okR = true)
  (h4 : (ids d.Put ++ d.Drop).Nodup) (h5 : ∀ n ∈ d.Drop, n ∈ ids s.Rules) (h6 : (d.Put.foldl putL (s.Rules.filter fun y => !d.Drop.contains y.ID)).length ≤ 16) :
  ZdZ s d = (⟨orI d.Default s.Default, orI d.Closed s.Closed, orI d.Fuel s.Fuel, orI d.Stack s.Stack, d.Put.foldl putL (s.Rules.filter fun y => !d.Drop.contains y.ID)⟩, 0) := by
 unfold ZdZ
 rw [if_neg (by simp [h1]), if_neg (by simp [h2, h3]), if_neg (by simpa using h4), if_neg (by simpa using h5), if_neg (by omega)]
theorem ZA3 {l : List N2.Zw} (hs : Z9f l) (n : Int) : (l.filter fun y => y.ID != n).length + (if (getL l n).isSome = true then 1 else 0) = l.length := by
 induction l with
 | nil => simp [getL]
 | cons x t ih =>
  obtain ⟨h1, h2⟩ := List.pairwise_cons.1 hs
  rw [Z9c]
  by_cases hx : x.ID = n
  ·rw [if_pos hx, List.filter_cons_of_neg (by simp [hx])]
   have e : t.filter (fun y => y.ID != n) = t := List.filter_eq_self.2 fun y hy => by have := h1 y hy; simp; omega
   rw [e]
   simp
  ·rw [if_neg hx, List.filter_cons_of_pos (by simp [hx])]
   have := ih h2
   simp only [List.length_cons]
   omega
namespace N2
theorem filter_one (l : List N2.Zw) (n : Int) : (l.filter fun y => !([n] : List Int).contains y.ID) = l.filter fun y => y.ID != n := by
 apply List.filter_congr
 intro y _
 simp only [List.contains_cons, List.contains_nil, Bool.or_false]
 rfl
end N2
end Go.Proofs.YteoeggbihfnbfaaGreatDoor
end
section
set_option linter.unusedSimpArgs false
set_option linter.unusedVariables false
namespace Go.Proofs.YteoeggbihfnbfaaGreatDoor
open Go Go.Abs
noncomputable def patF (x : ByteArray) : N2.ZO := (N2.Z5g x).getD ⟨0, 0, 0⟩
abbrev Fine (r : N2.Zw) : Prop := (patF r.Pattern).Code = 0
noncomputable def badF (r : N2.Zw) : N2.ZO := ⟨(patF r.Pattern).Code, r.ID, (patF r.Pattern).At⟩
noncomputable def Z6f : List N2.Zw → N2.ZO
 | [] => ⟨0, 0, 0⟩
 | r :: l => if (patF r.Pattern).Code = 0 then Z6f l else badF r
noncomputable def Z50 (s : N2.ZC) : N2.ZO := if okS s = false then ⟨10, 0, 0⟩ else Z6f s.Rules
theorem ZhV : ∀ {l : List N2.Zw}, (∀ r ∈ l, Fine r) → Z6f l = ⟨0, 0, 0⟩
 | [], _ => rfl
 | r :: l, h => by rw [Z6f, if_pos (h r (by simp)), ZhV fun x hx => h x (by simp [hx])]
theorem ZnE : ∀ {l : List N2.Zw}, (Z6f l).Code = 0 → ∀ r ∈ l, Fine r
 | [], _ => by simp
 | r :: l, h => by
  intro x hx
  rw [Z6f] at h
  split at h
  ·rename_i hr
   rcases List.mem_cons.1 hx with rfl | hx
   ·exact hr
   ·exact ZnE h x hx
  ·rename_i hr
   exact absurd h hr
theorem Zlv : ∀ (l : List N2.Zw), (∀ r ∈ l, Fine r) ∨ ∃ a x b, l = a ++ x :: b ∧ (∀ r ∈ a, Fine r) ∧ ¬ Fine x ∧ Z6f l = badF x
 | [] => .inl (by simp)
 | r :: l => by
  by_cases hr : Fine r
  ·rcases Zlv l with h | ⟨a, x, b, h1, h2, h3, h4⟩
   ·exact .inl fun y hy => by
     rcases List.mem_cons.1 hy with rfl | hy
     ·exact hr
     ·exact h y hy
   ·refine .inr ⟨r :: a, x, b, by rw [h1]; rfl, ?_, h3, by rw [Z6f, if_pos hr, h4]⟩
    intro y hy
    rcases List.mem_cons.1 hy with rfl | hy
    ·exact hr
    ·exact h2 y hy
  ·exact .inr ⟨[], r, l, rfl, by simp, hr, by rw [Z6f, if_neg hr]⟩
theorem Zxu {s : N2.ZC} (h : (Z50 s).Code = 0) : okS s = true ∧ ∀ r ∈ s.Rules, Fine r := by
 unfold Z50 at h
 split at h
 ·simp at h
 ·rename_i hs
  exact ⟨by simpa using hs, ZnE h⟩
theorem Zxt {s : N2.ZC} (h : okS s = true) (h2 : ∀ r ∈ s.Rules, Fine r) : Z50 s = ⟨0, 0, 0⟩ := by
 unfold Z50
 rw [if_neg (by simp [h]), ZhV h2]
abbrev drop1 (n : Int) : N2.ZU := ⟨-1, -1, -1, -1, [], [n]⟩
theorem ZHy {s : N2.ZC} (h : okS s = true) : okN s.Default s.Closed s.Fuel s.Stack = true := by
 unfold okS at h
 simp only [Bool.and_eq_true] at h
 exact h.1.1
theorem Zwc (n : Int) : orI (-1) n = n := by simp [orI]
theorem ZwG {s : N2.ZC} {n : Int} (h : okS s = true) (hn : n ∈ ids s.Rules) : ZdZ s (drop1 n) = (⟨s.Default, s.Closed, s.Fuel, s.Stack, s.Rules.filter fun y => y.ID != n⟩, 0) := by
 have hf := N2.filter_one s.Rules n
 have := ZAz (s := s) (d := drop1 n) h (by simp only [Zwc]; exact ZHy h) (by simp) (by simp [ids]) (by intro m hm; simp at hm; subst hm; exact hn) (by
  rw [hf]; exact Nat.le_trans (List.length_filter_le _ _) (N2.okS_len h))
 rw [this, hf]
 simp only [Zwc, List.foldl_nil]
theorem Zyn {s : N2.ZC} {last : Int} (h : okS s = true) (hl : ∀ r ∈ s.Rules, r.ID ≤ last → Fine r) (hv : (Z50 s).Code ≠ 0) :
  last < (Z50 s).Rule ∧ (Z50 s).Rule ∈ ids s.Rules ∧ (∀ r ∈ s.Rules.filter (fun y => y.ID != (Z50 s).Rule), r.ID ≤ (Z50 s).Rule → Fine r) ∧ (s.Rules.filter fun y => y.ID != (Z50 s).Rule).length + 1 = s.Rules.length := by
 have hr : Z50 s = Z6f s.Rules := by unfold Z50; rw [if_neg (by simp [h])]
 obtain ⟨hs, _, _⟩ := ZiD h
 rcases Zlv s.Rules with hf | ⟨a, x, b, e, h2, h3, h4⟩
 ·rw [hr, ZhV hf] at hv
  simp at hv
 have hid : (Z50 s).Rule = x.ID := by rw [hr, h4]; rfl
 rw [hid]
 have hx : x ∈ s.Rules := by rw [e]; simp
 refine ⟨?_, List.mem_map.2 ⟨x, hx, rfl⟩, ?_, ?_⟩
 ·by_cases hc : last < x.ID
  ·exact hc
  ·exact absurd (hl x hx (by omega)) h3
 ·intro r hm hle
  obtain ⟨hm, hne⟩ := List.mem_filter.1 hm
  have hne : r.ID ≠ x.ID := by simpa using hne
  rw [e] at hm hs
  rcases List.mem_append.1 hm with hm | hm
  ·exact h2 r hm
  ·rcases List.mem_cons.1 hm with rfl | hm
   ·exact absurd rfl hne
   ·have := (List.pairwise_cons.1 (List.pairwise_append.1 hs).2.1).1 r hm
    omega
 ·have := ZA3 hs x.ID
  rw [Zu6 hs x hx] at this
  simpa using this
end Go.Proofs.YteoeggbihfnbfaaGreatDoor
end
section
set_option linter.unusedSimpArgs false
set_option linter.unusedVariables false
namespace Go.Proofs.YteoeggbihfnbfaaGreatDoor.N2
open Go Go.Abs Go.Proofs.Unis Go.Proofs.Norm
set_option maxRecDepth 100000
theorem ZAl (x : ByteArray) : ∃ v, Z5g x = some v ∧ v.Rule = 0 := by
 by_cases h : (Z6C x).2.Code = 0
 ·obtain ⟨v, hv⟩ := ZD5 (ZAk h)
  refine ⟨⟨chkF v, 0, 0⟩, ?_, rfl⟩
  apply ZbG
  unfold Z7B Z93
  rw [ZoA, Option.bind_some, if_neg (Zla h)]
  rw [show (Z6C x).1 = ⟨(Z6C x).1.Root, (Z6C x).1.Groups, (Z6C x).1.Fold⟩ from rfl, ZAJ hv, Option.bind_some]
 ·refine ⟨⟨(Z6C x).2.Code, 0, (Z6C x).2.At⟩, ?_, rfl⟩
  apply ZbG
  unfold Z7B
  rw [ZoA, Option.bind_some, if_pos (Zlb h)]
theorem ZpT (x : ByteArray) : Z5g x = some (patF x) := by
 obtain ⟨v, h, _⟩ := ZAl x
 unfold patF
 rw [h]
 rfl
theorem ZAn (L : List Zw) (hl : L.length ≤ 1000000) : ∀ (k i : Nat), i + k = L.length → Z8q L (L.length : Int) (i : Int) = some (Z6f (L.drop i)) := by
 intro k
 induction k with
 | zero =>
  intro i h
  apply Zfc
  unfold Z8m Z9O
  rw [if_neg (Z2o (by omega)), List.drop_of_length_le (by omega)]
  rfl
 | succ k ih =>
  intro i h
  have hi : i < L.length := by omega
  have ih := ih (i + 1) (by omega)
  apply Zfc
  unfold Z8m Zaf Z9N
  rw [if_pos (Z2t (by omega)), Z30, List.getElem?_eq_getElem hi, Option.bind_some, ZpT, Option.bind_some, List.drop_eq_getElem_cons hi, Z6f]
  by_cases hc : (patF L[i].Pattern).Code = 0
  ·rw [if_neg (Zla hc), if_pos hc, wrap_i64 (by omega) (by omega)]
   exact ih
  ·rw [if_pos (Zlb hc), if_neg hc]
   rfl
theorem ZoE (s : ZC) : Z8F s = some (Z50 s) := by
 apply Zoo
 unfold Zcc Zae Z50
 rw [ZbF, Option.bind_some]
 cases h : okS s with
 | false => rfl
 | true =>
  rw [if_neg (by simp), if_neg (by simp)]
  exact ZAn s.Rules (Nat.le_trans (okS_len h) (by omega)) s.Rules.length 0 (by omega)
theorem ZDC (x : S91) (k : Int) (d : ZU) (L : List Zw) (hl : L.length ≤ 20) {r : Bool} (hr : Z3n x (IntKind.i64.wrap (k + 1)) d = some r) : ∀ (m i : Nat), i + m = L.length →
  ∃ r', Z5V x k L (L.length : Int) (i : Int) d = some r' ∧ (r' = true → r = true) := by
 intro m
 induction m with
 | zero =>
  intro i h
  refine ⟨r, ?_, id⟩
  apply Z8p
  unfold Z4E Z76
  rw [if_neg (Z2o (by omega))]
  exact hr
 | succ m ih =>
  intro i h
  have hi : i < L.length := by omega
  obtain ⟨r', e, e2⟩ := ih (i + 1) (by omega)
  by_cases hc : 300 < (L[i].Pattern.size : Int)
  ·refine ⟨false, ?_, by simp⟩
   apply Z8p
   unfold Z4E Z5P
   rw [if_pos (Z2t (by omega)), Z30, List.getElem?_eq_getElem hi, Option.bind_some, if_pos (Z2t hc)]
  ·refine ⟨r', ?_, e2⟩
   apply Z8p
   unfold Z4E Z5P Z75
   rw [if_pos (Z2t (by omega)), Z30, List.getElem?_eq_getElem hi, Option.bind_some, if_neg (Z2o hc), wrap_i64 (by omega) (by omega)]
   exact e
theorem Zwu (x : S91) (k : Nat) (hk : k < 2) (d : ZU) {L : List Zw} (hL : [x.c0, x.c1][k]? = some L) {r : Bool} (hr : Z3n x ((k + 1 : Nat) : Int) d = some r) :
  ∃ r', Z3n x (k : Int) d = some r' ∧ (r' = true → r = true ∧ L.length ≤ 20) := by
 by_cases hc : 20 < (L.length : Int)
 ·refine ⟨false, ?_, by simp⟩
  apply Z8o
  unfold Z4D Z5O
  rw [if_pos (Z2t (by omega)), Z30, hL, Option.bind_some, if_pos (Z2t hc)]
 ·obtain ⟨r', e, e2⟩ := ZDC x k d L (by omega) (r := r) (by rw [wrap_i64 (by omega) (by omega)]; exact hr) L.length 0 (by omega)
  refine ⟨r', ?_, fun h => ⟨e2 h, by omega⟩⟩
  apply Z8o
  unfold Z4D Z5O Z7f
  rw [if_pos (Z2t (by omega)), Z30, hL, Option.bind_some, if_neg (Z2o hc)]
  exact e
theorem ZCr (s : ZC) (d : ZU) : ∃ b, Z8C s d = some b ∧ (b = true → s.Rules.length ≤ 20 ∧ d.Put.length ≤ 20 ∧ d.Drop.length ≤ 40) := by
 have h2 : Z3n ⟨s.Rules, d.Put⟩ ((1 + 1 : Nat) : Int) d = some (decide ((d.Drop.length : Int) ≤ 40)) := by
  apply Z8o
  unfold Z4D Z77
  rw [if_neg (Z2o (by omega))]
 obtain ⟨r1, e1, p1⟩ := Zwu ⟨s.Rules, d.Put⟩ 1 (by omega) d (L := d.Put) rfl h2
 obtain ⟨r0, e0, p0⟩ := Zwu ⟨s.Rules, d.Put⟩ 0 (by omega) d (L := s.Rules) rfl e1
 refine ⟨r0, Zjh _ _ (by unfold Z8z; exact e0), fun h => ?_⟩
 obtain ⟨q0, l0⟩ := p0 h
 obtain ⟨q1, l1⟩ := p1 q0
 have := of_decide_eq_true q1
 exact ⟨l0, l1, by omega⟩
theorem ZtS {x : ByteArray} (h : (Z6C x).2.Code ≠ 0) : patF x = ⟨(Z6C x).2.Code, 0, (Z6C x).2.At⟩ := by
 have : Z5g x = some ⟨(Z6C x).2.Code, 0, (Z6C x).2.At⟩ := by
  apply ZbG
  unfold Z7B
  rw [ZoA, Option.bind_some, if_pos (Zlb h)]
 unfold patF
 rw [this]
 rfl
theorem ZwE : Z8c = some true := by
 have e1 : (Z6C (ByteArray.mk #[97, 42, 42])).2 = ⟨23, 2⟩ := by rfl
 have e2 : (Z6C (ByteArray.mk #[40])).2.Code = 20 := by rfl
 have e3 : (Z6C (ByteArray.mk #[40])).2.At = 0 := by rfl
 have hf : ZcB = some ⟨0, 255, 10000, 500, []⟩ := ZrA rfl
 have p1 : patF (ByteArray.mk #[97, 42, 42]) = ⟨23, 0, 2⟩ := by
  rw [ZtS (by rw [e1]; decide), e1]
 have p2 : (patF (ByteArray.mk #[40])).Code = 20 := by rw [ZtS (by rw [e2]; decide), e2]
 have r1 : ∃ a, Z50 ⟨0, 255, 10000, 500, [⟨3, 0, 0, 1, ByteArray.mk #[40]⟩, ⟨7, 0, 0, 1, ByteArray.mk #[41]⟩]⟩ = ⟨20, 3, a⟩ := by
  refine ⟨(patF (ByteArray.mk #[40])).At, ?_⟩
  unfold Z50
  rw [if_neg (by decide)]
  show Z6f _ = _
  rw [Z6f, if_neg (by rw [p2]; decide)]
  unfold badF
  rw [p2]
 have r2 : Z50 ⟨0, 255, 10000, 500, []⟩ = ⟨0, 0, 0⟩ := by
  unfold Z50
  rw [if_neg (by decide)]
  rfl
 obtain ⟨a, r1⟩ := r1
 have ha : a = 0 := by
  have : (Z50 ⟨0, 255, 10000, 500, [⟨3, 0, 0, 1, ByteArray.mk #[40]⟩, ⟨7, 0, 0, 1, ByteArray.mk #[41]⟩]⟩).At = (Z6C (ByteArray.mk #[40])).2.At := by
   unfold Z50
   rw [if_neg (by decide)]
   show (Z6f _).At = _
   rw [Z6f, if_neg (by rw [p2]; decide)]
   unfold badF
   rw [ZtS (by rw [e2]; decide)]
  rw [r1, e3] at this
  exact this
 subst ha
 apply Zik
 unfold Z87
 rw [hf, Option.bind_some, ZpT, Option.bind_some, p1, if_pos (by rfl), ZoE, Option.bind_some, r1, if_pos (by rfl), Option.bind_some, ZoE, r2]
 rfl
end Go.Proofs.YteoeggbihfnbfaaGreatDoor.N2
end
