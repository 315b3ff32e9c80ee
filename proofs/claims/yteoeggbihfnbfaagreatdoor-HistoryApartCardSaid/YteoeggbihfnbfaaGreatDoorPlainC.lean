/- Rules, sets, deltas, verdicts, as plain functions. No condition. -/
import Derived.Test.YteoeggbihfnbfaaGreatDoorPlain
import Derived.Test.YteoeggbihfnbfaaGreatDoorTypB
import Derived.Test.YteoeggbihfnbfaaGreatDoorTypC
import Derived.Test.YteoeggbihfnbfaaGreatDoorPlainB

set_option linter.unusedSimpArgs false
set_option linter.unusedVariables false
set_option linter.defProp false
section
namespace Go.Proofs.YteoeggbihfnbfaaGreatDoor
open Go Go.Abs
def okR (r : N2.ZA) : Bool := decide (1 ≤ r.ID ∧ r.ID ≤ 1099511627776 ∧ 0 ≤ r.Priority ∧ r.Priority ≤ 1000 ∧ 0 ≤ r.Action ∧ r.Action ≤ 255 ∧ 1 ≤ r.Scope ∧ r.Scope ≤ 65535 ∧ (r.Pattern.size : Int) ≤ 256)
def okN (a b c d : Int) : Bool := decide (0 ≤ a ∧ a ≤ 255 ∧ 0 ≤ b ∧ b ≤ 255 ∧ 1 ≤ c ∧ c ≤ 1048576 ∧ 0 ≤ d ∧ d ≤ 4096)
def asc : Int → List N2.ZA → Bool
 | _, [] => true
 | n, r :: l => okR r && decide (n < r.ID) && asc r.ID l
def okS (s : N2.ZE) : Bool := okN s.Default s.Closed s.Fuel s.Stack && decide (s.Rules.length ≤ 16) && asc 0 s.Rules
namespace N2
theorem Z9Y (r : N2.ZA) : Z8X r = some (okR r) := by
 apply ZpH
 unfold Zcm okR
 repeat' split
 all_goals simp_all
 all_goals omega
theorem Zfm (s : N2.ZE) : Z9g s = some (okN s.Default s.Closed s.Fuel s.Stack) := by
 apply Znj
 unfold Zbo okN
 repeat' split
 all_goals simp_all
 all_goals omega
theorem ZmZ {i : Int} (h1 : 0 ≤ i) (h2 : i ≤ 1000000000) : IntKind.i64.wrap (i + 1) = i + 1 := wrap_i64 (by omega) (by omega)
theorem Zoj (L : List N2.ZA) (hl : L.length ≤ 1000000) : ∀ (d i : Nat) (n : Int), i + d = L.length → Z9f n L (L.length : Int) (i : Int) = some (asc n (L.drop i)) := by
 intro d
 induction d with
 | zero =>
  intro i n h
  apply ZfY
  unfold Z9a
  rw [if_neg (by simp; omega), q9_ (by omega)]
  rfl
 | succ d ih =>
  intro i n h
  apply ZfY
  unfold Z9a
  have hi : i < L.length := by omega
  rw [if_pos (by simp; omega)]
  unfold Zbm
  rw [Z3a, q2_ hi, Zdp hi]
  simp only [q0_, Z9Y, asc, Z9c, Zbn, Zaq]
  cases h1 : okR L[i] with
  | false => simp
  | true =>
   simp only [Znt, Zew, if_false, Zuo]
   by_cases h2 : L[i].ID ≤ n
   ·rw [if_pos (by simpa using h2)]
    have : ¬ n < L[i].ID := by omega
    simp [this]
   ·rw [if_neg (by simpa using h2), ZmZ (by omega) (by omega)]
    have := ih (i + 1) L[i].ID (by omega)
    rw [show ((i : Int) + 1) = ((i + 1 : Nat) : Int) by omega, this]
    have : n < L[i].ID := by omega
    simp [this]
theorem Zi0 (s : N2.ZE) : Zb4 s = some (okS s) := by
 apply ZqI
 unfold Zda
 simp only [Zfm, q0_, Z9b, Zbl, okS]
 cases h : okN s.Default s.Closed s.Fuel s.Stack with
 | false => simp
 | true =>
  by_cases h2 : s.Rules.length ≤ 16
  ·have h3 : ¬ 16 < (s.Rules.length : Int) := by omega
   simp only [Znt, Zew, if_false, h3, decide_false, h2, decide_true, Zuo]
   exact Zoj s.Rules (by omega) s.Rules.length 0 0 (by omega)
  ·have h3 : 16 < (s.Rules.length : Int) := by omega
   simp [h2, h3]
end N2
end Go.Proofs.YteoeggbihfnbfaaGreatDoor
end
section
namespace Go.Proofs.YteoeggbihfnbfaaGreatDoor
open Go Go.Abs
def Z7Y : List Int → List (Int × Bool) → Bool × List (Int × Bool)
 | [], m => (false, m)
 | x :: xs, m => if (getM m x).getD false = true then (true, putM m x true) else Z7Y xs (putM m x true)
def ids (l : List N2.ZA) : List Int := l.map (·.ID)
theorem ZAj {α : Type} (m : List (Int × α)) (n k : Int) (y : α) : getM (putM m n y) k = if k = n then some y else getM m k := by
 induction m with
 | nil => simp only [putM, getM]; by_cases h : n = k <;> simp [h, eq_comm]
 | cons q r ih =>
  simp only [putM]
  split
  ·rename_i h
   simp only [getM]
   by_cases hk : n = k
   ·simp [hk]
   ·simp only [if_neg hk]; rw [h, if_neg hk, if_neg (fun e => hk e.symm)]
  ·rename_i h
   simp only [getM, ih]
   by_cases hk : q.1 = k
   ·rw [if_pos hk]; have : k ≠ n := fun e => h (hk.trans e); rw [if_neg this, if_pos hk]
   ·rw [if_neg hk]; split <;> simp [hk]
theorem Zqo : ∀ (xs : List Int) (m : List (Int × Bool)) (seen : List Int), (∀ x, (getM m x).getD false = decide (x ∈ seen)) → (Z7Y xs m).1 = !decide (xs.Nodup ∧ ∀ x ∈ xs, x ∉ seen) ∧
  ((Z7Y xs m).1 = false → ∀ x, (getM (Z7Y xs m).2 x).getD false = decide (x ∈ xs ∨ x ∈ seen))
 | [], m, seen, h => by simpa [Z7Y] using h
 | x :: xs, m, seen, h => by
  unfold Z7Y
  rw [h x]
  by_cases hx : x ∈ seen
  ·rw [decide_eq_true hx]
   simp only [if_true]
   refine ⟨?_, fun e => by cases e⟩
   have : ¬ ((x :: xs).Nodup ∧ ∀ y ∈ x :: xs, y ∉ seen) := fun hh => hh.2 x (by simp) hx
   simp only [decide_eq_false this, Bool.not_false]
  ·rw [if_neg (by simpa using hx)]
   have hm : ∀ y, (getM (putM m x true) y).getD false = decide (y ∈ x :: seen) := by
    intro y
    rw [ZAj]
    by_cases hy : y = x
    ·simp [hy]
    ·rw [if_neg hy, h y]; simp [hy]
   obtain ⟨h1, h2⟩ := Zqo xs _ (x :: seen) hm
   refine ⟨?_, fun e y => ?_⟩
   ·rw [h1]
    congr 2
    apply propext
    simp only [ZrU, Z5g, not_or, forall_eq_or_imp]
    constructor
    ·rintro ⟨a, b⟩
     exact ⟨⟨fun hh => (b x hh).1 rfl, a⟩, hx, fun y hy => (b y hy).2⟩
    ·rintro ⟨⟨a, b⟩, _, c⟩
     exact ⟨b, fun y hy => ⟨fun e => a (e ▸ hy), c y hy⟩⟩
   ·rw [h2 e y]
    congr 1
    apply propext
    simp only [Z5g]
    constructor
    ·rintro (a | a | a)
     ·exact .inl (.inr a)
     ·exact .inl (.inl a)
     ·exact .inr a
    ·rintro ((a | a) | a)
     ·exact .inr (.inl a)
     ·exact .inl a
     ·exact .inr (.inr a)
namespace N2
theorem ZgW (L : List N2.ZA) (hl : L.length ≤ 1000000) : ∀ (d i : Nat), i + d = L.length → ∃ n, Z5c L (L.length : Int) (i : Int) = some n ∧ decide (0 ≤ n) = (L.drop i).any fun r => !okR r := by
 intro d
 induction d with
 | zero =>
  intro i h
  refine ⟨-1, ?_, by rw [q9_ (by omega)]; rfl⟩
  apply Z7P
  unfold Z4e
  rw [if_neg (by simp; omega)]
  rfl
 | succ d ih =>
  intro i h
  have hi : i < L.length := by omega
  rw [Zdp hi]
  obtain ⟨n, h1, h2⟩ := ih (i + 1) (by omega)
  cases hr : okR L[i] with
  | false =>
   refine ⟨i, ?_, by simp only [Zur, hr]; simp⟩
   apply Z7P
   unfold Z4e
   rw [if_pos (by simp; omega)]
   unfold Z54
   have h43 : Z8o L[i] = some true := Zel _ (by unfold Z8f; simp [Z9Y, hr])
   simp [Z3a, q2_ hi, h43]
  | true =>
   refine ⟨n, ?_, by simp only [Zur, hr, h2]; simp⟩
   apply Z7P
   unfold Z4e
   rw [if_pos (by simp; omega)]
   unfold Z54
   have h43 : Z8o L[i] = some false := Zel _ (by unfold Z8f; simp [Z9Y, hr])
   simp only [Z3a, q2_ hi, h43, q0_, Zew, if_false, Z6t]
   rw [ZmZ (by omega) (by omega), show ((i : Int) + 1) = ((i + 1 : Nat) : Int) by omega]
   exact h1
theorem ZmC (L : List N2.ZA) (hl : L.length ≤ 1000000) : Zbw L = some (L.all okR) := by
 obtain ⟨n, h1, h2⟩ := ZgW L hl L.length 0 (by omega)
 apply Znk
 have h52 : Z7E L = some n := Zia _ (by unfold Z7z; exact h1)
 have h42 : Z6x L = some (decide (0 ≤ n)) := Zg6 _ (by unfold Z6p; rw [h52]; rfl)
 unfold Zbp
 rw [h42, h2]
 simp [List.all_eq_not_any_not]
theorem Z9q (n : Int) (m : List (Int × Bool)) : Z72 n m = some ((getM m n).getD false, putM m n true) := Zk2 _ _ rfl
theorem ZcN (r : N2.ZA) (m : List (Int × Bool)) : Z8P r m = some ((getM m r.ID).getD false, putM m r.ID true) := Zk3 _ _ (by unfold Z8H; rw [Z9q]; rfl)
theorem ZgX (L : List N2.ZA) (hl : L.length ≤ 1000000) : ∀ (d i : Nat) (m : List (Int × Bool)), i + d = L.length →
  ∃ n, Z5d L (L.length : Int) (i : Int) m = some (n, (Z7Y (ids (L.drop i)) m).2) ∧ decide (0 ≤ n) = (Z7Y (ids (L.drop i)) m).1 := by
 intro d
 induction d with
 | zero =>
  intro i m h
  rw [q9_ (by omega)]
  refine ⟨-1, ?_, rfl⟩
  apply Z7Q
  unfold Z4f
  rw [if_neg (by simp; omega)]
  rfl
 | succ d ih =>
  intro i m h
  have hi : i < L.length := by omega
  rw [Zdp hi]
  obtain ⟨n, h1, h2⟩ := ih (i + 1) (putM m L[i].ID true) (by omega)
  simp only [ids, Z8x, Z7Y]
  by_cases hs : (getM m L[i].ID).getD false = true
  ·rw [if_pos hs]
   refine ⟨i, ?_, by simp⟩
   apply Z7Q
   unfold Z4f
   rw [if_pos (by simp; omega)]
   unfold Z55
   simp [Z3a, q2_ hi, ZcN, hs]
  ·rw [if_neg hs]
   refine ⟨n, ?_, h2⟩
   apply Z7Q
   unfold Z4f
   rw [if_pos (by simp; omega)]
   unfold Z55
   simp only [Z3a, q2_ hi, ZcN, q0_, if_neg hs, Z6u]
   rw [ZmZ (by omega) (by omega), show ((i : Int) + 1) = ((i + 1 : Nat) : Int) by omega]
   exact h1
theorem ZhI (L : List Int) (hl : L.length ≤ 1000000) : ∀ (d i : Nat) (m : List (Int × Bool)), i + d = L.length →
  ∃ n, Z5p L (L.length : Int) (i : Int) m = some (n, (Z7Y (L.drop i) m).2) ∧ decide (0 ≤ n) = (Z7Y (L.drop i) m).1 := by
 intro d
 induction d with
 | zero =>
  intro i m h
  rw [q9_ (by omega)]
  refine ⟨-1, ?_, rfl⟩
  apply Z83
  unfold Z4p
  rw [if_neg (by simp; omega)]
  rfl
 | succ d ih =>
  intro i m h
  have hi : i < L.length := by omega
  rw [Zdp hi]
  obtain ⟨n, h1, h2⟩ := ih (i + 1) (putM m L[i] true) (by omega)
  simp only [Z7Y]
  by_cases hs : (getM m L[i]).getD false = true
  ·rw [if_pos hs]
   refine ⟨i, ?_, by simp⟩
   apply Z83
   unfold Z4p
   rw [if_pos (by simp; omega)]
   unfold Z5n
   simp [Z3a, q2_ hi, Z9q, hs]
  ·rw [if_neg hs]
   refine ⟨n, ?_, h2⟩
   apply Z83
   unfold Z4p
   rw [if_pos (by simp; omega)]
   unfold Z5n
   simp only [Z3a, q2_ hi, Z9q, q0_, if_neg hs, Z6N]
   rw [ZmZ (by omega) (by omega), show ((i : Int) + 1) = ((i + 1 : Nat) : Int) by omega]
   exact h1
theorem Zni (d : N2.Z1e) (h1 : d.Put.length ≤ 1000000) (h2 : d.Drop.length ≤ 1000000) : ZbV d = some (!decide (ids d.Put ++ d.Drop).Nodup) := by
 obtain ⟨n, e1, e2⟩ := ZgX d.Put h1 d.Put.length 0 [] (by omega)
 have h52 : Z7F d.Put [] = some (n, (Z7Y (ids d.Put) []).2) := Zic _ _ (by unfold Z7A; exact e1)
 have h42 : Z6y d.Put [] = some ((Z7Y (ids d.Put) []).1, (Z7Y (ids d.Put) []).2) := Zg8 _ _ (by unfold Z6q; rw [h52]; simpa using e2)
 obtain ⟨k, f1, f2⟩ := ZhI d.Drop h2 d.Drop.length 0 (Z7Y (ids d.Put) []).2 (by omega)
 have h53 : Z7W d.Drop (Z7Y (ids d.Put) []).2 = some (k, (Z7Y d.Drop (Z7Y (ids d.Put) []).2).2) := ZiB _ _ (by unfold Z7U; exact f1)
 have h46 : Z6U d.Drop (Z7Y (ids d.Put) []).2 = some ((Z7Y d.Drop (Z7Y (ids d.Put) []).2).1, (Z7Y d.Drop (Z7Y (ids d.Put) []).2).2) := ZgQ _ _ (by unfold Z6L; rw [h53]; simpa using f2)
 obtain ⟨s1, s2⟩ := Zqo (ids d.Put) [] [] (by simp [getM])
 simp only [List.not_mem_nil, not_false_eq_true, implies_true, and_true, or_false] at s1 s2
 apply Zog
 unfold ZbM
 rw [h42]
 simp only [q0_]
 cases hs : (Z7Y (ids d.Put) []).1 with
 | true =>
  have h : ¬ (ids d.Put).Nodup := fun h => by rw [hs, decide_eq_true h] at s1; cases s1
  have : ¬ (ids d.Put ++ d.Drop).Nodup := fun h' => h (ZAT.1 h').1
  rw [decide_eq_false this]
  rfl
 | false =>
  have hn : (ids d.Put).Nodup := by
   rw [hs] at s1
   simpa using s1
  rw [h46]
  obtain ⟨t1, _⟩ := Zqo d.Drop _ (ids d.Put) (s2 hs)
  simp only [Zew, if_false, q0_, t1]
  congr 3
  apply propext
  rw [ZAT]
  constructor
  ·rintro ⟨a, b⟩
   exact ⟨hn, a, fun x hx y hy e => b y hy (e ▸ hx)⟩
  ·rintro ⟨_, a, b⟩
   exact ⟨a, fun x hx h => b x h x hx rfl⟩
end N2
end Go.Proofs.YteoeggbihfnbfaaGreatDoor
end
section
namespace Go.Proofs.YteoeggbihfnbfaaGreatDoor
open Go Go.Abs
abbrev MR := List (Int × N2.ZA)
def zR : N2.ZA := N2.ZA.mk 0 0 0 0 (ByteArray.mk #[])
def zS : N2.ZE := N2.ZE.mk 0 0 0 0 []
def mput (m : MR) (l : List N2.ZA) : MR := l.foldl (fun m r => putM m r.ID r) m
def ZgF : List Int → MR → Option MR
 | [], m => some m
 | i :: l, m => if (getM m i).isSome = true then ZgF l (delM m i) else none
def ZgE (m : MR) : List Int := (m.map (·.1)).mergeSort (fun a b => decide (a ≤ b))
def orI (a b : Int) : Int := if a = -1 then b else a
def okK (m : MR) : Prop := ∀ q ∈ m, 1 ≤ q.1 ∧ q.1 ≤ 1099511627776
theorem ZL1 {m : MR} (h : okK m) {n : Int} (y : N2.ZA) (hn : 1 ≤ n ∧ n ≤ 1099511627776) : okK (putM m n y) := by
 induction m with
 | nil => intro q hq; simp [putM] at hq; subst hq; exact hn
 | cons p r ih =>
  rw [putM]
  have hr : okK r := fun q hq => h q (by simp [hq])
  split
  ·intro q hq
   rcases Z5g.1 hq with rfl | hq
   ·exact hn
   ·exact hr q hq
  ·intro q hq
   rcases Z5g.1 hq with rfl | hq
   ·exact h _ (by simp)
   ·exact ih hr q hq
theorem ZL0 {m : MR} (h : okK m) (n : Int) : okK (delM m n) := by
 induction m with
 | nil => exact h
 | cons p r ih =>
  have hr : okK r := fun q hq => h q (by simp [hq])
  rw [delM]
  split
  ·exact hr
  ·intro q hq
   rcases Z5g.1 hq with rfl | hq
   ·exact h _ (by simp)
   ·exact ih hr q hq
theorem ZMZ {r : N2.ZA} (h : okR r = true) : 1 ≤ r.ID ∧ r.ID ≤ 1099511627776 := by
 unfold okR at h
 simp only [decide_eq_true_eq] at h
 omega
theorem Zue : ∀ {l : List N2.ZA} {m : MR}, okK m → l.all okR = true → okK (mput m l)
 | [], _, h, _ => h
 | r :: l, m, h, hl => by
  simp only [ZAR, q6_] at hl
  exact Zue (l := l) (ZL1 h r (ZMZ hl.1)) hl.2
theorem ZAv : ∀ {l : List Int} {m m' : MR}, okK m → ZgF l m = some m' → okK m'
 | [], m, m', h, e => by simp [ZgF] at e; subst e; exact h
 | i :: l, m, m', h, e => by
  unfold ZgF at e
  split at e
  ·exact ZAv (ZL0 h i) e
  ·simp at e
theorem ZCh : ∀ {l : List N2.ZA} {n : Int}, asc n l = true → l.all okR = true
 | [], n, _ => rfl
 | r :: l, n, h => by
  simp only [asc, q6_] at h
  simp [h.1.1, ZCh h.2]
theorem ZL2 {s : N2.ZE} (h : okS s = true) : s.Rules.all okR = true := by
 unfold okS at h
 simp only [q6_] at h
 exact ZCh h.2
namespace N2
theorem Zt8 (a b : Int) : ZgC a b = some (orI a b) := ZtV _ _ (by unfold Zgw orI; by_cases h : a = -1 <;> simp [h])
theorem Zop (a b : Int) : Zcw a b = some (orI a b) := ZpN _ _ (by unfold Zcp orI; by_cases h : a = -1 <;> simp [h])
theorem Zon (a b : Int) : Zcv a b = some (orI a b) := ZpL _ _ (by unfold Zco orI; by_cases h : a = -1 <;> simp [h])
theorem Zol (a b : Int) : Zcu a b = some (orI a b) := ZpJ _ _ (by unfold Zcn orI; by_cases h : a = -1 <;> simp [h])
theorem ZlH : Zar = some () := Zmh rfl
theorem ZEV (m : MR) : keysOf (m.map (encM ZG)) = ZgE m := by
 unfold keysOf ZgE
 rw [Zqi]
 rfl
theorem Zk9 (m : MR) (h : m.length ≤ 1048576) (hk : okK m) : Zbz m = some (ZgE m) := by
 apply Z1g (fun _ _ ha hb => RRun.uniq (ZkK m) ha hb)
 have e : EE 52 [(.clo 78 [] [(.ptr 0 0)])] [[(.mp 1)], [(.md (m.map (encM ZG)))]] = some ((.p (.lst .sh ((ZgE m).map (eI .i64)))), [[(.mp 1)], [(.md (m.map (encM ZG)))]]) := by
  rw [show EE 52 = E PP XX HH 52 from rfl, ZyL (P := PP) (X := XX) (H := HH) (f := 52) (m := ZoV) (by kernel_rfl)]
  have : ZoV [(.clo 78 [] [(.ptr 0 0)])] [[(.mp 1)], [(.md (m.map (encM ZG)))]] = if (m.map (encM ZG)).length ≤ 1048576 ∧ (∀ q ∈ m.map (encM ZG), -9223372036854775808 ≤ q.1 ∧ q.1 ≤ 9223372036854775807) then some (.p (.lst .sh ((keysOf (m.map (encM ZG))).map fun n => .v (.int .i64 n))), [[(.mp 1)], [(.md (m.map (encM ZG)))]]) else none := rfl
  have hr : ∀ q ∈ m.map (encM ZG), -9223372036854775808 ≤ q.1 ∧ q.1 ≤ 9223372036854775807 := by
   intro q hq
   obtain ⟨p, hp, rfl⟩ := Z7n.1 hq
   have := hk p hp
   show -9223372036854775808 ≤ p.1 ∧ p.1 ≤ 9223372036854775807
   omega
  rw [this, if_pos ⟨by simpa using h, hr⟩, ZEV]
  rfl
 exact ⟨_, e, [], by simp⟩
theorem Zpm (d : N2.Z1e) (n1 n2 n3 n4 : Int) (L : List N2.ZA) (hl : L.length ≤ 1000000) {r : N2.ZE × Int} : ∀ (k i : Nat) (m : MR), i + k = L.length →
  ZaS d n1 n2 n3 n4 (mput m (L.drop i)) = some r → Zb0 L (L.length : Int) (i : Int) d n1 n2 n3 n4 m = some r := by
 intro k
 induction k with
 | zero =>
  intro i m h hr
  rw [q9_ (by omega)] at hr
  apply ZiI
  unfold ZaO
  rw [if_neg (by simp; omega)]
  exact hr
 | succ k ih =>
  intro i m h hr
  have hi : i < L.length := by omega
  rw [Zdp hi] at hr
  apply ZiI
  unfold ZaO
  rw [if_pos (by simp; omega)]
  unfold Zd2
  rw [Z3a, q2_ hi, ZmZ (by omega) (by omega), show ((i : Int) + 1) = ((i + 1 : Nat) : Int) by omega]
  exact ih (i + 1) _ (by omega) hr
theorem Zpq (n1 n2 n3 n4 : Int) (L : List N2.ZA) (hl : L.length ≤ 1000000) {r : N2.ZE × Int} : ∀ (k i : Nat) (m : MR), i + k = L.length →
  ZaU n1 n2 n3 n4 (mput m (L.drop i)) = some r → Zb2 L (L.length : Int) (i : Int) n1 n2 n3 n4 m = some r := by
 intro k
 induction k with
 | zero =>
  intro i m h hr
  rw [q9_ (by omega)] at hr
  apply ZiM
  unfold ZaQ
  rw [if_neg (by simp; omega)]
  exact hr
 | succ k ih =>
  intro i m h hr
  have hi : i < L.length := by omega
  rw [Zdp hi] at hr
  apply ZiM
  unfold ZaQ
  rw [if_pos (by simp; omega)]
  unfold Zd6
  rw [Z3a, q2_ hi, ZmZ (by omega) (by omega), show ((i : Int) + 1) = ((i + 1 : Nat) : Int) by omega]
  exact ih (i + 1) _ (by omega) hr
theorem Zpo (d : N2.Z1e) (n1 n2 n3 n4 : Int) (L : List Int) (hl : L.length ≤ 1000000) {r : N2.ZE × Int} : ∀ (k i : Nat) (m : MR), i + k = L.length →
  (match ZgF (L.drop i) m with | some m => ZaT d n1 n2 n3 n4 m | none => some (zS, 32)) = some r → Zb1 L (L.length : Int) (i : Int) d n1 n2 n3 n4 m = some r := by
 intro k
 induction k with
 | zero =>
  intro i m h hr
  rw [q9_ (by omega)] at hr
  apply ZiK
  unfold ZaP
  rw [if_neg (by simp; omega)]
  exact hr
 | succ k ih =>
  intro i m h hr
  have hi : i < L.length := by omega
  rw [Zdp hi] at hr
  apply ZiK
  unfold ZaP
  rw [if_pos (by simp; omega)]
  unfold Zd3
  rw [Z3a, q2_ hi]
  simp only [q0_, Zd4, Zd5]
  unfold ZgF at hr
  cases hg : (getM m L[i]).isSome with
  | false => rw [hg] at hr; exact hr
  | true =>
   rw [hg] at hr
   simp only [if_true] at hr
   simp only [Znt, Zew, if_false]
   rw [ZmZ (by omega) (by omega), show ((i : Int) + 1) = ((i + 1 : Nat) : Int) by omega]
   exact ih (i + 1) _ (by omega) hr
theorem ZAo {α : Type} (l : List α) (a : α) (h : l.length ≤ 1000000000) : lapp l [a] = some (l ++ [a]) := by
 unfold lapp
 rw [if_pos (by simp [lim]; omega)]
theorem Zps (n1 n2 n3 n4 : Int) (m : MR) (K : List Int) (hl : K.length ≤ 1000000) : ∀ (k i : Nat) (out : List N2.ZA), i + k = K.length → out.length ≤ i →
  Zb3 K (K.length : Int) (i : Int) n1 n2 n3 n4 out m = some (⟨n1, n2, n3, n4, out ++ (K.drop i).map fun n => (getM m n).getD zR⟩, 0) := by
 intro k
 induction k with
 | zero =>
  intro i out h ho
  rw [q9_ (by omega)]
  apply ZiO
  unfold ZaR
  rw [if_neg (by simp; omega)]
  simp [Zd9]
 | succ k ih =>
  intro i out h ho
  have hi : i < K.length := by omega
  rw [Zdp hi]
  apply ZiO
  unfold ZaR
  rw [if_pos (by simp; omega)]
  unfold Zd8
  rw [Z3a, q2_ hi]
  simp only [q0_]
  rw [ZAo _ _ (by omega)]
  simp only [q0_]
  rw [ZmZ (by omega) (by omega), show ((i : Int) + 1) = ((i + 1 : Nat) : Int) by omega, ih (i + 1) _ (by omega) (by simp; omega), Z8x, ZFh, List.singleton_append]
  rfl
def applyM (s : N2.ZE) (d : N2.Z1e) : N2.ZE × Int :=
 if okS s = false then (zS, 10) else
 if okN (orI d.Default s.Default) (orI d.Closed s.Closed) (orI d.Fuel s.Fuel) (orI d.Stack s.Stack) = false ∨ d.Put.all okR = false then (zS, 30) else
 if ¬ (ids d.Put ++ d.Drop).Nodup then (zS, 31) else
 match ZgF d.Drop (mput [] s.Rules) with
 | none => (zS, 32)
 | some m =>
  if 16 < (mput m d.Put).length then (zS, 33) else
  (⟨orI d.Default s.Default, orI d.Closed s.Closed, orI d.Fuel s.Fuel, orI d.Stack s.Stack, (ZgE (mput m d.Put)).map fun n => (getM (mput m d.Put) n).getD zR⟩, 0)
theorem Zy9 {s : N2.ZE} (h : okS s = true) : s.Rules.length ≤ 16 := by
 unfold okS at h
 simp only [q6_, decide_eq_true_eq] at h
 exact h.1.2
theorem ZHe (m : MR) : (ZgE m).length = m.length := by unfold ZgE; simp
theorem g_rule_Apply_val (s : N2.ZE) (d : N2.Z1e) (h1 : d.Put.length ≤ 1000000) (h2 : d.Drop.length ≤ 1000000) : Zek s d = some (applyM s d) := by
 apply Zvx
 unfold ZhM applyM
 rw [Zi0]
 simp only [q0_]
 cases hs : okS s with
 | false => rfl
 | true =>
  have hlen := Zy9 hs
  simp only [Znt, Zew, if_false, Bool.true_eq_false]
  unfold ZdS
  simp only [Zt8, Zop, Zon, Zol, Zfm, q0_, ZmC _ h1, ZbL]
  cases hn : okN (orI d.Default s.Default) (orI d.Closed s.Closed) (orI d.Fuel s.Fuel) (orI d.Stack s.Stack) with
  | false => rfl
  | true =>
   simp only [Znt, Zew, if_false, Bool.true_eq_false, false_or]
   cases hp : d.Put.all okR with
   | false => rfl
   | true =>
    simp only [Znt, Zew, if_false, Bool.true_eq_false]
    unfold Zd0
    rw [Zni d h1 h2]
    simp only [q0_]
    by_cases ht : (ids d.Put ++ d.Drop).Nodup
    ·simp only [decide_eq_true ht, Znt, Zew, if_false, ht, not_true]
     unfold Zd1
     refine Zpm d _ _ _ _ s.Rules (by omega) s.Rules.length 0 [] (by omega) ?_
     unfold ZaS
     refine Zpo d _ _ _ _ d.Drop h2 d.Drop.length 0 _ (by omega) ?_
     simp only [ZvY]
     cases hm : ZgF d.Drop (mput [] s.Rules) with
     | none => rfl
     | some m =>
      simp only
      unfold ZaT
      refine Zpq _ _ _ _ d.Put h1 d.Put.length 0 _ (by omega) ?_
      simp only [ZvY]
      unfold ZaU
      by_cases hc : 16 < (mput m d.Put).length
      ·rw [if_pos (by simp; omega), if_pos hc]; rfl
      ·rw [if_neg (by simp; omega), if_neg hc]
       unfold Zd7
       rw [ZlH, Zk9 _ (by omega) (Zue (ZAv (Zue (m := []) (fun q hq => by simp at hq) (ZL2 hs)) hm) hp)]
       simp only [q0_]
       have hk : (ZgE (mput m d.Put)).length ≤ 1000000 := by rw [ZHe]; omega
       have := Zps (orI d.Default s.Default) (orI d.Closed s.Closed) (orI d.Fuel s.Fuel) (orI d.Stack s.Stack) (mput m d.Put) (ZgE (mput m d.Put)) hk (ZgE (mput m d.Put)).length 0 [] (by omega) (by simp)
       simpa using this
    ·simp only [decide_eq_false ht, Bool.not_false, if_true, ht, not_false_eq_true]
     rfl
end N2
end Go.Proofs.YteoeggbihfnbfaaGreatDoor
end
section
namespace Go.Proofs.YteoeggbihfnbfaaGreatDoor
open Go Go.Abs
def getL (l : List N2.ZA) (n : Int) : Option N2.ZA := l.find? fun r => r.ID == n
def putL : List N2.ZA → N2.ZA → List N2.ZA
 | [], r => [r]
 | x :: t, r => if x.ID < r.ID then x :: putL t r else r :: (x :: t).filter fun y => y.ID != r.ID
abbrev ZfQ (l : List N2.ZA) : Prop := l.Pairwise fun a b => a.ID < b.ID
theorem ZbW (x : N2.ZA) (t : List N2.ZA) (n : Int) : getL (x :: t) n = if x.ID = n then some x else getL t n := by
 unfold getL
 rw [Zyf]
 by_cases h : x.ID = n
 ·simp [h]
 ·have : (x.ID == n) = false := by simpa using h
  rw [this, if_neg h]
theorem Zow (l : List N2.ZA) (k n : Int) : getL (l.filter fun y => y.ID != k) n = if n = k then none else getL l n := by
 induction l with
 | nil => simp [getL]
 | cons x t ih =>
  by_cases hx : x.ID = k
  ·rw [List.filter_cons_of_neg (by simp [hx]), ih, ZbW]
   by_cases hn : n = k
   ·rw [if_pos hn, if_pos hn]
   ·rw [if_neg hn, if_neg hn, if_neg (fun e => hn (by rw [← e, hx]))]
  ·rw [List.filter_cons_of_pos (by simp [hx]), ZbW, ih, ZbW]
   by_cases hn : n = k
   ·rw [if_pos hn, if_pos hn, if_neg (fun e => hx (e.trans hn))]
   ·rw [if_neg hn, if_neg hn]
theorem ZH7 (l : List N2.ZA) (r : N2.ZA) (n : Int) : getL (putL l r) n = if n = r.ID then some r else getL l n := by
 induction l with
 | nil =>
  rw [putL, ZbW]
  by_cases h : r.ID = n
  ·rw [if_pos h, if_pos h.symm]
  ·rw [if_neg h, if_neg fun e => h e.symm]
 | cons x t ih =>
  rw [putL]
  split
  ·rename_i hx
   rw [ZbW, ih, ZbW]
   by_cases hn : n = r.ID
   ·rw [if_pos hn, if_pos hn, if_neg (by omega)]
   ·rw [if_neg hn, if_neg hn]
  ·rw [ZbW, Zow]
   by_cases hn : n = r.ID
   ·rw [if_pos hn.symm, if_pos hn]
   ·rw [if_neg (fun e => hn e.symm), if_neg hn, if_neg hn]
theorem ZAr {l : List N2.ZA} {r y : N2.ZA} (h : y ∈ putL l r) : y = r ∨ y ∈ l := by
 induction l with
 | nil => rw [putL] at h; simpa using h
 | cons x t ih =>
  rw [putL] at h
  split at h
  ·rcases Z5g.1 h with rfl | h
   ·exact .inr (by simp)
   ·rcases ih h with h | h
    ·exact .inl h
    ·exact .inr (by simp [h])
  ·rcases Z5g.1 h with h | h
   ·exact .inl h
   ·exact .inr (Zdq.1 h).1
theorem ZCc {l : List N2.ZA} (h : ZfQ l) (r : N2.ZA) : ZfQ (putL l r) := by
 induction l with
 | nil => simp [putL, ZfQ]
 | cons x t ih =>
  obtain ⟨h1, h2⟩ := Zim.1 h
  rw [putL]
  split
  ·rename_i hx
   refine Zim.2 ⟨fun y hy => ?_, ih h2⟩
   rcases ZAr hy with rfl | hy
   ·exact hx
   ·exact h1 y hy
  ·rename_i hx
   refine Zim.2 ⟨fun y hy => ?_, h.filter _⟩
   obtain ⟨hy, hn⟩ := Zdq.1 hy
   have hn : y.ID ≠ r.ID := by simpa using hn
   rcases Z5g.1 hy with rfl | hy
   ·omega
   ·have := h1 y hy; omega
structure RelM (m : MR) (l : List N2.ZA) : Prop where
 nodup : (m.map (·.1)).Nodup
 sorted : ZfQ l
 get : ∀ n, getM m n = getL l n
theorem ZIp (m : MR) (n : Int) (y : N2.ZA) : ∀ k, k ∈ (putM m n y).map (·.1) ↔ k = n ∨ k ∈ m.map (·.1) := by
 intro k
 induction m with
 | nil => simp [putM]
 | cons q r ih =>
  rw [putM]
  split
  ·rename_i h
   simp [h]
  ·simp only [Z8x, Z5g, ih]
   constructor
   ·rintro (a | a | a)
    ·exact .inr (.inl a)
    ·exact .inl a
    ·exact .inr (.inr a)
   ·rintro (a | a | a)
    ·exact .inr (.inl a)
    ·exact .inl a
    ·exact .inr (.inr a)
theorem ZHi {m : MR} (h : (m.map (·.1)).Nodup) (n : Int) (y : N2.ZA) : ((putM m n y).map (·.1)).Nodup := by
 induction m with
 | nil => simp [putM]
 | cons q r ih =>
  simp only [Z8x, ZrU] at h
  rw [putM]
  split
  ·rename_i hq
   simp only [Z8x, ZrU]
   exact ⟨hq ▸ h.1, h.2⟩
  ·rename_i hq
   simp only [Z8x, ZrU]
   refine ⟨fun hk => ?_, ih h.2⟩
   rcases (ZIp r n y q.1).1 hk with e | e
   ·exact hq e
   ·exact h.1 e
theorem ZH9 {m : MR} {n : Int} (h : n ∉ m.map (·.1)) : getM m n = none := by
 induction m with
 | nil => rfl
 | cons q r ih =>
  simp only [Z8x, Z5g, not_or] at h
  rw [getM, if_neg (fun e => h.1 e.symm)]
  exact ih h.2
theorem ZIe {m : MR} {n : Int} : (getM m n).isSome = true ↔ n ∈ m.map (·.1) := by
 induction m with
 | nil => simp [getM]
 | cons q r ih =>
  rw [getM]
  split
  ·rename_i h; simp [h]
  ·rename_i h
   rw [ih, Z8x, Z5g]
   exact ⟨.inr, fun hh => hh.resolve_left fun e => h e.symm⟩
theorem ZJt (m : MR) (n : Int) : (delM m n).Sublist m := by
 induction m with
 | nil => exact .slnil
 | cons q r ih =>
  rw [delM]
  split
  ·exact List.sublist_cons_self _ _
  ·exact ih.cons_cons _
theorem ZId {m : MR} (h : (m.map (·.1)).Nodup) (n k : Int) : getM (delM m n) k = if k = n then none else getM m k := by
 induction m with
 | nil => simp [delM, getM]
 | cons q r ih =>
  simp only [Z8x, ZrU] at h
  rw [delM]
  split
  ·rename_i hq
   by_cases hk : k = n
   ·rw [if_pos hk]; exact ZH9 (by rw [hk, ← hq]; exact h.1)
   ·rw [if_neg hk, getM, if_neg (by rw [hq]; exact fun e => hk e.symm)]
  ·rename_i hq
   rw [getM, ih h.2, getM]
   by_cases hk : k = n
   ·rw [if_pos hk, if_pos hk, if_neg (fun e => hq (e.trans hk))]
   ·rw [if_neg hk, if_neg hk]
theorem RelM.nil : RelM [] [] := ⟨by simp, by simp [ZfQ], fun _ => rfl⟩
theorem RelM.put {m : MR} {l : List N2.ZA} (h : RelM m l) (r : N2.ZA) : RelM (putM m r.ID r) (putL l r) :=
 ⟨ZHi h.nodup _ _, ZCc h.sorted r, fun n => by rw [ZAj, ZH7, h.get]⟩
theorem RelM.del {m : MR} {l : List N2.ZA} (h : RelM m l) (n : Int) : RelM (delM m n) (l.filter fun y => y.ID != n) :=
 ⟨h.nodup.sublist ((ZJt m n).map _), h.sorted.filter _, fun k => by rw [ZId h.nodup, Zow, h.get]⟩
theorem RelM.mput {m : MR} {l : List N2.ZA} (h : RelM m l) : ∀ (L : List N2.ZA), RelM (mput m L) (L.foldl putL l)
 | [] => h
 | r :: L => RelM.mput (h.put r) L
theorem Zu4 {l : List N2.ZA} {n : Int} : (getL l n).isSome = true ↔ n ∈ ids l := by
 induction l with
 | nil => simp [getL, ids]
 | cons x t ih =>
  rw [ZbW]
  split
  ·rename_i h; simp [ids, h]
  ·rename_i h
   rw [ih]
   unfold ids
   rw [Z8x, Z5g]
   exact ⟨.inr, fun hh => hh.resolve_left fun e => h e.symm⟩
theorem ZBa {l : List N2.ZA} (h : ZfQ l) : (ids l).Nodup := by
 unfold ids
 rw [ZFe, List.pairwise_map]
 exact h.imp fun h => by omega
theorem RelM.perm {m : MR} {l : List N2.ZA} (h : RelM m l) : (m.map (·.1)).Perm (ids l) := by
 rw [List.perm_ext_iff_of_nodup h.nodup (ZBa h.sorted)]
 intro n
 rw [← ZIe, h.get, Zu4]
theorem RelM.length {m : MR} {l : List N2.ZA} (h : RelM m l) : m.length = l.length := by
 have := h.perm.length_eq
 simpa [ids] using this
theorem RelM.keys {m : MR} {l : List N2.ZA} (h : RelM m l) : ZgE m = ids l := by
 refine List.Perm.eq_of_pairwise (le := fun a b => a ≤ b) (fun a b _ _ h1 h2 => by omega) ?_ ?_ ((List.mergeSort_perm _ _).trans h.perm)
 ·have := List.pairwise_mergeSort (le := fun a b : Int => decide (a ≤ b)) (fun a b c h1 h2 => by simp at *; omega) (fun a b => by simp; omega) (m.map (·.1))
  exact this.imp fun h => by simpa using h
 ·unfold ids
  rw [List.pairwise_map]
  exact h.sorted.imp fun h => by omega
theorem ZH8 {l : List N2.ZA} (h : ZfQ l) : ∀ r ∈ l, getL l r.ID = some r := by
 induction l with
 | nil => simp
 | cons x t ih =>
  obtain ⟨h1, h2⟩ := Zim.1 h
  intro r hr
  rw [ZbW]
  rcases Z5g.1 hr with rfl | hr
  ·simp
  ·rw [if_neg (by have := h1 r hr; omega)]
   exact ih h2 r hr
theorem RelM.vals {m : MR} {l : List N2.ZA} (h : RelM m l) : ((ZgE m).map fun n => (getM m n).getD zR) = l := by
 rw [h.keys]
 unfold ids
 rw [Zqi]
 conv => rhs; rw [← List.map_id l]
 apply Zuj
 intro r hr
 simp [h.get, ZH8 h.sorted r hr]
theorem Zyv : ∀ (D : List Int) {m : MR} {l : List N2.ZA}, RelM m l → D.Nodup →
  (match ZgF D m with | none => ¬ ∀ n ∈ D, n ∈ ids l | some m' => (∀ n ∈ D, n ∈ ids l) ∧ RelM m' (l.filter fun y => !D.contains y.ID))
 | [], m, l, h, _ => ⟨by simp, by rw [ZFg.2 (by simp)]; exact h⟩
 | i :: D, m, l, h, hn => by
  obtain ⟨h1, h2⟩ := ZrU.1 hn
  unfold ZgF
  by_cases hi : (getM m i).isSome = true
  ·rw [if_pos hi]
   have ih := Zyv D (h.del i) h2
   have hm : i ∈ ids l := by rw [h.get, Zu4] at hi; exact hi
   have hk : (∀ n ∈ D, n ∈ ids (l.filter fun y => y.ID != i)) ↔ ∀ n ∈ D, n ∈ ids l := by
    constructor
    ·intro hh n hd
     have := hh n hd
     unfold ids at *
     obtain ⟨y, hy, e⟩ := Z7n.1 this
     exact Z7n.2 ⟨y, (Zdq.1 hy).1, e⟩
    ·intro hh n hd
     have := hh n hd
     unfold ids at *
     obtain ⟨y, hy, e⟩ := Z7n.1 this
     refine Z7n.2 ⟨y, Zdq.2 ⟨hy, ?_⟩, e⟩
     have : n ≠ i := fun e => h1 (e ▸ hd)
     simp only [bne_iff_ne, ne_eq, e]
     exact this
   cases hd : ZgF D (delM m i) with
   | none =>
    rw [hd] at ih
    intro hh
    exact ih (hk.2 fun n hn => hh n (by simp [hn]))
   | some m' =>
    rw [hd] at ih
    refine ⟨fun n hn => ?_, ?_⟩
    ·rcases Z5g.1 hn with rfl | hn
     ·exact hm
     ·exact hk.1 ih.1 n hn
    ·have := ih.2
     rw [List.filter_filter] at this
     have e : (l.filter fun y => !(i :: D).contains y.ID) = l.filter fun a => (!D.contains a.ID) && (a.ID != i) := by
      apply List.filter_congr
      intro y _
      rw [List.contains_cons, Bool.not_or, Bool.and_comm]
      rfl
     rw [e]
     exact this
  ·rw [if_neg hi]
   intro hh
   apply hi
   rw [h.get, Zu4]
   exact hh i (by simp)
theorem ZuG : ∀ {l : List N2.ZA} {n : Int}, asc n l = true → ZfQ l ∧ (∀ r ∈ l, n < r.ID) ∧ l.all okR = true
 | [], n, _ => ⟨.nil, by simp, rfl⟩
 | r :: l, n, h => by
  simp only [asc, q6_, decide_eq_true_eq] at h
  obtain ⟨⟨h1, h2⟩, h3⟩ := h
  obtain ⟨a, b, c⟩ := ZuG h3
  refine ⟨Zim.2 ⟨b, a⟩, ?_, by simp [h1, c]⟩
  intro x hx
  rcases Z5g.1 hx with rfl | hx
  ·exact h2
  ·have := b x hx; omega
theorem ZHG {l : List N2.ZA} {r : N2.ZA} (h : ∀ x ∈ l, x.ID < r.ID) : putL l r = l ++ [r] := by
 induction l with
 | nil => rfl
 | cons x t ih => rw [putL, if_pos (h x (by simp)), ih fun y hy => h y (by simp [hy])]; rfl
theorem Zyr : ∀ {L l : List N2.ZA}, ZfQ (l ++ L) → L.foldl putL l = l ++ L
 | [], l, _ => by simp
 | r :: L, l, h => by
  rw [Zh6, ZHG, Zyr]
  ·simp
  ·simpa using h
  ·intro x hx
   exact (List.pairwise_append.1 h).2.2 x hx r (by simp)
def ZaJ (s : N2.ZE) (d : N2.Z1e) : N2.ZE × Int :=
 if okS s = false then (zS, 10) else
 if okN (orI d.Default s.Default) (orI d.Closed s.Closed) (orI d.Fuel s.Fuel) (orI d.Stack s.Stack) = false ∨ d.Put.all okR = false then (zS, 30) else
 if ¬ (ids d.Put ++ d.Drop).Nodup then (zS, 31) else
 if ¬ ∀ n ∈ d.Drop, n ∈ ids s.Rules then (zS, 32) else
 if 16 < (d.Put.foldl putL (s.Rules.filter fun y => !d.Drop.contains y.ID)).length then (zS, 33) else
 (⟨orI d.Default s.Default, orI d.Closed s.Closed, orI d.Fuel s.Fuel, orI d.Stack s.Stack, d.Put.foldl putL (s.Rules.filter fun y => !d.Drop.contains y.ID)⟩, 0)
theorem ZF4 {s : N2.ZE} (h : okS s = true) : ZfQ s.Rules ∧ (∀ r ∈ s.Rules, 0 < r.ID) ∧ s.Rules.all okR = true := by
 unfold okS at h
 simp only [q6_] at h
 exact ZuG h.2
theorem ZFz (s : N2.ZE) (d : N2.Z1e) : N2.applyM s d = ZaJ s d := by
 unfold N2.applyM ZaJ
 by_cases hs : okS s = false
 ·rw [if_pos hs, if_pos hs]
 rw [if_neg hs, if_neg hs]
 by_cases hn : okN (orI d.Default s.Default) (orI d.Closed s.Closed) (orI d.Fuel s.Fuel) (orI d.Stack s.Stack) = false ∨ d.Put.all okR = false
 ·rw [if_pos hn, if_pos hn]
 rw [if_neg hn, if_neg hn]
 by_cases ht : ¬ (ids d.Put ++ d.Drop).Nodup
 ·rw [if_pos ht, if_pos ht]
 rw [if_neg ht, if_neg ht]
 have hd : d.Drop.Nodup := (ZAT.1 (Classical.not_not.1 ht)).2.1
 obtain ⟨o1, _, _⟩ := ZF4 (by simpa using hs)
 have hr : RelM (mput [] s.Rules) s.Rules := by
  have := RelM.nil.mput s.Rules
  rw [Zyr (by simpa using o1)] at this
  simpa using this
 have := Zyv d.Drop hr hd
 cases hm : ZgF d.Drop (mput [] s.Rules) with
 | none =>
  rw [hm] at this
  rw [if_pos this]
 | some m =>
  rw [hm] at this
  rw [if_neg (fun h => h this.1)]
  have hp := this.2.mput d.Put
  simp only
  rw [hp.length, hp.vals]
theorem ZFA (s : N2.ZE) (d : N2.Z1e) (h1 : d.Put.length ≤ 1000000) (h2 : d.Drop.length ≤ 1000000) : N2.Zek s d = some (ZaJ s d) := by
 rw [N2.g_rule_Apply_val s d h1 h2, ZFz]
end Go.Proofs.YteoeggbihfnbfaaGreatDoor
end
section
namespace Go.Proofs.YteoeggbihfnbfaaGreatDoor
open Go Go.Abs
theorem ZB7 {a b : ByteArray} : seq a b = true ↔ a = b := by
 unfold seq
 rw [beq_iff_eq, ByteArray.toList_eq, ByteArray.toList_eq]
 obtain ⟨⟨x⟩⟩ := a
 obtain ⟨⟨y⟩⟩ := b
 simp
namespace N2
end N2
namespace N2
theorem filter_self (l : List N2.ZA) : (l.filter fun y => !([] : List Int).contains y.ID) = l := ZFg.2 (by simp)
end N2
theorem ZFy {s : N2.ZE} {d : N2.Z1e} (h1 : okS s = true) (h2 : okN (orI d.Default s.Default) (orI d.Closed s.Closed) (orI d.Fuel s.Fuel) (orI d.Stack s.Stack) = true) (h3 : d.Put.all okR = true)
  (h4 : (ids d.Put ++ d.Drop).Nodup) (h5 : ∀ n ∈ d.Drop, n ∈ ids s.Rules) (h6 : (d.Put.foldl putL (s.Rules.filter fun y => !d.Drop.contains y.ID)).length ≤ 16) :
  ZaJ s d = (⟨orI d.Default s.Default, orI d.Closed s.Closed, orI d.Fuel s.Fuel, orI d.Stack s.Stack, d.Put.foldl putL (s.Rules.filter fun y => !d.Drop.contains y.ID)⟩, 0) := by
 unfold ZaJ
 rw [if_neg (by simp [h1]), if_neg (by simp [h2, h3]), if_neg (by simpa using h4), if_neg (by simpa using h5), if_neg (by omega)]
namespace N2
end N2
end Go.Proofs.YteoeggbihfnbfaaGreatDoor
end
section
namespace Go.Proofs.YteoeggbihfnbfaaGreatDoor
open Go Go.Abs
namespace N2
end N2
namespace N2
end N2
namespace N2
end N2
namespace N2
end N2
namespace N2
end N2
end Go.Proofs.YteoeggbihfnbfaaGreatDoor
end
section
namespace Go.Proofs.YteoeggbihfnbfaaGreatDoor
open Go Go.Abs
noncomputable def patF (x : ByteArray) : N2.ZR := (N2.Z6e x).getD ⟨0, 0, 0⟩
abbrev Fine (r : N2.ZA) : Prop := (patF r.Pattern).Code = 0
noncomputable def badF (r : N2.ZA) : N2.ZR := ⟨(patF r.Pattern).Code, r.ID, (patF r.Pattern).At⟩
noncomputable def Zc4 : List N2.ZA → N2.ZR
 | [] => ⟨0, 0, 0⟩
 | r :: l => if (patF r.Pattern).Code = 0 then Zc4 l else badF r
noncomputable def Zbe (s : N2.ZE) : N2.ZR := if okS s = false then ⟨10, 0, 0⟩ else Zc4 s.Rules
noncomputable def Z8g (s : N2.ZE) (d : N2.Z1e) : N2.ZE × N2.ZR :=
 if (ZaJ s d).2 ≠ 0 then (zS, ⟨(ZaJ s d).2, 0, 0⟩) else if (Zbe (ZaJ s d).1).Code ≠ 0 then (zS, Zbe (ZaJ s d).1) else ((ZaJ s d).1, ⟨0, 0, 0⟩)
theorem Zqu : ∀ {l : List N2.ZA}, (∀ r ∈ l, Fine r) → Zc4 l = ⟨0, 0, 0⟩
 | [], _ => rfl
 | r :: l, h => by rw [Zc4, if_pos (h r (by simp)), Zqu fun x hx => h x (by simp [hx])]
theorem Zqv : ∀ {l : List N2.ZA}, (Zc4 l).Code = 0 → ∀ r ∈ l, Fine r
 | [], _ => by simp
 | r :: l, h => by
  intro x hx
  rw [Zc4] at h
  split at h
  ·rename_i hr
   rcases Z5g.1 hx with rfl | hx
   ·exact hr
   ·exact Zqv h x hx
  ·rename_i hr
   exact absurd h hr
theorem Zrk {x : N2.ZA} : ∀ {l : List N2.ZA}, (∀ r ∈ l, r = x ∨ Fine r) → x ∈ l → ¬ Fine x → Zc4 l = badF x
 | [], _, h, _ => by simp at h
 | r :: l, h1, h2, h3 => by
  rw [Zc4]
  split
  ·rename_i hr
   have : x ≠ r := fun e => h3 (e ▸ hr)
   rcases Z5g.1 h2 with e | h2
   ·exact absurd e this
   ·exact Zrk (fun y hy => h1 y (by simp [hy])) h2 h3
  ·rename_i hr
   rcases h1 r (by simp) with rfl | h
   ·rfl
   ·exact absurd h hr
theorem ZCa {s : N2.ZE} (h : (Zbe s).Code = 0) : okS s = true ∧ ∀ r ∈ s.Rules, Fine r := by
 unfold Zbe at h
 split at h
 ·simp at h
 ·rename_i hs
  exact ⟨by simpa using hs, Zqv h⟩
theorem ZC9 {s : N2.ZE} (h : okS s = true) (h2 : ∀ r ∈ s.Rules, Fine r) : Zbe s = ⟨0, 0, 0⟩ := by
 unfold Zbe
 rw [if_neg (by simp [h]), Zqu h2]
abbrev put1 (x : N2.ZA) : N2.Z1e := ⟨-1, -1, -1, -1, [x], []⟩
theorem ZJl {s : N2.ZE} (h : okS s = true) : okN s.Default s.Closed s.Fuel s.Stack = true := by
 unfold okS at h
 simp only [q6_] at h
 exact h.1.1
theorem Zug (n : Int) : orI (-1) n = n := by simp [orI]
theorem ZuF {s : N2.ZE} {x : N2.ZA} (h : okS s = true) (hx : okR x = true) : ZaJ s (put1 x) = if (putL s.Rules x).length ≤ 16 then (⟨s.Default, s.Closed, s.Fuel, s.Stack, putL s.Rules x⟩, 0) else (zS, 33) := by
 have hf : (s.Rules.filter fun y => !([] : List Int).contains y.ID) = s.Rules := N2.filter_self _
 by_cases hl : (putL s.Rules x).length ≤ 16
 ·rw [if_pos hl]
  have := ZFy (s := s) (d := put1 x) h (by simp only [Zug]; exact ZJl h) (by simp [hx]) (by simp [ids]) (by simp) (by rw [hf]; simpa using hl)
  rw [this, hf]
  simp only [Zug, Zh6, List.foldl_nil]
 ·rw [if_neg hl]
  unfold ZaJ
  simp only [Zug]
  rw [if_neg (by simp [h]), if_neg (by simp [ZJl h, hx]), if_neg (by simp [ids])]
  rw [if_neg (by simp), hf]
  rw [if_pos (by simpa using hl)]
theorem ZD3 {s : N2.ZE} {d : N2.Z1e} (h : (Z8g s d).2.Code = 0) : okS (Z8g s d).1 = true := by
 unfold Z8g at h ⊢
 split at h
 ·rename_i he
  exact absurd h he
 ·rename_i he
  rw [if_neg he]
  split at h
  ·rename_i hc
   exact absurd h hc
  ·rename_i hc
   rw [if_neg hc]
   exact (ZCa (by simpa using hc)).1
theorem Zz2 {s : N2.ZE} {d : N2.Z1e} (h : (Z8g s d).2.Code = 0) : (Zbe (Z8g s d).1).Code = 0 := by
 unfold Z8g at h ⊢
 split at h
 ·rename_i he
  exact absurd h he
 ·rename_i he
  rw [if_neg he]
  split at h
  ·rename_i hc
   exact absurd h hc
  ·rename_i hc
   rw [if_neg hc]
   simpa using hc
end Go.Proofs.YteoeggbihfnbfaaGreatDoor
end
section
namespace Go.Proofs.YteoeggbihfnbfaaGreatDoor.N2
open Go Go.Abs Go.Proofs.Unis Go.Proofs.Norm
set_option maxRecDepth 100000
theorem ZFa (x : ByteArray) : ∃ v, Z6e x = some v ∧ v.Rule = 0 := by
 by_cases h : (Z8R x).2.Code = 0
 ·obtain ⟨v, hv⟩ := ZIf (ZF9 h)
  refine ⟨⟨chkF v, 0, 0⟩, ?_, rfl⟩
  apply Zax
  unfold Z7r Z8M
  rw [ZmS, q0_, if_neg (ZeO h)]
  rw [show (Z8R x).1 = ⟨(Z8R x).1.Root, (Z8R x).1.Groups, (Z8R x).1.Fold⟩ from rfl, Zyh hv, q0_]
 ·refine ⟨⟨(Z8R x).2.Code, 0, (Z8R x).2.At⟩, ?_, rfl⟩
  apply Zax
  unfold Z7r
  rw [ZmS, q0_, if_pos (ZeP h)]
theorem ZC4 (x : ByteArray) : Z6e x = some (patF x) := by
 obtain ⟨v, h, _⟩ := ZFa x
 unfold patF
 rw [h]
 rfl
theorem ZFk (L : List ZA) (hl : L.length ≤ 1000000) : ∀ (k i : Nat), i + k = L.length → Z9O L (L.length : Int) (i : Int) = some (Zc4 (L.drop i)) := by
 intro k
 induction k with
 | zero =>
  intro i h
  apply Zhm
  unfold Z9K Zbt
  rw [if_neg (Z2C (by omega)), q9_ (by omega)]
  rfl
 | succ k ih =>
  intro i h
  have hi : i < L.length := by omega
  have ih := ih (i + 1) (by omega)
  apply Zhm
  unfold Z9K ZbP Zbs
  rw [if_pos (Z2F (by omega)), Z3a, q2_ hi, q0_, ZC4, q0_, Zdp hi, Zc4]
  by_cases hc : (patF L[i].Pattern).Code = 0
  ·rw [if_neg (ZeO hc), if_pos hc, wrap_i64 (by omega) (by omega)]
   exact ih
  ·rw [if_pos (ZeP hc), if_neg hc]
   rfl
theorem ZHJ (s : ZE) : Ze1 s = some (Zbe s) := by
 apply Zrz
 unfold ZdW ZbO Zbe
 rw [Zi0, q0_]
 cases h : okS s with
 | false => rfl
 | true =>
  rw [if_neg (by simp), if_neg (by simp)]
  exact ZFk s.Rules (Zip (Zy9 h) (by omega)) s.Rules.length 0 (by omega)
theorem ZD4 (s : ZE) (d : Z1e) (h1 : d.Put.length ≤ 1000000) (h2 : d.Drop.length ≤ 1000000) : Zdm s d = some (Z8g s d) := by
 apply ZqO
 unfold Zdg Zbq Zbr Z8g
 rw [ZFA s d h1 h2, q0_]
 by_cases h : (ZaJ s d).2 = 0
 ·rw [if_neg (ZeO h), if_neg (by simp [h]), ZHJ, q0_]
  by_cases hc : (Zbe (ZaJ s d).1).Code = 0
  ·rw [if_neg (ZeO hc), if_neg (by simp [hc])]
  ·rw [if_pos (ZeP hc), if_pos hc]
   rfl
 ·rw [if_pos (ZeP h), if_pos h]
  rfl
theorem ZLb {x : ByteArray} (h : (Z8R x).2.Code ≠ 0) : patF x = ⟨(Z8R x).2.Code, 0, (Z8R x).2.At⟩ := by
 have : Z6e x = some ⟨(Z8R x).2.Code, 0, (Z8R x).2.At⟩ := by
  apply Zax
  unfold Z7r
  rw [ZmS, q0_, if_pos (ZeP h)]
 unfold patF
 rw [this]
 rfl
end Go.Proofs.YteoeggbihfnbfaaGreatDoor.N2
end
