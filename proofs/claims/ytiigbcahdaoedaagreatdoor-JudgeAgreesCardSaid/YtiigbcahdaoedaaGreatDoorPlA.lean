/- States, entries and what is committed, as plain functions. No condition. -/
import Derived.Test.YtiigbcahdaoedaaGreatDoorTypB
import Derived.Test.YtiigbcahdaoedaaGreatDoorTypC

set_option linter.unusedSimpArgs false
set_option linter.unusedVariables false
set_option linter.defProp false
section
namespace Go.Proofs.YtiigbcahdaoedaaGreatDoor.N2
open Go Go.Abs
set_option maxRecDepth 100000
theorem Zbm {a b : Int} (h : a = b) : (a == b) = true := by simpa using h
theorem Z9Z {a b : Int} (h : ¬ a = b) : ¬ ((a == b) = true) := by simpa using h
theorem Z4L {a b : Int} (h : ¬ a = b) : (a != b) = true := by simpa using h
theorem Z4K {a b : Int} (h : a = b) : ¬ ((a != b) = true) := by simpa using h
theorem ZY {c : Prop} [Decidable c] (h : c) : decide c = true := decide_eq_true h
theorem ZX {c : Prop} [Decidable c] (h : ¬ c) : ¬ (decide c = true) := by simpa using h
theorem Z18 {α : Type} (l : List α) (i : Nat) : lget l (i : Int) = l[i]? := by simp [lget]
theorem Z8s {α : Type} (l : List α) (a : α) (h : l.length ≤ 1000000000) : lapp l [a] = some (l ++ [a]) := by
 unfold lapp
 rw [if_pos (by rw [List.length_singleton]; unfold lim; omega)]
def okR (r : Z4) : Bool := decide (1 ≤ r.ID ∧ r.ID ≤ 1099511627776 ∧ 0 ≤ r.Priority ∧ r.Priority ≤ 1000 ∧ 0 ≤ r.Action ∧ r.Action ≤ 255 ∧ 1 ≤ r.Scope ∧ r.Scope ≤ 65535 ∧ (r.Pattern.size : Int) ≤ 256)
theorem Zf2 (r : Z4) : Z76 r = some (okR r) := by
 apply ZfN
 unfold Z75 okR
 repeat' split
 all_goals simp_all
 all_goals omega
def okD (n : Int) : Bool := decide (1 ≤ n) && decide (n ≤ 1099511627776)
def okE (e : Z8) : Bool :=
 decide (0 ≤ e.View ∧ e.View ≤ 1099511627776 ∧ 1 ≤ e.Client ∧ e.Client ≤ 1099511627776 ∧ 1 ≤ e.Request ∧ e.Request ≤ 1099511627776 ∧ -1 ≤ e.Delta.Default ∧ e.Delta.Default ≤ 1099511627776 ∧ -1 ≤ e.Delta.Closed ∧ e.Delta.Closed ≤ 1099511627776 ∧
  -1 ≤ e.Delta.Fuel ∧ e.Delta.Fuel ≤ 1099511627776 ∧ -1 ≤ e.Delta.Stack ∧ e.Delta.Stack ≤ 1099511627776 ∧ (e.Delta.Put.length : Int) ≤ 16 ∧ (e.Delta.Drop.length : Int) ≤ 16) && e.Delta.Put.all okR && e.Delta.Drop.all okD
theorem Zk2 (n k : Int) : Z2G n k = some (decide (k ≤ n ∧ n ≤ 1099511627776)) := by
 apply ZiA
 unfold Z9A
 by_cases h : k ≤ n
 ·rw [if_pos (ZY h)]
  simp [h]
 ·rw [if_neg (ZX h)]
  simp [h]
theorem Zte (L : List Z4) (hl : L.length ≤ 1000000) : ∀ (d i : Nat), i + d = L.length → ∃ n, Z2j L (L.length : Int) (i : Int) = some n ∧ decide (0 ≤ n) = (L.drop i).any fun r => !okR r := by
 intro d
 induction d with
 | zero =>
  intro i h
  refine ⟨-1, ?_, by rw [q5_ (by omega)]; rfl⟩
  apply Z3Q
  unfold Z1P
  rw [if_neg (ZX (by omega))]
  rfl
 | succ d ih =>
  intro i h
  have hi : i < L.length := by omega
  rw [Z6f hi]
  obtain ⟨n, h1, h2⟩ := ih (i + 1) (by omega)
  have hv : Z5L L[i] = some (!okR L[i]) := ZdS _ (by unfold Z5D; rw [Zf2]; rfl)
  cases hr : okR L[i] with
  | false =>
   refine ⟨i, ?_, by simp only [ZkX, hr]; simp⟩
   apply Z3Q
   unfold Z1P Z2h
   rw [if_pos (ZY (by omega)), Z18, q2_ hi, ZV, hv, ZV, hr, if_pos (by rfl)]
  | true =>
   refine ⟨n, ?_, by simp only [ZkX, hr, h2]; simp⟩
   apply Z3Q
   unfold Z1P Z2h Z31
   rw [if_pos (ZY (by omega)), Z18, q2_ hi, ZV, hv, ZV, hr, if_neg (by simp), wrap_i64 (by omega) (by omega)]
   exact h1
theorem Zpo (L : List Int) (hl : L.length ≤ 1000000) : ∀ (d i : Nat), i + d = L.length → ∃ n, Z2s L (L.length : Int) (i : Int) = some n ∧ decide (0 ≤ n) = (L.drop i).any fun r => !okD r := by
 intro d
 induction d with
 | zero =>
  intro i h
  refine ⟨-1, ?_, by rw [q5_ (by omega)]; rfl⟩
  apply Z3Y
  unfold Z1T
  rw [if_neg (ZX (by omega))]
  rfl
 | succ d ih =>
  intro i h
  have hi : i < L.length := by omega
  rw [Z6f hi]
  obtain ⟨n, h1, h2⟩ := ih (i + 1) (by omega)
  have hv : Z5M L[i] = some (!okD L[i]) := ZdU _ (by unfold Z5E okD; rw [Zk2]; simp)
  cases hr : okD L[i] with
  | false =>
   refine ⟨i, ?_, by simp only [ZkX, hr]; simp⟩
   apply Z3Y
   unfold Z1T Z2r
   rw [if_pos (ZY (by omega)), Z18, q2_ hi, ZV, hv, ZV, hr, if_pos (by rfl)]
  | true =>
   refine ⟨n, ?_, by simp only [ZkX, hr, h2]; simp⟩
   apply Z3Y
   unfold Z1T Z2r Z39
   rw [if_pos (ZY (by omega)), Z18, q2_ hi, ZV, hv, ZV, hr, if_neg (by simp), wrap_i64 (by omega) (by omega)]
   exact h1
theorem Zkn (e : Z8) : Z6K e = some (okE e) := by
 have hp : e.Delta.Put.length ≤ 16 → Z35 e.Delta.Put = some (!e.Delta.Put.all okR) := by
  intro h
  obtain ⟨n, h1, h2⟩ := Zte e.Delta.Put (by omega) e.Delta.Put.length 0 (by omega)
  have h3 : Z3H e.Delta.Put = some n := ZaI _ (by unfold Z3G; exact h1)
  apply Z9n
  unfold Z30
  rw [h3, ZV, h2]
  simp [List.all_eq_not_any_not]
 have hd : e.Delta.Drop.length ≤ 16 → Z3c e.Delta.Drop = some (!e.Delta.Drop.all okD) := by
  intro h
  obtain ⟨n, h1, h2⟩ := Zpo e.Delta.Drop (by omega) e.Delta.Drop.length 0 (by omega)
  have h3 : Z3W e.Delta.Drop = some n := Zb5 _ (by unfold Z3T; exact h1)
  apply Z9P
  unfold Z38
  rw [h3, ZV, h2]
  simp [List.all_eq_not_any_not]
 apply ZeV
 unfold Z6B okE
 simp only [Zk2, ZV]
 by_cases c1 : 0 ≤ e.View ∧ e.View ≤ 1099511627776
 case neg => rw [if_neg (by simpa using c1)]; simp; omega
 rw [if_pos (by simpa using c1)]
 by_cases c2 : 1 ≤ e.Client ∧ e.Client ≤ 1099511627776
 case neg => rw [if_neg (by simpa using c2)]; simp; omega
 rw [if_pos (by simpa using c2)]
 by_cases c3 : 1 ≤ e.Request ∧ e.Request ≤ 1099511627776
 case neg => rw [if_neg (by simpa using c3)]; simp; omega
 rw [if_pos (by simpa using c3)]
 by_cases c4 : -1 ≤ e.Delta.Default ∧ e.Delta.Default ≤ 1099511627776
 case neg => rw [if_neg (by simpa using c4)]; simp; omega
 rw [if_pos (by simpa using c4)]
 by_cases c5 : -1 ≤ e.Delta.Closed ∧ e.Delta.Closed ≤ 1099511627776
 case neg => rw [if_neg (by simpa using c5)]; simp; omega
 rw [if_pos (by simpa using c5)]
 by_cases c6 : -1 ≤ e.Delta.Fuel ∧ e.Delta.Fuel ≤ 1099511627776
 case neg => rw [if_neg (by simpa using c6)]; simp; omega
 rw [if_pos (by simpa using c6)]
 by_cases c7 : -1 ≤ e.Delta.Stack ∧ e.Delta.Stack ≤ 1099511627776
 case neg => rw [if_neg (by simpa using c7)]; simp; omega
 rw [if_pos (by simpa using c7)]
 by_cases c8 : (e.Delta.Put.length : Int) ≤ 16
 case neg => rw [if_neg (ZX c8)]; simp; omega
 rw [if_pos (ZY c8)]
 by_cases c9 : (e.Delta.Drop.length : Int) ≤ 16
 case neg => rw [if_neg (ZX c9)]; simp; omega
 rw [if_pos (ZY c9), hp (by omega), ZV, decide_eq_true (by omega), Z6g]
 cases e.Delta.Put.all okR with
 | false => rfl
 | true =>
  rw [if_pos (by rfl), hd (by omega), ZV]
  simp
theorem ZuU {e : Z8} (h : okE e = true) : e.Delta.Put.length ≤ 16 ∧ e.Delta.Drop.length ≤ 16 := by
 unfold okE at h
 simp only [q9_, decide_eq_true_eq] at h
 omega
abbrev zSt : Z0 := ⟨0, 0, 0, 0, []⟩
def okSt (s : Z0) : Bool :=
 decide (0 ≤ s.View ∧ s.View ≤ 1099511627776 ∧ 0 ≤ s.Normal ∧ s.Normal ≤ s.View ∧ (s.Log.length : Int) ≤ 64 ∧ 0 ≤ s.Commit ∧ s.Commit ≤ (s.Log.length : Int) ∧ 0 ≤ s.Active ∧ s.Active ≤ 64) && s.Log.all okE
theorem ZsS (L : List Z8) (hl : L.length ≤ 1000000) : ∀ (d i : Nat), i + d = L.length → ∃ n, Z2a L (L.length : Int) (i : Int) = some n ∧ decide (0 ≤ n) = (L.drop i).any fun r => !okE r := by
 intro d
 induction d with
 | zero =>
  intro i h
  refine ⟨-1, ?_, by rw [q5_ (by omega)]; rfl⟩
  apply Z3A
  unfold Z1K
  rw [if_neg (ZX (by omega))]
  rfl
 | succ d ih =>
  intro i h
  have hi : i < L.length := by omega
  rw [Z6f hi]
  obtain ⟨n, h1, h2⟩ := ih (i + 1) (by omega)
  have hv : Z58 L[i] = some (!okE L[i]) := Zd5 _ (by unfold Z4S; rw [Zkn]; rfl)
  cases hr : okE L[i] with
  | false =>
   refine ⟨i, ?_, by simp only [ZkX, hr]; simp⟩
   apply Z3A
   unfold Z1K Z28
   rw [if_pos (ZY (by omega)), Z18, q2_ hi, ZV, hv, ZV, hr, if_pos (by rfl)]
  | true =>
   refine ⟨n, ?_, by simp only [ZkX, hr, h2]; simp⟩
   apply Z3A
   unfold Z1K Z28 Z2P
   rw [if_pos (ZY (by omega)), Z18, q2_ hi, ZV, hv, ZV, hr, if_neg (by simp), wrap_i64 (by omega) (by omega)]
   exact h1
theorem Zl1 (s : Z0) : Z3r s = some (okSt s) := by
 have hp : s.Log.length ≤ 64 → Z2Q s.Log = some (!s.Log.all okE) := by
  intro h
  obtain ⟨n, h1, h2⟩ := ZsS s.Log (by omega) s.Log.length 0 (by omega)
  have h3 : Z3u s.Log = some n := Zae _ (by unfold Z3q; exact h1)
  apply Z98
  unfold Z2L
  rw [h3, ZV, h2]
  simp [List.all_eq_not_any_not]
 apply ZdR
 unfold Z5C okSt
 by_cases c1 : 0 ≤ s.View
 case neg => rw [if_neg (ZX c1)]; simp; omega
 rw [if_pos (ZY c1)]
 by_cases c2 : s.View ≤ 1099511627776
 case neg => rw [if_neg (ZX c2)]; simp; omega
 rw [if_pos (ZY c2)]
 by_cases c3 : 0 ≤ s.Normal
 case neg => rw [if_neg (ZX c3)]; simp; omega
 rw [if_pos (ZY c3)]
 by_cases c4 : s.Normal ≤ s.View
 case neg => rw [if_neg (ZX c4)]; simp; omega
 rw [if_pos (ZY c4)]
 by_cases c5 : (s.Log.length : Int) ≤ 64
 case neg => rw [if_neg (ZX c5)]; simp; omega
 rw [if_pos (ZY c5)]
 by_cases c6 : 0 ≤ s.Commit
 case neg => rw [if_neg (ZX c6)]; simp; omega
 rw [if_pos (ZY c6)]
 by_cases c7 : s.Commit ≤ (s.Log.length : Int)
 case neg => rw [if_neg (ZX c7)]; simp; omega
 rw [if_pos (ZY c7)]
 by_cases c8 : 0 ≤ s.Active
 case neg => rw [if_neg (ZX c8)]; simp; omega
 rw [if_pos (ZY c8)]
 by_cases c9 : s.Active ≤ 64
 case neg => rw [if_neg (ZX c9)]; simp; omega
 rw [if_pos (ZY c9), hp (by omega), ZV, decide_eq_true (by omega), Z6g, Bool.not_not]
def Z55 (s : Z0) : Z0 := if okSt s = true then s else zSt
def Z2K (l : List Z0) : List Z0 := l.map Z55
theorem Zqf (L : List Z0) (hl : L.length ≤ 1000000) : ∀ (d i : Nat), i + d = L.length → Z67 ((L.take i).map Z55) L (L.length : Int) (i : Int) = some (Z2K L) := by
 intro d
 induction d with
 | zero =>
  intro i h
  apply Zbb
  unfold Z5W Z7z
  rw [if_neg (ZX (by omega)), ZkP (by omega)]
  rfl
 | succ d ih =>
  intro i h
  have hi : i < L.length := by omega
  have key := ih (i + 1) (by omega)
  have hlen : ((L.take i).map Z55).length ≤ 1000000000 := by rw [q8_, Z9f]; omega
  have e : (L.take i).map Z55 ++ [Z55 L[i]] = (L.take (i + 1)).map Z55 := by
   rw [← ZkQ hi, ZhA]
   rfl
  apply Zbb
  unfold Z5W Z7x
  rw [if_pos (ZY (by omega)), Z18, q2_ hi, ZV, Zl1, ZV]
  cases hr : okSt L[i] with
  | false =>
   rw [if_pos (by rfl)]
   unfold Z7y Z4I
   have : Z55 L[i] = ⟨0, 0, 0, 0, []⟩ := by unfold Z55; rw [if_neg (by simp [hr])]
   rw [Z8s _ _ hlen, ZV, wrap_i64 (by omega) (by omega), ← this, e]
   exact key
  | true =>
   rw [if_neg (by simp)]
   unfold Z6A Z4I
   have : Z55 L[i] = L[i] := by unfold Z55; rw [if_pos hr]
   rw [Z8s _ _ hlen, ZV, wrap_i64 (by omega) (by omega)]
   rw [this] at e
   rw [e]
   exact key
theorem Ze9 (l : List Z0) (hl : l.length ≤ 1000000) : Z6q l = some (Z2K l) := by
 apply Ziz
 unfold Z9z
 exact Zqf l hl l.length 0 (by omega)
end Go.Proofs.YtiigbcahdaoedaaGreatDoor.N2
end
section
namespace Go.Proofs.YtiigbcahdaoedaaGreatDoor.N2
open Go Go.Abs
set_option maxRecDepth 100000
open Classical in
noncomputable def eqv {α : Type} (a b : α) : Bool := if a = b then true else false
theorem ZoL {α : Type} {a b : α} : eqv a b = true ↔ a = b := by unfold eqv; split <;> simp_all
theorem Z2p {α : Type} {a b : α} (h : a = b) : eqv a b = true := ZoL.2 h
theorem Z1x {α : Type} {a b : α} (h : ¬ a = b) : eqv a b = false := by
 cases e : eqv a b with
 | false => rfl
 | true => exact absurd (ZoL.1 e) h
theorem Zlt {α β : Type} {a b : α} {c d : β} (h : a = b ↔ c = d) : eqv a b = eqv c d := by
 by_cases e : a = b
 ·rw [Z2p e, Z2p (h.1 e)]
 ·rw [Z1x e, Z1x fun k => e (h.2 k)]
theorem Z9J {α : Type} (a b : α) (l m : List α) : eqv (a :: l) (b :: m) = (eqv a b && eqv l m) := by
 by_cases h1 : a = b
 ·subst h1
  rw [Z2p rfl, Z6g]
  exact Zlt (by simp)
 ·rw [Z1x h1, Zq6]
  exact Z1x (by simp [h1])
theorem Zx3 {a b : ByteArray} : Go.Abs.seq a b = true ↔ a = b := by
 unfold Go.Abs.seq
 rw [beq_iff_eq, ByteArray.toList_eq, ByteArray.toList_eq]
 obtain ⟨⟨x⟩⟩ := a
 obtain ⟨⟨y⟩⟩ := b
 simp
def eqR (a b : Z4) : Bool := (a.ID == b.ID) && ((a.Priority == b.Priority) && ((a.Action == b.Action) && ((a.Scope == b.Scope) && ((Go.Abs.seq a.Pattern b.Pattern) && true))))
theorem ZoK (a b : Z4) : eqR a b = eqv a b := by
 have h : eqR a b = true ↔ a = b := by
  unfold eqR
  simp only [q9_, beq_iff_eq, Zx3, and_true]
  constructor
  ·rintro ⟨h1, h2, h3, h4, h5⟩
   cases a; cases b
   simp only at h1 h2 h3 h4 h5
   subst h1; subst h2; subst h3; subst h4; subst h5
   rfl
  ·rintro rfl
   exact ⟨rfl, rfl, rfl, rfl, rfl⟩
 by_cases e : a = b
 ·rw [Z2p e, h.2 e]
 ·rw [Z1x e]
  cases k : eqR a b with
  | false => rfl
  | true => exact absurd (h.1 k) e
theorem ZtA (L M : List Int) (hl : L.length ≤ 1000000) (he : L.length = M.length) : ∀ (d i : Nat), i + d = L.length → Z42 L M (L.length : Int) (i : Int) = some (eqv (L.drop i) (M.drop i)) := by
 intro d
 induction d with
 | zero =>
  intro i h
  apply Z8p
  unfold Z40 Z5n
  rw [if_neg (ZX (by omega)), q5_ (by omega), q5_ (by omega), Z2p rfl]
 | succ d ih =>
  intro i h
  have hi : i < L.length := by omega
  have hj : i < M.length := by omega
  apply Z8p
  unfold Z40 Z5l Z5m
  rw [if_pos (ZY (by omega)), Z18, Z18, q2_ hi, q2_ hj, ZV, ZV, Z6f hi, Z6f hj, Z9J]
  by_cases e : L[i] = M[i]
  ·rw [if_neg (Z4K e), Z2p e, Z6g, wrap_i64 (by omega) (by omega)]
   exact ih (i + 1) (by omega)
  ·rw [if_pos (Z4L e), Z1x e]
   rfl
theorem ZuD (L M : List Int) (hl : L.length ≤ 1000000) : Z6N L M = some (eqv L M) := by
 apply Zf3
 unfold Z6E Z5k
 by_cases he : L.length = M.length
 ·rw [if_neg (Z4K (by omega))]
  exact ZtA L M hl he L.length 0 (by omega)
 ·rw [if_pos (Z4L (by omega)), Z1x fun k => he (congrArg List.length k)]
theorem ZtB (L M : List Z4) (hl : L.length ≤ 1000000) (he : L.length = M.length) : ∀ (d i : Nat), i + d = L.length → Z3P L M (L.length : Int) (i : Int) = some (eqv (L.drop i) (M.drop i)) := by
 intro d
 induction d with
 | zero =>
  intro i h
  apply Z8g
  unfold Z3N Z54
  rw [if_neg (ZX (by omega)), q5_ (by omega), q5_ (by omega), Z2p rfl]
 | succ d ih =>
  intro i h
  have hi : i < L.length := by omega
  have hj : i < M.length := by omega
  have hq := ZoK L[i] M[i]
  unfold eqR at hq
  apply Z8g
  unfold Z3N Z52 Z53
  rw [if_pos (ZY (by omega)), Z18, Z18, q2_ hi, q2_ hj, ZV, ZV, Z6f hi, Z6f hj, Z9J, hq]
  by_cases e : L[i] = M[i]
  ·rw [Z2p e, if_neg (by simp), Z6g, wrap_i64 (by omega) (by omega)]
   exact ih (i + 1) (by omega)
  ·rw [Z1x e, if_pos (by rfl)]
   rfl
theorem ZuE (L M : List Z4) (hl : L.length ≤ 1000000) : Z6o L M = some (eqv L M) := by
 apply Zet
 unfold Z6k Z51
 by_cases he : L.length = M.length
 ·rw [if_neg (Z4K (by omega))]
  exact ZtB L M hl he L.length 0 (by omega)
 ·rw [if_pos (Z4L (by omega)), Z1x fun k => he (congrArg List.length k)]
theorem Zu4 (a b : Z8) (h1 : a.Delta.Put.length ≤ 1000000) (h2 : a.Delta.Drop.length ≤ 1000000) : ZbM a b = some (eqv a b) := by
 have hab : a = b ↔ a.View = b.View ∧ a.Client = b.Client ∧ a.Request = b.Request ∧ a.Delta.Default = b.Delta.Default ∧ a.Delta.Closed = b.Delta.Closed ∧ a.Delta.Fuel = b.Delta.Fuel ∧ a.Delta.Stack = b.Delta.Stack ∧ a.Delta.Put = b.Delta.Put ∧ a.Delta.Drop = b.Delta.Drop := by
  obtain ⟨v, c, r, d1, d2, d3, d4, d5, d6⟩ := a
  obtain ⟨v', c', r', e1, e2, e3, e4, e5, e6⟩ := b
  simp [and_assoc]
 apply ZkL
 unfold ZbI
 by_cases c1 : a.View = b.View
 case neg => rw [if_neg (Z9Z c1), Z1x fun k => c1 (hab.1 k).1]
 rw [if_pos (Zbm c1)]
 by_cases c2 : a.Client = b.Client
 case neg => rw [if_neg (Z9Z c2), Z1x fun k => c2 (hab.1 k).2.1]
 rw [if_pos (Zbm c2)]
 by_cases c3 : a.Request = b.Request
 case neg => rw [if_neg (Z9Z c3), Z1x fun k => c3 (hab.1 k).2.2.1]
 rw [if_pos (Zbm c3)]
 by_cases c4 : a.Delta.Default = b.Delta.Default
 case neg => rw [if_neg (Z9Z c4), Z1x fun k => c4 (hab.1 k).2.2.2.1]
 rw [if_pos (Zbm c4)]
 by_cases c5 : a.Delta.Closed = b.Delta.Closed
 case neg => rw [if_neg (Z9Z c5), Z1x fun k => c5 (hab.1 k).2.2.2.2.1]
 rw [if_pos (Zbm c5)]
 by_cases c6 : a.Delta.Fuel = b.Delta.Fuel
 case neg => rw [if_neg (Z9Z c6), Z1x fun k => c6 (hab.1 k).2.2.2.2.2.1]
 rw [if_pos (Zbm c6)]
 by_cases c7 : a.Delta.Stack = b.Delta.Stack
 case neg => rw [if_neg (Z9Z c7), Z1x fun k => c7 (hab.1 k).2.2.2.2.2.2.1]
 rw [if_pos (Zbm c7), ZuE _ _ h1, ZV]
 by_cases c8 : a.Delta.Put = b.Delta.Put
 case neg => rw [Z1x c8, if_neg (by simp), Z1x fun k => c8 (hab.1 k).2.2.2.2.2.2.2.1]
 rw [Z2p c8, if_pos rfl, ZuD _ _ h2, ZV]
 exact congrArg some (Zlt ⟨fun h => hab.2 ⟨c1, c2, c3, c4, c5, c6, c7, c8, h⟩, fun h => (hab.1 h).2.2.2.2.2.2.2.2⟩)
def Sh (l : List Z8) : Prop := ∀ e ∈ l, e.Delta.Put.length ≤ 1000000 ∧ e.Delta.Drop.length ≤ 1000000
theorem Ztz (L M : List Z8) (hs : Sh L) (hl : L.length ≤ 1000000) (he : L.length = M.length) : ∀ (d i : Nat), i + d = L.length → Z29 M L (L.length : Int) (i : Int) = some (eqv (L.drop i) (M.drop i)) := by
 intro d
 induction d with
 | zero =>
  intro i h
  apply Z5v
  unfold Z27 Z2C
  rw [if_neg (ZX (by omega)), q5_ (by omega), q5_ (by omega), Z2p rfl]
 | succ d ih =>
  intro i h
  have hi : i < L.length := by omega
  have hj : i < M.length := by omega
  obtain ⟨s1, s2⟩ := hs L[i] (Z82 hi)
  apply Z5v
  unfold Z27 Z2N Z2O
  rw [if_pos (ZY (by omega)), Z18, Z18, q2_ hi, q2_ hj, ZV, ZV, Z6f hi, Z6f hj, Z9J, Zu4 _ _ s1 s2, ZV]
  by_cases e : L[i] = M[i]
  ·rw [Z2p e, if_neg (by simp), Z6g, wrap_i64 (by omega) (by omega)]
   exact ih (i + 1) (by omega)
  ·rw [Z1x e, if_pos (by rfl)]
   rfl
theorem Zld (L M : List Z8) (hs : Sh L) (hl : L.length ≤ 1000000) : Z9m L M = some (eqv L M) := by
 have h : Z3t L M = some (eqv L M) := by
  apply Zac
  unfold Z3p Z2M
  by_cases he : L.length = M.length
  ·rw [if_neg (Z4K (by omega))]
   exact Ztz L M hs hl he L.length 0 (by omega)
  ·rw [if_pos (Z4L (by omega)), Z1x fun k => he (congrArg List.length k)]
 apply ZkK
 unfold ZbH
 rw [h, ZV]
end Go.Proofs.YtiigbcahdaoedaaGreatDoor.N2
end
section
namespace Go.Proofs.YtiigbcahdaoedaaGreatDoor.N2
open Go Go.Abs
set_option maxRecDepth 100000
structure OkS (s : Z0) : Prop where
 view : 0 ≤ s.View ∧ s.View ≤ 1099511627776
 normal : 0 ≤ s.Normal ∧ s.Normal ≤ s.View
 len : s.Log.length ≤ 64
 commit : 0 ≤ s.Commit ∧ s.Commit ≤ (s.Log.length : Int)
 sh : Sh s.Log
theorem ZnH {s : Z0} (h : okSt s = true) : OkS s := by
 unfold okSt at h
 simp only [q9_, decide_eq_true_eq] at h
 obtain ⟨h1, h2⟩ := h
 refine ⟨by omega, by omega, by omega, by omega, fun e he => ?_⟩
 have := ZuU (Z4w.1 h2 e he)
 omega
theorem ZuV (s : Z0) : OkS (Z55 s) := by
 unfold Z55
 split
 ·rename_i h; exact ZnH h
 ·exact ZnH (by decide)
theorem Ze6 {l : List Z0} : ∀ s ∈ Z2K l, OkS s := by
 intro s hs
 obtain ⟨t, _, rfl⟩ := Z4g.1 hs
 exact ZuV t
theorem Z8V (l : List Z0) : (Z2K l).length = l.length := q8_ _
def Z3U (s : Z0) : List Z8 := s.Log.take s.Commit.toNat
theorem ZbB {α : Type} (l : List α) (n : Int) (h0 : 0 ≤ n) (h1 : n ≤ (l.length : Int)) : lsl l 0 n = some (l.take n.toNat) := by
 unfold lsl
 rw [if_pos (by omega)]
 simp
theorem Ziq {s : Z0} (h : OkS s) : Z7e s = some (Z3U s) := by
 apply ZjL
 unfold Zal
 rw [ZbB _ _ h.commit.1 h.commit.2, ZV]
 rfl
theorem ZuC {s : Z0} (h : OkS s) : Sh (Z3U s) := fun e he => h.sh e (ZiN he)
theorem Zfi {s : Z0} (h : OkS s) : (Z3U s).length = s.Commit.toNat := by
 unfold Z3U
 rw [Z9f]
 have := h.commit
 omega
noncomputable def Z8G (a b : List Z8) : Bool := eqv (a.take (min a.length b.length)) (b.take (min a.length b.length))
theorem Zpf (a b : List Z8) (hs : Sh a) (hl : a.length ≤ 1000) : Z8K a b = some (Z8G a b) := by
 have hm : (min (a.length : Int) (b.length : Int)) = ((min a.length b.length : Nat) : Int) := by omega
 apply Zi0
 unfold Z8E Z8G
 rw [hm, ZbB _ _ (by omega) (by omega), ZV, ZbB _ _ (by omega) (by omega), ZV, ZkR, Zld _ _ (fun e he => hs e (ZiN he)) (by rw [Z9f]; omega), ZV]
noncomputable def apF (l : List Z0) (i k : Nat) : Bool := match l[i]?, l[k]? with | some x, some y => !Z8G (Z3U x) (Z3U y) | _, _ => false
def Zf5 (ap : Nat → Nat → Bool) (k : Nat) : Nat → Nat → Option Nat
 | 0, _ => none
 | d + 1, i => if ap i k = true then some i else Zf5 ap k d (i + 1)
def ZaQ (ap : Nat → Nat → Bool) : Nat → Nat → Int × Int × Bool
 | 0, _ => (0, 0, true)
 | d + 1, k => match Zf5 ap k k 0 with | some i => ((i : Int), (k : Int), false) | none => ZaQ ap d (k + 1)
theorem Zoe (L : List Z0) (hL : L.length ≤ 1000000) (hok : ∀ s ∈ L, OkS s) (k : Nat) (hk : k < L.length) {r : Int × Int × Bool} (hr : Z4q L 0 0 L (L.length : Int) (k : Int) = some r) : ∀ (d i : Nat), i + d = k →
  Z66 L 0 0 (k : Int) L (L.length : Int) (k : Int) (L.take k) ((L.take k).length : Int) (i : Int) L[k] = some (match Zf5 (apF L) k d i with | some j => ((j : Int), (k : Int), false) | none => r) := by
 have htl : (L.take k).length = k := by rw [Z9f]; omega
 intro d
 induction d with
 | zero =>
  intro i h
  apply Zb9
  unfold Z5V
  rw [if_neg (ZX (by omega)), hr]
  rfl
 | succ d ih =>
  intro i h
  have hi : i < L.length := by omega
  have hx := hok L[i] (Z82 hi)
  have hy := hok L[k] (Z82 hk)
  have hg : (L.take k)[i]? = some L[i] := by rw [ZaS, if_pos (by omega), q2_ hi]
  have hap : apF L i k = !Z8G (Z3U L[i]) (Z3U L[k]) := by unfold apF; rw [q2_ hi, q2_ hk]
  apply Zb9
  unfold Z5V Z7t
  rw [if_pos (ZY (by omega)), Z18, hg, ZV, Ziq hx, ZV, Ziq hy, ZV, Zpf _ _ (ZuC hx) (by rw [Zfi hx]; have := hx.commit; have := hx.len; omega), ZV]
  unfold Zf5
  rw [hap]
  cases hb : Z8G (Z3U L[i]) (Z3U L[k]) with
  | true =>
   rw [if_pos rfl, if_neg (by simp)]
   unfold Z71
   rw [wrap_i64 (by omega) (by omega)]
   exact ih (i + 1) (by omega)
  | false =>
   rw [if_neg (by simp), if_pos (by rfl)]
   unfold Z7u Z4r
   rw [Bool.eq_false_iff.2 (Z9Z (by omega))]
theorem Zof (L : List Z0) (hL : L.length ≤ 1000000) (hok : ∀ s ∈ L, OkS s) : ∀ (d k : Nat), k + d = L.length → Z65 L 0 0 L (L.length : Int) (k : Int) = some (ZaQ (apF L) d k) := by
 intro d
 induction d with
 | zero =>
  intro k h
  apply Zb7
  unfold Z5U Z4r
  rw [if_neg (ZX (by omega))]
  rfl
 | succ d ih =>
  intro k h
  have hk : k < L.length := by omega
  have hr : Z4q L 0 0 L (L.length : Int) (k : Int) = some (ZaQ (apF L) d (k + 1)) := by
   unfold Z4q
   rw [wrap_i64 (by omega) (by omega)]
   exact ih (k + 1) (by omega)
  apply Zb7
  unfold Z5U Z7s
  rw [if_pos (ZY (by omega)), Z18, q2_ hk, ZV, ZbB _ _ (by omega) (by omega), ZV, ZkR]
  have key := Zoe L hL hok k hk hr k 0 (by omega)
  rw [ZaQ]
  exact key
theorem Zl3 (l : List Z0) (hl : l.length ≤ 1000000) : Z2f l = some (ZaQ (apF (Z2K l)) l.length 0) := by
 apply Ziw
 unfold Z9y
 rw [Ze9 l hl, ZV]
 have := Zof (Z2K l) (by rw [Z8V]; exact hl) Ze6 l.length 0 (by rw [Z8V]; omega)
 exact this
def dltF (d : Z26) : Z5 := ⟨d.Default, d.Closed, d.Fuel, d.Stack, d.Put, d.Drop⟩
def entF (e : Z8) : Zb := ⟨e.View, e.Client, e.Request, dltF e.Delta⟩
def stF (s : Z0) : Z1 := ⟨s.View, s.Normal, s.Commit, s.Active, s.Log.map entF⟩
theorem Ztx {a b : Z8} (h : entF a = entF b) : a = b := by
 obtain ⟨v, c, r, d1, d2, d3, d4, d5, d6⟩ := a
 obtain ⟨v', c', r', e1, e2, e3, e4, e5, e6⟩ := b
 simpa [entF, dltF] using h
theorem Ztu (L : List Z4) (hl : L.length ≤ 1000000) (a b c e : Int) (D : List Int) : ∀ (d i : Nat), i + d = L.length → Z3y L (L.length : Int) (i : Int) a b c e (L.take i) D = some ⟨a, b, c, e, L, D⟩ := by
 intro d
 induction d with
 | zero =>
  intro i h
  apply Z7R
  unfold Z3w Z4y
  rw [if_neg (ZX (by omega)), ZkP (by omega)]
 | succ d ih =>
  intro i h
  have hi : i < L.length := by omega
  apply Z7R
  unfold Z3w Z4x
  rw [if_pos (ZY (by omega)), Z18, q2_ hi, ZV, Z8s _ _ (by rw [Z9f]; omega), ZV, ZkQ hi, wrap_i64 (by omega) (by omega)]
  exact ih (i + 1) (by omega)
theorem ZuB (d : Z26) (h : d.Put.length ≤ 1000000) : Z5J d = some (dltF d) := by
 apply ZdN
 unfold Z5A
 exact Ztu d.Put h _ _ _ _ _ d.Put.length 0 (by omega)
theorem ZqH (L : List Z8) (hs : Sh L) (hl : L.length ≤ 1000000) : ∀ (d i : Nat), i + d = L.length → Z34 ((L.take i).map entF) L (L.length : Int) (i : Int) = some (L.map entF) := by
 intro d
 induction d with
 | zero =>
  intro i h
  apply Z7c
  unfold Z2Z Z47
  rw [if_neg (ZX (by omega)), ZkP (by omega)]
 | succ d ih =>
  intro i h
  have hi : i < L.length := by omega
  have e : (L.take i).map entF ++ [entF L[i]] = (L.take (i + 1)).map entF := by
   rw [← ZkQ hi, ZhA]
   rfl
  have key := ih (i + 1) (by omega)
  rw [← e] at key
  apply Z7c
  unfold Z2Z Z46
  rw [if_pos (ZY (by omega)), Z18, q2_ hi, ZV, ZuB _ (hs _ (Z82 hi)).1, ZV, Z8s _ _ (by rw [q8_, Z9f]; omega), ZV, wrap_i64 (by omega) (by omega)]
  exact key
theorem Zti (s : Z0) (hs : Sh s.Log) (hl : s.Log.length ≤ 1000000) : Z5K s = some (stF s) := by
 have h : Z57 s.Log = some (s.Log.map entF) := by
  apply Zd3
  unfold Z4R
  exact ZqH s.Log hs hl s.Log.length 0 (by omega)
 apply ZdP
 unfold Z5B
 rw [h, ZV]
 rfl
theorem Zki (a b c : Int) : Z2x a b c = some (decide (b ≤ a ∧ a ≤ c)) := by
 apply Zi4
 unfold Z8F
 by_cases h : b ≤ a
 ·rw [if_pos (ZY h)]
  simp [h]
 ·rw [if_neg (ZX h)]
  simp [h]
theorem Zoy (r : Z4) : Z6L r = some (okR r) := by
 apply ZeY
 unfold Z6C okR
 repeat' split
 all_goals simp_all
 all_goals omega
theorem ZnU (D : Z5) (hl : D.Drop.length ≤ 1000000) : ∀ (d i : Nat), i + d = D.Drop.length → Z3z (i : Int) D = some ((D.Drop.drop i).all okD) := by
 intro d
 induction d with
 | zero =>
  intro i h
  apply Z7T
  unfold Z3x Z4D
  rw [if_neg (ZX (by omega)), q5_ (by omega)]
  rfl
 | succ d ih =>
  intro i h
  have hi : i < D.Drop.length := by omega
  apply Z7T
  unfold Z3x Z4C Z4B
  have hd : decide (1 ≤ D.Drop[i] ∧ D.Drop[i] ≤ 1099511627776) = okD D.Drop[i] := by unfold okD; simp
  rw [if_pos (ZY (by omega)), Z18, q2_ hi, ZV, Zki, ZV, Z6f hi, List.all_cons, hd]
  cases h1 : okD D.Drop[i] with
  | false => rfl
  | true =>
   rw [if_neg (by simp), Z6g, wrap_i64 (by omega) (by omega)]
   exact ih (i + 1) (by omega)
theorem Zox (D : Z5) (hp : D.Put.length ≤ 1000000) (hl : D.Drop.length ≤ 1000000) : ∀ (d i : Nat), i + d = D.Put.length → Z2n (i : Int) D = some ((D.Put.drop i).all okR && D.Drop.all okD) := by
 intro d
 induction d with
 | zero =>
  intro i h
  apply Z8c
  unfold Z3L Z4A
  rw [if_neg (ZX (by omega)), q5_ (by omega)]
  exact ZnU D hl D.Drop.length 0 (by omega)
 | succ d ih =>
  intro i h
  have hi : i < D.Put.length := by omega
  apply Z8c
  unfold Z3L Z4W Z4V
  rw [if_pos (ZY (by omega)), Z18, q2_ hi, ZV, Zoy, ZV, Z6f hi, List.all_cons]
  cases h1 : okR D.Put[i] with
  | false => rfl
  | true =>
   rw [if_neg (by simp), Z6g, wrap_i64 (by omega) (by omega)]
   exact ih (i + 1) (by omega)
theorem ZnV (e : Z8) (h1 : e.Delta.Put.length ≤ 1000000) (h2 : e.Delta.Drop.length ≤ 1000000) : Z6l (entF e) = some (okE e) := by
 apply Zeo
 unfold Z6i Z1X Z4T Z2l Z4U okE
 simp only [Zki, ZV]
 have hl := Zox (dltF e.Delta) h1 h2 e.Delta.Put.length 0 (by show 0 + _ = e.Delta.Put.length; omega)
 have hl : Z2n 0 (dltF e.Delta) = some (e.Delta.Put.all okR && e.Delta.Drop.all okD) := hl
 show (if (!decide (0 ≤ e.View ∧ e.View ≤ 1099511627776)) = true then some false else if (!decide (1 ≤ e.Client ∧ e.Client ≤ 1099511627776)) = true then some false else if (!decide (1 ≤ e.Request ∧ e.Request ≤ 1099511627776)) = true then some false else
  if decide (16 < (e.Delta.Put.length : Int)) = true then some false else if decide (16 < (e.Delta.Drop.length : Int)) = true then some false else if (!decide (-1 ≤ e.Delta.Default ∧ e.Delta.Default ≤ 1099511627776)) = true then some false else
  if (!decide (-1 ≤ e.Delta.Closed ∧ e.Delta.Closed ≤ 1099511627776)) = true then some false else if (!decide (-1 ≤ e.Delta.Fuel ∧ e.Delta.Fuel ≤ 1099511627776)) = true then some false else if (!decide (-1 ≤ e.Delta.Stack ∧ e.Delta.Stack ≤ 1099511627776)) = true then some false else
  Z2n 0 (dltF e.Delta)) = _
 rw [hl]
 by_cases c1 : 0 ≤ e.View ∧ e.View ≤ 1099511627776
 case neg => rw [if_pos (by rw [decide_eq_false c1]; rfl)]; simp; omega
 rw [if_neg (by rw [decide_eq_true c1]; simp)]
 by_cases c2 : 1 ≤ e.Client ∧ e.Client ≤ 1099511627776
 case neg => rw [if_pos (by rw [decide_eq_false c2]; rfl)]; simp; omega
 rw [if_neg (by rw [decide_eq_true c2]; simp)]
 by_cases c3 : 1 ≤ e.Request ∧ e.Request ≤ 1099511627776
 case neg => rw [if_pos (by rw [decide_eq_false c3]; rfl)]; simp; omega
 rw [if_neg (by rw [decide_eq_true c3]; simp)]
 by_cases c8 : (e.Delta.Put.length : Int) ≤ 16
 case neg => rw [if_pos (ZY (by omega))]; simp; omega
 rw [if_neg (ZX (by omega))]
 by_cases c9 : (e.Delta.Drop.length : Int) ≤ 16
 case neg => rw [if_pos (ZY (by omega))]; simp; omega
 rw [if_neg (ZX (by omega))]
 by_cases c4 : -1 ≤ e.Delta.Default ∧ e.Delta.Default ≤ 1099511627776
 case neg => rw [if_pos (by rw [decide_eq_false c4]; rfl)]; simp; omega
 rw [if_neg (by rw [decide_eq_true c4]; simp)]
 by_cases c5 : -1 ≤ e.Delta.Closed ∧ e.Delta.Closed ≤ 1099511627776
 case neg => rw [if_pos (by rw [decide_eq_false c5]; rfl)]; simp; omega
 rw [if_neg (by rw [decide_eq_true c5]; simp)]
 by_cases c6 : -1 ≤ e.Delta.Fuel ∧ e.Delta.Fuel ≤ 1099511627776
 case neg => rw [if_pos (by rw [decide_eq_false c6]; rfl)]; simp; omega
 rw [if_neg (by rw [decide_eq_true c6]; simp)]
 by_cases c7 : -1 ≤ e.Delta.Stack ∧ e.Delta.Stack ≤ 1099511627776
 case neg => rw [if_pos (by rw [decide_eq_false c7]; rfl)]; simp; omega
 rw [if_neg (by rw [decide_eq_true c7]; simp), decide_eq_true (by omega), Z6g]
theorem Zow (s : Z0) (hs : Sh s.Log) (hl : s.Log.length ≤ 1000000) : ∀ (d i : Nat), i + d = s.Log.length → Z2S (i : Int) (stF s) = some ((s.Log.drop i).all okE) := by
 have hlen : (stF s).Log.length = s.Log.length := q8_ _
 intro d
 induction d with
 | zero =>
  intro i h
  apply Z8e
  unfold Z3M Z50
  rw [hlen, if_neg (ZX (by omega)), q5_ (by omega)]
  rfl
 | succ d ih =>
  intro i h
  have hi : i < s.Log.length := by omega
  have hg : lget (stF s).Log (i : Int) = some (entF s.Log[i]) := by
   rw [Z18]
   show (s.Log.map entF)[i]? = _
   rw [q7_, q2_ hi]
   rfl
  obtain ⟨s1, s2⟩ := hs _ (Z82 hi)
  apply Z8e
  unfold Z3M Z4Z Z4Y
  rw [hlen, if_pos (ZY (by omega)), hg, ZV, ZnV _ s1 s2, ZV, Z6f hi, List.all_cons]
  cases h1 : okE s.Log[i] with
  | false => rfl
  | true =>
   rw [if_neg (by simp), Z6g, wrap_i64 (by omega) (by omega)]
   exact ih (i + 1) (by omega)
theorem ZnX (s : Z0) (hs : Sh s.Log) (hl : s.Log.length ≤ 1000000) : Z6n (stF s) = some (okSt s) := by
 have hlen : (stF s).Log.length = s.Log.length := q8_ _
 have h4 := Zow s hs hl s.Log.length 0 (by omega)
 have h4 : Z2S 0 (stF s) = some (s.Log.all okE) := h4
 apply Zeq
 unfold Z6j Z1k Z4X okSt
 rw [hlen, h4]
 show (if decide (s.View < 0) = true then some false else if decide (1099511627776 < s.View) = true then some false else if decide (s.Normal < 0) = true then some false else if decide (s.View < s.Normal) = true then some false else
  if decide (64 < (s.Log.length : Int)) = true then some false else if decide (s.Commit < 0) = true then some false else if decide ((s.Log.length : Int) < s.Commit) = true then some false else if decide (s.Active < 0) = true then some false else if decide (64 < s.Active) = true then some false else some (s.Log.all okE)) = _
 by_cases c : 0 ≤ s.View ∧ s.View ≤ 1099511627776 ∧ 0 ≤ s.Normal ∧ s.Normal ≤ s.View ∧ (s.Log.length : Int) ≤ 64 ∧ 0 ≤ s.Commit ∧ s.Commit ≤ (s.Log.length : Int) ∧ 0 ≤ s.Active ∧ s.Active ≤ 64
 ·rw [decide_eq_true c, Z6g, if_neg (ZX (by omega)), if_neg (ZX (by omega)), if_neg (ZX (by omega)), if_neg (ZX (by omega)), if_neg (ZX (by omega)), if_neg (ZX (by omega)), if_neg (ZX (by omega)), if_neg (ZX (by omega)), if_neg (ZX (by omega))]
 ·rw [decide_eq_false c, Zq6]
  repeat' split
  all_goals first | rfl | (simp only [decide_eq_true_eq] at *; omega)
end Go.Proofs.YtiigbcahdaoedaaGreatDoor.N2
end
