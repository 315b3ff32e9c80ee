/- States, entries and what is committed, as plain functions. No condition. -/
import Derived.Test.YtiigbcahdaoedaaGreatDoorTypB
import Derived.Test.YtiigbcahdaoedaaGreatDoorTypC

set_option linter.unusedSimpArgs false
set_option linter.unusedVariables false
set_option linter.defProp false
section
namespace Go.Proofs.YtiigbcahdaoedaaGreatDoor.N2
open Go Go.Abs
set_option maxRecDepth 100000
theorem Zbi {a b : Int} (h : a = b) : (a == b) = true := by simpa using h
theorem Z9U {a b : Int} (h : ¬ a = b) : ¬ ((a == b) = true) := by simpa using h
theorem Z4I {a b : Int} (h : ¬ a = b) : (a != b) = true := by simpa using h
theorem Z4H {a b : Int} (h : a = b) : ¬ ((a != b) = true) := by simpa using h
theorem ZZ {c : Prop} [Decidable c] (h : c) : decide c = true := decide_eq_true h
theorem ZX {c : Prop} [Decidable c] (h : ¬ c) : ¬ (decide c = true) := by simpa using h
theorem Z18 {α : Type} (l : List α) (i : Nat) : lget l (i : Int) = l[i]? := by simp [lget]
theorem Z8q {α : Type} (l : List α) (a : α) (h : l.length ≤ 1000000000) : lapp l [a] = some (l ++ [a]) := by
 unfold lapp
 rw [if_pos (by rw [List.length_singleton]; unfold lim; omega)]
def okR (r : Z4) : Bool := decide (1 ≤ r.ID ∧ r.ID ≤ 1099511627776 ∧ 0 ≤ r.Priority ∧ r.Priority ≤ 1000 ∧ 0 ≤ r.Action ∧ r.Action ≤ 255 ∧ 1 ≤ r.Scope ∧ r.Scope ≤ 65535 ∧ (r.Pattern.size : Int) ≤ 256)
theorem ZeZ (r : Z4) : Z73 r = some (okR r) := by
 apply ZfK
 unfold Z72 okR
 repeat' split
 all_goals simp_all
 all_goals omega
def okD (n : Int) : Bool := decide (1 ≤ n) && decide (n ≤ 1099511627776)
def okE (e : Z8) : Bool :=
 decide (0 ≤ e.View ∧ e.View ≤ 1099511627776 ∧ 1 ≤ e.Client ∧ e.Client ≤ 1099511627776 ∧ 1 ≤ e.Request ∧ e.Request ≤ 1099511627776 ∧ -1 ≤ e.Delta.Default ∧ e.Delta.Default ≤ 1099511627776 ∧ -1 ≤ e.Delta.Closed ∧ e.Delta.Closed ≤ 1099511627776 ∧
  -1 ≤ e.Delta.Fuel ∧ e.Delta.Fuel ≤ 1099511627776 ∧ -1 ≤ e.Delta.Stack ∧ e.Delta.Stack ≤ 1099511627776 ∧ (e.Delta.Put.length : Int) ≤ 16 ∧ (e.Delta.Drop.length : Int) ≤ 16) && e.Delta.Put.all okR && e.Delta.Drop.all okD
theorem ZjX (n k : Int) : Z2H n k = some (decide (k ≤ n ∧ n ≤ 1099511627776)) := by
 apply Ziv
 unfold Z9u
 by_cases h : k ≤ n
 ·rw [if_pos (ZZ h)]
  simp [h]
 ·rw [if_neg (ZX h)]
  simp [h]
theorem Ztb (L : List Z4) (hl : L.length ≤ 1000000) : ∀ (d i : Nat), i + d = L.length → ∃ n, Z2k L (L.length : Int) (i : Int) = some n ∧ decide (0 ≤ n) = (L.drop i).any fun r => !okR r := by
 intro d
 induction d with
 | zero =>
  intro i h
  refine ⟨-1, ?_, by rw [q5_ (by omega)]; rfl⟩
  apply Z3O
  unfold Z1P
  rw [if_neg (ZX (by omega))]
  rfl
 | succ d ih =>
  intro i h
  have hi : i < L.length := by omega
  rw [Z6c hi]
  obtain ⟨n, h1, h2⟩ := ih (i + 1) (by omega)
  have hv : Z5I L[i] = some (!okR L[i]) := ZdO _ (by unfold Z5A; rw [ZeZ]; rfl)
  cases hr : okR L[i] with
  | false =>
   refine ⟨i, ?_, by simp only [ZkU, hr]; simp⟩
   apply Z3O
   unfold Z1P Z2i
   rw [if_pos (ZZ (by omega)), Z18, q2_ hi, ZV, hv, ZV, hr, if_pos (by rfl)]
  | true =>
   refine ⟨n, ?_, by simp only [ZkU, hr, h2]; simp⟩
   apply Z3O
   unfold Z1P Z2i Z32
   rw [if_pos (ZZ (by omega)), Z18, q2_ hi, ZV, hv, ZV, hr, if_neg (by simp), wrap_i64 (by omega) (by omega)]
   exact h1
theorem Zpl (L : List Int) (hl : L.length ≤ 1000000) : ∀ (d i : Nat), i + d = L.length → ∃ n, Z2t L (L.length : Int) (i : Int) = some n ∧ decide (0 ≤ n) = (L.drop i).any fun r => !okD r := by
 intro d
 induction d with
 | zero =>
  intro i h
  refine ⟨-1, ?_, by rw [q5_ (by omega)]; rfl⟩
  apply Z3X
  unfold Z1T
  rw [if_neg (ZX (by omega))]
  rfl
 | succ d ih =>
  intro i h
  have hi : i < L.length := by omega
  rw [Z6c hi]
  obtain ⟨n, h1, h2⟩ := ih (i + 1) (by omega)
  have hv : Z5J L[i] = some (!okD L[i]) := ZdQ _ (by unfold Z5B okD; rw [ZjX]; simp)
  cases hr : okD L[i] with
  | false =>
   refine ⟨i, ?_, by simp only [ZkU, hr]; simp⟩
   apply Z3X
   unfold Z1T Z2s
   rw [if_pos (ZZ (by omega)), Z18, q2_ hi, ZV, hv, ZV, hr, if_pos (by rfl)]
  | true =>
   refine ⟨n, ?_, by simp only [ZkU, hr, h2]; simp⟩
   apply Z3X
   unfold Z1T Z2s Z3a
   rw [if_pos (ZZ (by omega)), Z18, q2_ hi, ZV, hv, ZV, hr, if_neg (by simp), wrap_i64 (by omega) (by omega)]
   exact h1
theorem Zkk (e : Z8) : Z6G e = some (okE e) := by
 have hp : e.Delta.Put.length ≤ 16 → Z36 e.Delta.Put = some (!e.Delta.Put.all okR) := by
  intro h
  obtain ⟨n, h1, h2⟩ := Ztb e.Delta.Put (by omega) e.Delta.Put.length 0 (by omega)
  have h3 : Z3F e.Delta.Put = some n := ZaC _ (by unfold Z3E; exact h1)
  apply Z9h
  unfold Z31
  rw [h3, ZV, h2]
  simp [List.all_eq_not_any_not]
 have hd : e.Delta.Drop.length ≤ 16 → Z3d e.Delta.Drop = some (!e.Delta.Drop.all okD) := by
  intro h
  obtain ⟨n, h1, h2⟩ := Zpl e.Delta.Drop (by omega) e.Delta.Drop.length 0 (by omega)
  have h3 : Z3V e.Delta.Drop = some n := ZaZ _ (by unfold Z3S; exact h1)
  apply Z9K
  unfold Z39
  rw [h3, ZV, h2]
  simp [List.all_eq_not_any_not]
 apply ZeS
 unfold Z6x okE
 simp only [ZjX, ZV]
 by_cases c1 : 0 ≤ e.View ∧ e.View ≤ 1099511627776
 case neg => rw [if_neg (by simpa using c1)]; simp; omega
 rw [if_pos (by simpa using c1)]
 by_cases c2 : 1 ≤ e.Client ∧ e.Client ≤ 1099511627776
 case neg => rw [if_neg (by simpa using c2)]; simp; omega
 rw [if_pos (by simpa using c2)]
 by_cases c3 : 1 ≤ e.Request ∧ e.Request ≤ 1099511627776
 case neg => rw [if_neg (by simpa using c3)]; simp; omega
 rw [if_pos (by simpa using c3)]
 by_cases c4 : -1 ≤ e.Delta.Default ∧ e.Delta.Default ≤ 1099511627776
 case neg => rw [if_neg (by simpa using c4)]; simp; omega
 rw [if_pos (by simpa using c4)]
 by_cases c5 : -1 ≤ e.Delta.Closed ∧ e.Delta.Closed ≤ 1099511627776
 case neg => rw [if_neg (by simpa using c5)]; simp; omega
 rw [if_pos (by simpa using c5)]
 by_cases c6 : -1 ≤ e.Delta.Fuel ∧ e.Delta.Fuel ≤ 1099511627776
 case neg => rw [if_neg (by simpa using c6)]; simp; omega
 rw [if_pos (by simpa using c6)]
 by_cases c7 : -1 ≤ e.Delta.Stack ∧ e.Delta.Stack ≤ 1099511627776
 case neg => rw [if_neg (by simpa using c7)]; simp; omega
 rw [if_pos (by simpa using c7)]
 by_cases c8 : (e.Delta.Put.length : Int) ≤ 16
 case neg => rw [if_neg (ZX c8)]; simp; omega
 rw [if_pos (ZZ c8)]
 by_cases c9 : (e.Delta.Drop.length : Int) ≤ 16
 case neg => rw [if_neg (ZX c9)]; simp; omega
 rw [if_pos (ZZ c9), hp (by omega), ZV, decide_eq_true (by omega), Z6d]
 cases e.Delta.Put.all okR with
 | false => rfl
 | true =>
  rw [if_pos (by rfl), hd (by omega), ZV]
  simp
theorem ZuR {e : Z8} (h : okE e = true) : e.Delta.Put.length ≤ 16 ∧ e.Delta.Drop.length ≤ 16 := by
 unfold okE at h
 simp only [q9_, decide_eq_true_eq] at h
 omega
abbrev zSt : Z0 := ⟨0, 0, 0, 0, []⟩
def okSt (s : Z0) : Bool :=
 decide (0 ≤ s.View ∧ s.View ≤ 1099511627776 ∧ 0 ≤ s.Normal ∧ s.Normal ≤ s.View ∧ (s.Log.length : Int) ≤ 64 ∧ 0 ≤ s.Commit ∧ s.Commit ≤ (s.Log.length : Int) ∧ 0 ≤ s.Active ∧ s.Active ≤ 64) && s.Log.all okE
theorem ZsP (L : List Z8) (hl : L.length ≤ 1000000) : ∀ (d i : Nat), i + d = L.length → ∃ n, Z2a L (L.length : Int) (i : Int) = some n ∧ decide (0 ≤ n) = (L.drop i).any fun r => !okE r := by
 intro d
 induction d with
 | zero =>
  intro i h
  refine ⟨-1, ?_, by rw [q5_ (by omega)]; rfl⟩
  apply Z3z
  unfold Z1L
  rw [if_neg (ZX (by omega))]
  rfl
 | succ d ih =>
  intro i h
  have hi : i < L.length := by omega
  rw [Z6c hi]
  obtain ⟨n, h1, h2⟩ := ih (i + 1) (by omega)
  have hv : Z55 L[i] = some (!okE L[i]) := Zd0 _ (by unfold Z4P; rw [Zkk]; rfl)
  cases hr : okE L[i] with
  | false =>
   refine ⟨i, ?_, by simp only [ZkU, hr]; simp⟩
   apply Z3z
   unfold Z1L Z28
   rw [if_pos (ZZ (by omega)), Z18, q2_ hi, ZV, hv, ZV, hr, if_pos (by rfl)]
  | true =>
   refine ⟨n, ?_, by simp only [ZkU, hr, h2]; simp⟩
   apply Z3z
   unfold Z1L Z28 Z2Q
   rw [if_pos (ZZ (by omega)), Z18, q2_ hi, ZV, hv, ZV, hr, if_neg (by simp), wrap_i64 (by omega) (by omega)]
   exact h1
theorem ZkY (s : Z0) : Z3q s = some (okSt s) := by
 have hp : s.Log.length ≤ 64 → Z2R s.Log = some (!s.Log.all okE) := by
  intro h
  obtain ⟨n, h1, h2⟩ := ZsP s.Log (by omega) s.Log.length 0 (by omega)
  have h3 : Z3t s.Log = some n := Za9 _ (by unfold Z3p; exact h1)
  apply Z92
  unfold Z2M
  rw [h3, ZV, h2]
  simp [List.all_eq_not_any_not]
 apply ZdN
 unfold Z5z okSt
 by_cases c1 : 0 ≤ s.View
 case neg => rw [if_neg (ZX c1)]; simp; omega
 rw [if_pos (ZZ c1)]
 by_cases c2 : s.View ≤ 1099511627776
 case neg => rw [if_neg (ZX c2)]; simp; omega
 rw [if_pos (ZZ c2)]
 by_cases c3 : 0 ≤ s.Normal
 case neg => rw [if_neg (ZX c3)]; simp; omega
 rw [if_pos (ZZ c3)]
 by_cases c4 : s.Normal ≤ s.View
 case neg => rw [if_neg (ZX c4)]; simp; omega
 rw [if_pos (ZZ c4)]
 by_cases c5 : (s.Log.length : Int) ≤ 64
 case neg => rw [if_neg (ZX c5)]; simp; omega
 rw [if_pos (ZZ c5)]
 by_cases c6 : 0 ≤ s.Commit
 case neg => rw [if_neg (ZX c6)]; simp; omega
 rw [if_pos (ZZ c6)]
 by_cases c7 : s.Commit ≤ (s.Log.length : Int)
 case neg => rw [if_neg (ZX c7)]; simp; omega
 rw [if_pos (ZZ c7)]
 by_cases c8 : 0 ≤ s.Active
 case neg => rw [if_neg (ZX c8)]; simp; omega
 rw [if_pos (ZZ c8)]
 by_cases c9 : s.Active ≤ 64
 case neg => rw [if_neg (ZX c9)]; simp; omega
 rw [if_pos (ZZ c9), hp (by omega), ZV, decide_eq_true (by omega), Z6d, Bool.not_not]
def Z52 (s : Z0) : Z0 := if okSt s = true then s else zSt
def Z2L (l : List Z0) : List Z0 := l.map Z52
theorem Zqc (L : List Z0) (hl : L.length ≤ 1000000) : ∀ (d i : Nat), i + d = L.length → Z64 ((L.take i).map Z52) L (L.length : Int) (i : Int) = some (Z2L L) := by
 intro d
 induction d with
 | zero =>
  intro i h
  apply Zb5
  unfold Z5T Z7w
  rw [if_neg (ZX (by omega)), ZkM (by omega)]
  rfl
 | succ d ih =>
  intro i h
  have hi : i < L.length := by omega
  have key := ih (i + 1) (by omega)
  have hlen : ((L.take i).map Z52).length ≤ 1000000000 := by rw [q8_, Z99]; omega
  have e : (L.take i).map Z52 ++ [Z52 L[i]] = (L.take (i + 1)).map Z52 := by
   rw [← ZkN hi, Zhw]
   rfl
  apply Zb5
  unfold Z5T Z7u
  rw [if_pos (ZZ (by omega)), Z18, q2_ hi, ZV, ZkY, ZV]
  cases hr : okSt L[i] with
  | false =>
   rw [if_pos (by rfl)]
   unfold Z7v Z4F
   have : Z52 L[i] = ⟨0, 0, 0, 0, []⟩ := by unfold Z52; rw [if_neg (by simp [hr])]
   rw [Z8q _ _ hlen, ZV, wrap_i64 (by omega) (by omega), ← this, e]
   exact key
  | true =>
   rw [if_neg (by simp)]
   unfold Z6w Z4F
   have : Z52 L[i] = L[i] := by unfold Z52; rw [if_pos hr]
   rw [Z8q _ _ hlen, ZV, wrap_i64 (by omega) (by omega)]
   rw [this] at e
   rw [e]
   exact key
theorem Ze6 (l : List Z0) (hl : l.length ≤ 1000000) : Z6n l = some (Z2L l) := by
 apply Ziu
 unfold Z9t
 exact Zqc l hl l.length 0 (by omega)
end Go.Proofs.YtiigbcahdaoedaaGreatDoor.N2
end
section
namespace Go.Proofs.YtiigbcahdaoedaaGreatDoor.N2
open Go Go.Abs
set_option maxRecDepth 100000
open Classical in
noncomputable def eqv {α : Type} (a b : α) : Bool := if a = b then true else false
theorem ZoI {α : Type} {a b : α} : eqv a b = true ↔ a = b := by unfold eqv; split <;> simp_all
theorem Z2q {α : Type} {a b : α} (h : a = b) : eqv a b = true := ZoI.2 h
theorem Z1w {α : Type} {a b : α} (h : ¬ a = b) : eqv a b = false := by
 cases e : eqv a b with
 | false => rfl
 | true => exact absurd (ZoI.1 e) h
theorem Zlq {α β : Type} {a b : α} {c d : β} (h : a = b ↔ c = d) : eqv a b = eqv c d := by
 by_cases e : a = b
 ·rw [Z2q e, Z2q (h.1 e)]
 ·rw [Z1w e, Z1w fun k => e (h.2 k)]
theorem Z9E {α : Type} (a b : α) (l m : List α) : eqv (a :: l) (b :: m) = (eqv a b && eqv l m) := by
 by_cases h1 : a = b
 ·subst h1
  rw [Z2q rfl, Z6d]
  exact Zlq (by simp)
 ·rw [Z1w h1, Zq3]
  exact Z1w (by simp [h1])
theorem Zx0 {a b : ByteArray} : Go.Abs.seq a b = true ↔ a = b := by
 unfold Go.Abs.seq
 rw [beq_iff_eq, ByteArray.toList_eq, ByteArray.toList_eq]
 obtain ⟨⟨x⟩⟩ := a
 obtain ⟨⟨y⟩⟩ := b
 simp
def eqR (a b : Z4) : Bool := (a.ID == b.ID) && ((a.Priority == b.Priority) && ((a.Action == b.Action) && ((a.Scope == b.Scope) && ((Go.Abs.seq a.Pattern b.Pattern) && true))))
theorem ZoH (a b : Z4) : eqR a b = eqv a b := by
 have h : eqR a b = true ↔ a = b := by
  unfold eqR
  simp only [q9_, beq_iff_eq, Zx0, and_true]
  constructor
  ·rintro ⟨h1, h2, h3, h4, h5⟩
   cases a; cases b
   simp only at h1 h2 h3 h4 h5
   subst h1; subst h2; subst h3; subst h4; subst h5
   rfl
  ·rintro rfl
   exact ⟨rfl, rfl, rfl, rfl, rfl⟩
 by_cases e : a = b
 ·rw [Z2q e, h.2 e]
 ·rw [Z1w e]
  cases k : eqR a b with
  | false => rfl
  | true => exact absurd (h.1 k) e
theorem Ztx (L M : List Int) (hl : L.length ≤ 1000000) (he : L.length = M.length) : ∀ (d i : Nat), i + d = L.length → Z40 L M (L.length : Int) (i : Int) = some (eqv (L.drop i) (M.drop i)) := by
 intro d
 induction d with
 | zero =>
  intro i h
  apply Z8n
  unfold Z3Y Z5k
  rw [if_neg (ZX (by omega)), q5_ (by omega), q5_ (by omega), Z2q rfl]
 | succ d ih =>
  intro i h
  have hi : i < L.length := by omega
  have hj : i < M.length := by omega
  apply Z8n
  unfold Z3Y Z5i Z5j
  rw [if_pos (ZZ (by omega)), Z18, Z18, q2_ hi, q2_ hj, ZV, ZV, Z6c hi, Z6c hj, Z9E]
  by_cases e : L[i] = M[i]
  ·rw [if_neg (Z4H e), Z2q e, Z6d, wrap_i64 (by omega) (by omega)]
   exact ih (i + 1) (by omega)
  ·rw [if_pos (Z4I e), Z1w e]
   rfl
theorem ZuA (L M : List Int) (hl : L.length ≤ 1000000) : Z6J L M = some (eqv L M) := by
 apply Zf0
 unfold Z6A Z5h
 by_cases he : L.length = M.length
 ·rw [if_neg (Z4H (by omega))]
  exact Ztx L M hl he L.length 0 (by omega)
 ·rw [if_pos (Z4I (by omega)), Z1w fun k => he (congrArg List.length k)]
theorem Zty (L M : List Z4) (hl : L.length ≤ 1000000) (he : L.length = M.length) : ∀ (d i : Nat), i + d = L.length → Z3N L M (L.length : Int) (i : Int) = some (eqv (L.drop i) (M.drop i)) := by
 intro d
 induction d with
 | zero =>
  intro i h
  apply Z8d
  unfold Z3L Z51
  rw [if_neg (ZX (by omega)), q5_ (by omega), q5_ (by omega), Z2q rfl]
 | succ d ih =>
  intro i h
  have hi : i < L.length := by omega
  have hj : i < M.length := by omega
  have hq := ZoH L[i] M[i]
  unfold eqR at hq
  apply Z8d
  unfold Z3L Z4Z Z50
  rw [if_pos (ZZ (by omega)), Z18, Z18, q2_ hi, q2_ hj, ZV, ZV, Z6c hi, Z6c hj, Z9E, hq]
  by_cases e : L[i] = M[i]
  ·rw [Z2q e, if_neg (by simp), Z6d, wrap_i64 (by omega) (by omega)]
   exact ih (i + 1) (by omega)
  ·rw [Z1w e, if_pos (by rfl)]
   rfl
theorem ZuB (L M : List Z4) (hl : L.length ≤ 1000000) : Z6l L M = some (eqv L M) := by
 apply Zeq
 unfold Z6h Z4Y
 by_cases he : L.length = M.length
 ·rw [if_neg (Z4H (by omega))]
  exact Zty L M hl he L.length 0 (by omega)
 ·rw [if_pos (Z4I (by omega)), Z1w fun k => he (congrArg List.length k)]
theorem Zu1 (a b : Z8) (h1 : a.Delta.Put.length ≤ 1000000) (h2 : a.Delta.Drop.length ≤ 1000000) : ZbH a b = some (eqv a b) := by
 have hab : a = b ↔ a.View = b.View ∧ a.Client = b.Client ∧ a.Request = b.Request ∧ a.Delta.Default = b.Delta.Default ∧ a.Delta.Closed = b.Delta.Closed ∧ a.Delta.Fuel = b.Delta.Fuel ∧ a.Delta.Stack = b.Delta.Stack ∧ a.Delta.Put = b.Delta.Put ∧ a.Delta.Drop = b.Delta.Drop := by
  obtain ⟨v, c, r, d1, d2, d3, d4, d5, d6⟩ := a
  obtain ⟨v', c', r', e1, e2, e3, e4, e5, e6⟩ := b
  simp [and_assoc]
 apply ZkI
 unfold ZbD
 by_cases c1 : a.View = b.View
 case neg => rw [if_neg (Z9U c1), Z1w fun k => c1 (hab.1 k).1]
 rw [if_pos (Zbi c1)]
 by_cases c2 : a.Client = b.Client
 case neg => rw [if_neg (Z9U c2), Z1w fun k => c2 (hab.1 k).2.1]
 rw [if_pos (Zbi c2)]
 by_cases c3 : a.Request = b.Request
 case neg => rw [if_neg (Z9U c3), Z1w fun k => c3 (hab.1 k).2.2.1]
 rw [if_pos (Zbi c3)]
 by_cases c4 : a.Delta.Default = b.Delta.Default
 case neg => rw [if_neg (Z9U c4), Z1w fun k => c4 (hab.1 k).2.2.2.1]
 rw [if_pos (Zbi c4)]
 by_cases c5 : a.Delta.Closed = b.Delta.Closed
 case neg => rw [if_neg (Z9U c5), Z1w fun k => c5 (hab.1 k).2.2.2.2.1]
 rw [if_pos (Zbi c5)]
 by_cases c6 : a.Delta.Fuel = b.Delta.Fuel
 case neg => rw [if_neg (Z9U c6), Z1w fun k => c6 (hab.1 k).2.2.2.2.2.1]
 rw [if_pos (Zbi c6)]
 by_cases c7 : a.Delta.Stack = b.Delta.Stack
 case neg => rw [if_neg (Z9U c7), Z1w fun k => c7 (hab.1 k).2.2.2.2.2.2.1]
 rw [if_pos (Zbi c7), ZuB _ _ h1, ZV]
 by_cases c8 : a.Delta.Put = b.Delta.Put
 case neg => rw [Z1w c8, if_neg (by simp), Z1w fun k => c8 (hab.1 k).2.2.2.2.2.2.2.1]
 rw [Z2q c8, if_pos rfl, ZuA _ _ h2, ZV]
 exact congrArg some (Zlq ⟨fun h => hab.2 ⟨c1, c2, c3, c4, c5, c6, c7, c8, h⟩, fun h => (hab.1 h).2.2.2.2.2.2.2.2⟩)
def Sh (l : List Z8) : Prop := ∀ e ∈ l, e.Delta.Put.length ≤ 1000000 ∧ e.Delta.Drop.length ≤ 1000000
theorem Ztw (L M : List Z8) (hs : Sh L) (hl : L.length ≤ 1000000) (he : L.length = M.length) : ∀ (d i : Nat), i + d = L.length → Z29 M L (L.length : Int) (i : Int) = some (eqv (L.drop i) (M.drop i)) := by
 intro d
 induction d with
 | zero =>
  intro i h
  apply Z5s
  unfold Z27 Z2D
  rw [if_neg (ZX (by omega)), q5_ (by omega), q5_ (by omega), Z2q rfl]
 | succ d ih =>
  intro i h
  have hi : i < L.length := by omega
  have hj : i < M.length := by omega
  obtain ⟨s1, s2⟩ := hs L[i] (Z7Y hi)
  apply Z5s
  unfold Z27 Z2O Z2P
  rw [if_pos (ZZ (by omega)), Z18, Z18, q2_ hi, q2_ hj, ZV, ZV, Z6c hi, Z6c hj, Z9E, Zu1 _ _ s1 s2, ZV]
  by_cases e : L[i] = M[i]
  ·rw [Z2q e, if_neg (by simp), Z6d, wrap_i64 (by omega) (by omega)]
   exact ih (i + 1) (by omega)
  ·rw [Z1w e, if_pos (by rfl)]
   rfl
theorem Zla (L M : List Z8) (hs : Sh L) (hl : L.length ≤ 1000000) : Z9g L M = some (eqv L M) := by
 have h : Z3s L M = some (eqv L M) := by
  apply Za7
  unfold Z3o Z2N
  by_cases he : L.length = M.length
  ·rw [if_neg (Z4H (by omega))]
   exact Ztw L M hs hl he L.length 0 (by omega)
  ·rw [if_pos (Z4I (by omega)), Z1w fun k => he (congrArg List.length k)]
 apply ZkH
 unfold ZbC
 rw [h, ZV]
end Go.Proofs.YtiigbcahdaoedaaGreatDoor.N2
end
section
namespace Go.Proofs.YtiigbcahdaoedaaGreatDoor.N2
open Go Go.Abs
set_option maxRecDepth 100000
structure OkS (s : Z0) : Prop where
 view : 0 ≤ s.View ∧ s.View ≤ 1099511627776
 normal : 0 ≤ s.Normal ∧ s.Normal ≤ s.View
 len : s.Log.length ≤ 64
 commit : 0 ≤ s.Commit ∧ s.Commit ≤ (s.Log.length : Int)
 sh : Sh s.Log
theorem ZnE {s : Z0} (h : okSt s = true) : OkS s := by
 unfold okSt at h
 simp only [q9_, decide_eq_true_eq] at h
 obtain ⟨h1, h2⟩ := h
 refine ⟨by omega, by omega, by omega, by omega, fun e he => ?_⟩
 have := ZuR (Z4t.1 h2 e he)
 omega
theorem ZuS (s : Z0) : OkS (Z52 s) := by
 unfold Z52
 split
 ·rename_i h; exact ZnE h
 ·exact ZnE (by decide)
theorem Ze3 {l : List Z0} : ∀ s ∈ Z2L l, OkS s := by
 intro s hs
 obtain ⟨t, _, rfl⟩ := Z4e.1 hs
 exact ZuS t
theorem Z8Q (l : List Z0) : (Z2L l).length = l.length := q8_ _
def Z3T (s : Z0) : List Z8 := s.Log.take s.Commit.toNat
theorem Zbw {α : Type} (l : List α) (n : Int) (h0 : 0 ≤ n) (h1 : n ≤ (l.length : Int)) : lsl l 0 n = some (l.take n.toNat) := by
 unfold lsl
 rw [if_pos (by omega)]
 simp
theorem Zil {s : Z0} (h : OkS s) : Z7b s = some (Z3T s) := by
 apply ZjG
 unfold Zag
 rw [Zbw _ _ h.commit.1 h.commit.2, ZV]
 rfl
theorem Zuz {s : Z0} (h : OkS s) : Sh (Z3T s) := fun e he => h.sh e (ZiI he)
theorem Zff {s : Z0} (h : OkS s) : (Z3T s).length = s.Commit.toNat := by
 unfold Z3T
 rw [Z99]
 have := h.commit
 omega
noncomputable def Z8C (a b : List Z8) : Bool := eqv (a.take (min a.length b.length)) (b.take (min a.length b.length))
theorem Zpc (a b : List Z8) (hs : Sh a) (hl : a.length ≤ 1000) : Z8F a b = some (Z8C a b) := by
 have hm : (min (a.length : Int) (b.length : Int)) = ((min a.length b.length : Nat) : Int) := by omega
 apply ZhW
 unfold Z8A Z8C
 rw [hm, Zbw _ _ (by omega) (by omega), ZV, Zbw _ _ (by omega) (by omega), ZV, ZkO, Zla _ _ (fun e he => hs e (ZiI he)) (by rw [Z99]; omega), ZV]
noncomputable def apF (l : List Z0) (i k : Nat) : Bool := match l[i]?, l[k]? with | some x, some y => !Z8C (Z3T x) (Z3T y) | _, _ => false
def Zf2 (ap : Nat → Nat → Bool) (k : Nat) : Nat → Nat → Option Nat
 | 0, _ => none
 | d + 1, i => if ap i k = true then some i else Zf2 ap k d (i + 1)
def ZaK (ap : Nat → Nat → Bool) : Nat → Nat → Int × Int × Bool
 | 0, _ => (0, 0, true)
 | d + 1, k => match Zf2 ap k k 0 with | some i => ((i : Int), (k : Int), false) | none => ZaK ap d (k + 1)
theorem Zob (L : List Z0) (hL : L.length ≤ 1000000) (hok : ∀ s ∈ L, OkS s) (k : Nat) (hk : k < L.length) {r : Int × Int × Bool} (hr : Z4n L 0 0 L (L.length : Int) (k : Int) = some r) : ∀ (d i : Nat), i + d = k →
  Z63 L 0 0 (k : Int) L (L.length : Int) (k : Int) (L.take k) ((L.take k).length : Int) (i : Int) L[k] = some (match Zf2 (apF L) k d i with | some j => ((j : Int), (k : Int), false) | none => r) := by
 have htl : (L.take k).length = k := by rw [Z99]; omega
 intro d
 induction d with
 | zero =>
  intro i h
  apply Zb3
  unfold Z5S
  rw [if_neg (ZX (by omega)), hr]
  rfl
 | succ d ih =>
  intro i h
  have hi : i < L.length := by omega
  have hx := hok L[i] (Z7Y hi)
  have hy := hok L[k] (Z7Y hk)
  have hg : (L.take k)[i]? = some L[i] := by rw [ZaM, if_pos (by omega), q2_ hi]
  have hap : apF L i k = !Z8C (Z3T L[i]) (Z3T L[k]) := by unfold apF; rw [q2_ hi, q2_ hk]
  apply Zb3
  unfold Z5S Z7q
  rw [if_pos (ZZ (by omega)), Z18, hg, ZV, Zil hx, ZV, Zil hy, ZV, Zpc _ _ (Zuz hx) (by rw [Zff hx]; have := hx.commit; have := hx.len; omega), ZV]
  unfold Zf2
  rw [hap]
  cases hb : Z8C (Z3T L[i]) (Z3T L[k]) with
  | true =>
   rw [if_pos rfl, if_neg (by simp)]
   unfold Z6Y
   rw [wrap_i64 (by omega) (by omega)]
   exact ih (i + 1) (by omega)
  | false =>
   rw [if_neg (by simp), if_pos (by rfl)]
   unfold Z7r Z4o
   rw [Bool.eq_false_iff.2 (Z9U (by omega))]
theorem Zoc (L : List Z0) (hL : L.length ≤ 1000000) (hok : ∀ s ∈ L, OkS s) : ∀ (d k : Nat), k + d = L.length → Z62 L 0 0 L (L.length : Int) (k : Int) = some (ZaK (apF L) d k) := by
 intro d
 induction d with
 | zero =>
  intro k h
  apply Zb1
  unfold Z5R Z4o
  rw [if_neg (ZX (by omega))]
  rfl
 | succ d ih =>
  intro k h
  have hk : k < L.length := by omega
  have hr : Z4n L 0 0 L (L.length : Int) (k : Int) = some (ZaK (apF L) d (k + 1)) := by
   unfold Z4n
   rw [wrap_i64 (by omega) (by omega)]
   exact ih (k + 1) (by omega)
  apply Zb1
  unfold Z5R Z7p
  rw [if_pos (ZZ (by omega)), Z18, q2_ hk, ZV, Zbw _ _ (by omega) (by omega), ZV, ZkO]
  have key := Zob L hL hok k hk hr k 0 (by omega)
  rw [ZaK]
  exact key
theorem Zl0 (l : List Z0) (hl : l.length ≤ 1000000) : Z2f l = some (ZaK (apF (Z2L l)) l.length 0) := by
 apply Zir
 unfold Z9s
 rw [Ze6 l hl, ZV]
 have := Zoc (Z2L l) (by rw [Z8Q]; exact hl) Ze3 l.length 0 (by rw [Z8Q]; omega)
 exact this
def dltF (d : Z26) : Z5 := ⟨d.Default, d.Closed, d.Fuel, d.Stack, d.Put, d.Drop⟩
def entF (e : Z8) : Zb := ⟨e.View, e.Client, e.Request, dltF e.Delta⟩
def stF (s : Z0) : Z1 := ⟨s.View, s.Normal, s.Commit, s.Active, s.Log.map entF⟩
theorem Ztu {a b : Z8} (h : entF a = entF b) : a = b := by
 obtain ⟨v, c, r, d1, d2, d3, d4, d5, d6⟩ := a
 obtain ⟨v', c', r', e1, e2, e3, e4, e5, e6⟩ := b
 simpa [entF, dltF] using h
theorem Ztr (L : List Z4) (hl : L.length ≤ 1000000) (a b c e : Int) (D : List Int) : ∀ (d i : Nat), i + d = L.length → Z3x L (L.length : Int) (i : Int) a b c e (L.take i) D = some ⟨a, b, c, e, L, D⟩ := by
 intro d
 induction d with
 | zero =>
  intro i h
  apply Z7N
  unfold Z3v Z4v
  rw [if_neg (ZX (by omega)), ZkM (by omega)]
 | succ d ih =>
  intro i h
  have hi : i < L.length := by omega
  apply Z7N
  unfold Z3v Z4u
  rw [if_pos (ZZ (by omega)), Z18, q2_ hi, ZV, Z8q _ _ (by rw [Z99]; omega), ZV, ZkN hi, wrap_i64 (by omega) (by omega)]
  exact ih (i + 1) (by omega)
theorem Zuy (d : Z26) (h : d.Put.length ≤ 1000000) : Z5G d = some (dltF d) := by
 apply ZdJ
 unfold Z5x
 exact Ztr d.Put h _ _ _ _ _ d.Put.length 0 (by omega)
theorem ZqE (L : List Z8) (hs : Sh L) (hl : L.length ≤ 1000000) : ∀ (d i : Nat), i + d = L.length → Z35 ((L.take i).map entF) L (L.length : Int) (i : Int) = some (L.map entF) := by
 intro d
 induction d with
 | zero =>
  intro i h
  apply Z79
  unfold Z30 Z45
  rw [if_neg (ZX (by omega)), ZkM (by omega)]
 | succ d ih =>
  intro i h
  have hi : i < L.length := by omega
  have e : (L.take i).map entF ++ [entF L[i]] = (L.take (i + 1)).map entF := by
   rw [← ZkN hi, Zhw]
   rfl
  have key := ih (i + 1) (by omega)
  rw [← e] at key
  apply Z79
  unfold Z30 Z44
  rw [if_pos (ZZ (by omega)), Z18, q2_ hi, ZV, Zuy _ (hs _ (Z7Y hi)).1, ZV, Z8q _ _ (by rw [q8_, Z99]; omega), ZV, wrap_i64 (by omega) (by omega)]
  exact key
theorem Ztf (s : Z0) (hs : Sh s.Log) (hl : s.Log.length ≤ 1000000) : Z5H s = some (stF s) := by
 have h : Z54 s.Log = some (s.Log.map entF) := by
  apply ZcY
  unfold Z4O
  exact ZqE s.Log hs hl s.Log.length 0 (by omega)
 apply ZdL
 unfold Z5y
 rw [h, ZV]
 rfl
theorem Zkd (a b c : Int) : Z2y a b c = some (decide (b ≤ a ∧ a ≤ c)) := by
 apply Zi0
 unfold Z8B
 by_cases h : b ≤ a
 ·rw [if_pos (ZZ h)]
  simp [h]
 ·rw [if_neg (ZX h)]
  simp [h]
theorem Zov (r : Z4) : Z6H r = some (okR r) := by
 apply ZeV
 unfold Z6y okR
 repeat' split
 all_goals simp_all
 all_goals omega
theorem ZnR (D : Z5) (hl : D.Drop.length ≤ 1000000) : ∀ (d i : Nat), i + d = D.Drop.length → Z3y (i : Int) D = some ((D.Drop.drop i).all okD) := by
 intro d
 induction d with
 | zero =>
  intro i h
  apply Z7P
  unfold Z3w Z4A
  rw [if_neg (ZX (by omega)), q5_ (by omega)]
  rfl
 | succ d ih =>
  intro i h
  have hi : i < D.Drop.length := by omega
  apply Z7P
  unfold Z3w Z4z Z4y
  have hd : decide (1 ≤ D.Drop[i] ∧ D.Drop[i] ≤ 1099511627776) = okD D.Drop[i] := by unfold okD; simp
  rw [if_pos (ZZ (by omega)), Z18, q2_ hi, ZV, Zkd, ZV, Z6c hi, List.all_cons, hd]
  cases h1 : okD D.Drop[i] with
  | false => rfl
  | true =>
   rw [if_neg (by simp), Z6d, wrap_i64 (by omega) (by omega)]
   exact ih (i + 1) (by omega)
theorem Zou (D : Z5) (hp : D.Put.length ≤ 1000000) (hl : D.Drop.length ≤ 1000000) : ∀ (d i : Nat), i + d = D.Put.length → Z2o (i : Int) D = some ((D.Put.drop i).all okR && D.Drop.all okD) := by
 intro d
 induction d with
 | zero =>
  intro i h
  apply Z89
  unfold Z3J Z4x
  rw [if_neg (ZX (by omega)), q5_ (by omega)]
  exact ZnR D hl D.Drop.length 0 (by omega)
 | succ d ih =>
  intro i h
  have hi : i < D.Put.length := by omega
  apply Z89
  unfold Z3J Z4T Z4S
  rw [if_pos (ZZ (by omega)), Z18, q2_ hi, ZV, Zov, ZV, Z6c hi, List.all_cons]
  cases h1 : okR D.Put[i] with
  | false => rfl
  | true =>
   rw [if_neg (by simp), Z6d, wrap_i64 (by omega) (by omega)]
   exact ih (i + 1) (by omega)
theorem ZnS (e : Z8) (h1 : e.Delta.Put.length ≤ 1000000) (h2 : e.Delta.Drop.length ≤ 1000000) : Z6i (entF e) = some (okE e) := by
 apply Zel
 unfold Z6f Z1X Z4Q Z2m Z4R okE
 simp only [Zkd, ZV]
 have hl := Zou (dltF e.Delta) h1 h2 e.Delta.Put.length 0 (by show 0 + _ = e.Delta.Put.length; omega)
 have hl : Z2o 0 (dltF e.Delta) = some (e.Delta.Put.all okR && e.Delta.Drop.all okD) := hl
 show (if (!decide (0 ≤ e.View ∧ e.View ≤ 1099511627776)) = true then some false else if (!decide (1 ≤ e.Client ∧ e.Client ≤ 1099511627776)) = true then some false else if (!decide (1 ≤ e.Request ∧ e.Request ≤ 1099511627776)) = true then some false else
  if decide (16 < (e.Delta.Put.length : Int)) = true then some false else if decide (16 < (e.Delta.Drop.length : Int)) = true then some false else if (!decide (-1 ≤ e.Delta.Default ∧ e.Delta.Default ≤ 1099511627776)) = true then some false else
  if (!decide (-1 ≤ e.Delta.Closed ∧ e.Delta.Closed ≤ 1099511627776)) = true then some false else if (!decide (-1 ≤ e.Delta.Fuel ∧ e.Delta.Fuel ≤ 1099511627776)) = true then some false else if (!decide (-1 ≤ e.Delta.Stack ∧ e.Delta.Stack ≤ 1099511627776)) = true then some false else
  Z2o 0 (dltF e.Delta)) = _
 rw [hl]
 by_cases c1 : 0 ≤ e.View ∧ e.View ≤ 1099511627776
 case neg => rw [if_pos (by rw [decide_eq_false c1]; rfl)]; simp; omega
 rw [if_neg (by rw [decide_eq_true c1]; simp)]
 by_cases c2 : 1 ≤ e.Client ∧ e.Client ≤ 1099511627776
 case neg => rw [if_pos (by rw [decide_eq_false c2]; rfl)]; simp; omega
 rw [if_neg (by rw [decide_eq_true c2]; simp)]
 by_cases c3 : 1 ≤ e.Request ∧ e.Request ≤ 1099511627776
 case neg => rw [if_pos (by rw [decide_eq_false c3]; rfl)]; simp; omega
 rw [if_neg (by rw [decide_eq_true c3]; simp)]
 by_cases c8 : (e.Delta.Put.length : Int) ≤ 16
 case neg => rw [if_pos (ZZ (by omega))]; simp; omega
 rw [if_neg (ZX (by omega))]
 by_cases c9 : (e.Delta.Drop.length : Int) ≤ 16
 case neg => rw [if_pos (ZZ (by omega))]; simp; omega
 rw [if_neg (ZX (by omega))]
 by_cases c4 : -1 ≤ e.Delta.Default ∧ e.Delta.Default ≤ 1099511627776
 case neg => rw [if_pos (by rw [decide_eq_false c4]; rfl)]; simp; omega
 rw [if_neg (by rw [decide_eq_true c4]; simp)]
 by_cases c5 : -1 ≤ e.Delta.Closed ∧ e.Delta.Closed ≤ 1099511627776
 case neg => rw [if_pos (by rw [decide_eq_false c5]; rfl)]; simp; omega
 rw [if_neg (by rw [decide_eq_true c5]; simp)]
 by_cases c6 : -1 ≤ e.Delta.Fuel ∧ e.Delta.Fuel ≤ 1099511627776
 case neg => rw [if_pos (by rw [decide_eq_false c6]; rfl)]; simp; omega
 rw [if_neg (by rw [decide_eq_true c6]; simp)]
 by_cases c7 : -1 ≤ e.Delta.Stack ∧ e.Delta.Stack ≤ 1099511627776
 case neg => rw [if_pos (by rw [decide_eq_false c7]; rfl)]; simp; omega
 rw [if_neg (by rw [decide_eq_true c7]; simp), decide_eq_true (by omega), Z6d]
theorem Zot (s : Z0) (hs : Sh s.Log) (hl : s.Log.length ≤ 1000000) : ∀ (d i : Nat), i + d = s.Log.length → Z2T (i : Int) (stF s) = some ((s.Log.drop i).all okE) := by
 have hlen : (stF s).Log.length = s.Log.length := q8_ _
 intro d
 induction d with
 | zero =>
  intro i h
  apply Z8b
  unfold Z3K Z4X
  rw [hlen, if_neg (ZX (by omega)), q5_ (by omega)]
  rfl
 | succ d ih =>
  intro i h
  have hi : i < s.Log.length := by omega
  have hg : lget (stF s).Log (i : Int) = some (entF s.Log[i]) := by
   rw [Z18]
   show (s.Log.map entF)[i]? = _
   rw [q7_, q2_ hi]
   rfl
  obtain ⟨s1, s2⟩ := hs _ (Z7Y hi)
  apply Z8b
  unfold Z3K Z4W Z4V
  rw [hlen, if_pos (ZZ (by omega)), hg, ZV, ZnS _ s1 s2, ZV, Z6c hi, List.all_cons]
  cases h1 : okE s.Log[i] with
  | false => rfl
  | true =>
   rw [if_neg (by simp), Z6d, wrap_i64 (by omega) (by omega)]
   exact ih (i + 1) (by omega)
theorem ZnU (s : Z0) (hs : Sh s.Log) (hl : s.Log.length ≤ 1000000) : Z6k (stF s) = some (okSt s) := by
 have hlen : (stF s).Log.length = s.Log.length := q8_ _
 have h4 := Zot s hs hl s.Log.length 0 (by omega)
 have h4 : Z2T 0 (stF s) = some (s.Log.all okE) := h4
 apply Zen
 unfold Z6g Z1l Z4U okSt
 rw [hlen, h4]
 show (if decide (s.View < 0) = true then some false else if decide (1099511627776 < s.View) = true then some false else if decide (s.Normal < 0) = true then some false else if decide (s.View < s.Normal) = true then some false else
  if decide (64 < (s.Log.length : Int)) = true then some false else if decide (s.Commit < 0) = true then some false else if decide ((s.Log.length : Int) < s.Commit) = true then some false else if decide (s.Active < 0) = true then some false else if decide (64 < s.Active) = true then some false else some (s.Log.all okE)) = _
 by_cases c : 0 ≤ s.View ∧ s.View ≤ 1099511627776 ∧ 0 ≤ s.Normal ∧ s.Normal ≤ s.View ∧ (s.Log.length : Int) ≤ 64 ∧ 0 ≤ s.Commit ∧ s.Commit ≤ (s.Log.length : Int) ∧ 0 ≤ s.Active ∧ s.Active ≤ 64
 ·rw [decide_eq_true c, Z6d, if_neg (ZX (by omega)), if_neg (ZX (by omega)), if_neg (ZX (by omega)), if_neg (ZX (by omega)), if_neg (ZX (by omega)), if_neg (ZX (by omega)), if_neg (ZX (by omega)), if_neg (ZX (by omega)), if_neg (ZX (by omega))]
 ·rw [decide_eq_false c, Zq3]
  repeat' split
  all_goals first | rfl | (simp only [decide_eq_true_eq] at *; omega)
end Go.Proofs.YtiigbcahdaoedaaGreatDoor.N2
end
