/- States, entries and what is committed, as plain functions. No condition. -/
import Derived.Test.YtiigbcahdaoedaaGreatDoorTypB
import Derived.Test.YtiigbcahdaoedaaGreatDoorTypC

set_option linter.unusedSimpArgs false
set_option linter.unusedVariables false
set_option linter.defProp false
section
namespace Go.Proofs.YtiigbcahdaoedaaGreatDoor.N2
open Go Go.Abs
set_option maxRecDepth 100000
theorem Z61 {a b : Int} (h : a = b) : (a == b) = true := by simpa using h
theorem Z60 {a b : Int} (h : ¬ a = b) : ¬ ((a == b) = true) := by simpa using h
theorem Z4z {a b : Int} (h : ¬ a = b) : (a != b) = true := by simpa using h
theorem Z4y {a b : Int} (h : a = b) : ¬ ((a != b) = true) := by simpa using h
theorem Z12 {c : Prop} [Decidable c] (h : c) : decide c = true := decide_eq_true h
theorem Z10 {c : Prop} [Decidable c] (h : ¬ c) : ¬ (decide c = true) := by simpa using h
theorem Z1o {α : Type} (l : List α) (i : Nat) : lget l (i : Int) = l[i]? := by simp [lget]
theorem Z5k {α : Type} (l : List α) (a : α) (h : l.length ≤ 1000000000) : lapp l [a] = some (l ++ [a]) := by
 unfold lapp
 rw [if_pos (by rw [List.length_singleton]; unfold lim; omega)]
def okR (r : Z9) : Bool := decide (1 ≤ r.ID ∧ r.ID ≤ 1099511627776 ∧ 0 ≤ r.Priority ∧ r.Priority ≤ 1000 ∧ 0 ≤ r.Action ∧ r.Action ≤ 255 ∧ 1 ≤ r.Scope ∧ r.Scope ≤ 65535 ∧ (r.Pattern.size : Int) ≤ 256)
theorem Zjr (r : Z9) : Z9J r = some (okR r) := by
 apply Zkb
 unfold Z9H okR
 repeat' split
 all_goals simp_all
 all_goals omega
def okD (n : Int) : Bool := decide (1 ≤ n) && decide (n ≤ 1099511627776)
def okE (e : Z3) : Bool :=
 decide (0 ≤ e.View ∧ e.View ≤ 1099511627776 ∧ 1 ≤ e.Client ∧ e.Client ≤ 1099511627776 ∧ 1 ≤ e.Request ∧ e.Request ≤ 1099511627776 ∧ -1 ≤ e.Delta.Default ∧ e.Delta.Default ≤ 1099511627776 ∧ -1 ≤ e.Delta.Closed ∧ e.Delta.Closed ≤ 1099511627776 ∧
  -1 ≤ e.Delta.Fuel ∧ e.Delta.Fuel ≤ 1099511627776 ∧ -1 ≤ e.Delta.Stack ∧ e.Delta.Stack ≤ 1099511627776 ∧ (e.Delta.Put.length : Int) ≤ 16 ∧ (e.Delta.Drop.length : Int) ≤ 16) && e.Delta.Put.all okR && e.Delta.Drop.all okD
theorem ZpC (n k : Int) : Z3t n k = some (decide (k ≤ n ∧ n ≤ 1099511627776)) := by
 apply ZnE
 unfold Zcu
 by_cases h : k ≤ n
 ·rw [if_pos (Z12 h)]
  simp [h]
 ·rw [if_neg (Z10 h)]
  simp [h]
theorem ZAI (L : List Z9) (hl : L.length ≤ 1000000) : ∀ (d i : Nat), i + d = L.length → ∃ n, Z2Y L (L.length : Int) (i : Int) = some n ∧ decide (0 ≤ n) = (L.drop i).any fun r => !okR r := by
 intro d
 induction d with
 | zero =>
  intro i h
  refine ⟨-1, ?_, by rw [q5_ (by omega)]; rfl⟩
  apply Z58
  unfold Z2j
  rw [if_neg (Z10 (by omega))]
  rfl
 | succ d ih =>
  intro i h
  have hi : i < L.length := by omega
  rw [Z6w hi]
  obtain ⟨n, h1, h2⟩ := ih (i + 1) (by omega)
  have hv : Z81 L[i] = some (!okR L[i]) := ZhL _ (by unfold Z7P; rw [Zjr]; rfl)
  cases hr : okR L[i] with
  | false =>
   refine ⟨i, ?_, by simp only [Zo0, hr]; simp⟩
   apply Z58
   unfold Z2j Z2W
   rw [if_pos (Z12 (by omega)), Z1o, q2_ hi, ZY, hv, ZY, hr, if_pos (by rfl)]
  | true =>
   refine ⟨n, ?_, by simp only [Zo0, hr, h2]; simp⟩
   apply Z58
   unfold Z2j Z2W Z3U
   rw [if_pos (Z12 (by omega)), Z1o, q2_ hi, ZY, hv, ZY, hr, if_neg (by simp), wrap_i64 (by omega) (by omega)]
   exact h1
theorem ZvS (L : List Int) (hl : L.length ≤ 1000000) : ∀ (d i : Nat), i + d = L.length → ∃ n, Z35 L (L.length : Int) (i : Int) = some n ∧ decide (0 ≤ n) = (L.drop i).any fun r => !okD r := by
 intro d
 induction d with
 | zero =>
  intro i h
  refine ⟨-1, ?_, by rw [q5_ (by omega)]; rfl⟩
  apply Z5j
  unfold Z2t
  rw [if_neg (Z10 (by omega))]
  rfl
 | succ d ih =>
  intro i h
  have hi : i < L.length := by omega
  rw [Z6w hi]
  obtain ⟨n, h1, h2⟩ := ih (i + 1) (by omega)
  have hv : Z82 L[i] = some (!okD L[i]) := ZhN _ (by unfold Z7Q okD; rw [ZpC]; simp)
  cases hr : okD L[i] with
  | false =>
   refine ⟨i, ?_, by simp only [Zo0, hr]; simp⟩
   apply Z5j
   unfold Z2t Z34
   rw [if_pos (Z12 (by omega)), Z1o, q2_ hi, ZY, hv, ZY, hr, if_pos (by rfl)]
  | true =>
   refine ⟨n, ?_, by simp only [Zo0, hr, h2]; simp⟩
   apply Z5j
   unfold Z2t Z34 Z48
   rw [if_pos (Z12 (by omega)), Z1o, q2_ hi, ZY, hv, ZY, hr, if_neg (by simp), wrap_i64 (by omega) (by omega)]
   exact h1
theorem ZpW (e : Z3) : Z9h e = some (okE e) := by
 have hp : e.Delta.Put.length ≤ 16 → Z3Y e.Delta.Put = some (!e.Delta.Put.all okR) := by
  intro h
  obtain ⟨n, h1, h2⟩ := ZAI e.Delta.Put (by omega) e.Delta.Put.length 0 (by omega)
  have h3 : Z4T e.Delta.Put = some n := Ze1 _ (by unfold Z4R; exact h1)
  apply Zch
  unfold Z3T
  rw [h3, ZY, h2]
  simp [List.all_eq_not_any_not]
 have hd : e.Delta.Drop.length ≤ 16 → Z4b e.Delta.Drop = some (!e.Delta.Drop.all okD) := by
  intro h
  obtain ⟨n, h1, h2⟩ := ZvS e.Delta.Drop (by omega) e.Delta.Drop.length 0 (by omega)
  have h3 : Z5g e.Delta.Drop = some n := Zet _ (by unfold Z5e; exact h1)
  apply ZcP
  unfold Z47
  rw [h3, ZY, h2]
  simp [List.all_eq_not_any_not]
 apply Zjd
 unfold Z94 okE
 simp only [ZpC, ZY]
 by_cases c1 : 0 ≤ e.View ∧ e.View ≤ 1099511627776
 case neg => rw [if_neg (by simpa using c1)]; simp; omega
 rw [if_pos (by simpa using c1)]
 by_cases c2 : 1 ≤ e.Client ∧ e.Client ≤ 1099511627776
 case neg => rw [if_neg (by simpa using c2)]; simp; omega
 rw [if_pos (by simpa using c2)]
 by_cases c3 : 1 ≤ e.Request ∧ e.Request ≤ 1099511627776
 case neg => rw [if_neg (by simpa using c3)]; simp; omega
 rw [if_pos (by simpa using c3)]
 by_cases c4 : -1 ≤ e.Delta.Default ∧ e.Delta.Default ≤ 1099511627776
 case neg => rw [if_neg (by simpa using c4)]; simp; omega
 rw [if_pos (by simpa using c4)]
 by_cases c5 : -1 ≤ e.Delta.Closed ∧ e.Delta.Closed ≤ 1099511627776
 case neg => rw [if_neg (by simpa using c5)]; simp; omega
 rw [if_pos (by simpa using c5)]
 by_cases c6 : -1 ≤ e.Delta.Fuel ∧ e.Delta.Fuel ≤ 1099511627776
 case neg => rw [if_neg (by simpa using c6)]; simp; omega
 rw [if_pos (by simpa using c6)]
 by_cases c7 : -1 ≤ e.Delta.Stack ∧ e.Delta.Stack ≤ 1099511627776
 case neg => rw [if_neg (by simpa using c7)]; simp; omega
 rw [if_pos (by simpa using c7)]
 by_cases c8 : (e.Delta.Put.length : Int) ≤ 16
 case neg => rw [if_neg (Z10 c8)]; simp; omega
 rw [if_pos (Z12 c8)]
 by_cases c9 : (e.Delta.Drop.length : Int) ≤ 16
 case neg => rw [if_neg (Z10 c9)]; simp; omega
 rw [if_pos (Z12 c9), hp (by omega), ZY, decide_eq_true (by omega), Z85]
 cases e.Delta.Put.all okR with
 | false => rfl
 | true =>
  rw [if_pos (by rfl), hd (by omega), ZY]
  simp
theorem ZCU {e : Z3} (h : okE e = true) : e.Delta.Put.length ≤ 16 ∧ e.Delta.Drop.length ≤ 16 := by
 unfold okE at h
 simp only [q9_, decide_eq_true_eq] at h
 omega
abbrev zSt : Z0 := ⟨0, 0, 0, 0, []⟩
def okSt (s : Z0) : Bool :=
 decide (0 ≤ s.View ∧ s.View ≤ 1099511627776 ∧ 0 ≤ s.Normal ∧ s.Normal ≤ s.View ∧ (s.Log.length : Int) ≤ 64 ∧ 0 ≤ s.Commit ∧ s.Commit ≤ (s.Log.length : Int) ∧ 0 ≤ s.Active ∧ s.Active ≤ 64) && s.Log.all okE
theorem ZAl (L : List Z3) (hl : L.length ≤ 1000000) : ∀ (d i : Nat), i + d = L.length → ∃ n, Z2L L (L.length : Int) (i : Int) = some n ∧ decide (0 ≤ n) = (L.drop i).any fun r => !okE r := by
 intro d
 induction d with
 | zero =>
  intro i h
  refine ⟨-1, ?_, by rw [q5_ (by omega)]; rfl⟩
  apply Z4L
  unfold Z2f
  rw [if_neg (Z10 (by omega))]
  rfl
 | succ d ih =>
  intro i h
  have hi : i < L.length := by omega
  rw [Z6w hi]
  obtain ⟨n, h1, h2⟩ := ih (i + 1) (by omega)
  have hv : Z6S L[i] = some (!okE L[i]) := ZgG _ (by unfold Z6D; rw [ZpW]; rfl)
  cases hr : okE L[i] with
  | false =>
   refine ⟨i, ?_, by simp only [Zo0, hr]; simp⟩
   apply Z4L
   unfold Z2f Z2J
   rw [if_pos (Z12 (by omega)), Z1o, q2_ hi, ZY, hv, ZY, hr, if_pos (by rfl)]
  | true =>
   refine ⟨n, ?_, by simp only [Zo0, hr, h2]; simp⟩
   apply Z4L
   unfold Z2f Z2J Z3B
   rw [if_pos (Z12 (by omega)), Z1o, q2_ hi, ZY, hv, ZY, hr, if_neg (by simp), wrap_i64 (by omega) (by omega)]
   exact h1
theorem Z6y (s : Z0) : Z1K s = some (okSt s) := by
 have hp : s.Log.length ≤ 64 → Z3D s.Log = some (!s.Log.all okE) := by
  intro h
  obtain ⟨n, h1, h2⟩ := ZAl s.Log (by omega) s.Log.length 0 (by omega)
  have h3 : Z4D s.Log = some n := Zdj _ (by unfold Z4x; exact h1)
  apply ZbR
  unfold Z3x
  rw [h3, ZY, h2]
  simp [List.all_eq_not_any_not]
 apply ZhG
 unfold Z7M okSt
 by_cases c1 : 0 ≤ s.View
 case neg => rw [if_neg (Z10 c1)]; simp; omega
 rw [if_pos (Z12 c1)]
 by_cases c2 : s.View ≤ 1099511627776
 case neg => rw [if_neg (Z10 c2)]; simp; omega
 rw [if_pos (Z12 c2)]
 by_cases c3 : 0 ≤ s.Normal
 case neg => rw [if_neg (Z10 c3)]; simp; omega
 rw [if_pos (Z12 c3)]
 by_cases c4 : s.Normal ≤ s.View
 case neg => rw [if_neg (Z10 c4)]; simp; omega
 rw [if_pos (Z12 c4)]
 by_cases c5 : (s.Log.length : Int) ≤ 64
 case neg => rw [if_neg (Z10 c5)]; simp; omega
 rw [if_pos (Z12 c5)]
 by_cases c6 : 0 ≤ s.Commit
 case neg => rw [if_neg (Z10 c6)]; simp; omega
 rw [if_pos (Z12 c6)]
 by_cases c7 : s.Commit ≤ (s.Log.length : Int)
 case neg => rw [if_neg (Z10 c7)]; simp; omega
 rw [if_pos (Z12 c7)]
 by_cases c8 : 0 ≤ s.Active
 case neg => rw [if_neg (Z10 c8)]; simp; omega
 rw [if_pos (Z12 c8)]
 by_cases c9 : s.Active ≤ 64
 case neg => rw [if_neg (Z10 c9)]; simp; omega
 rw [if_pos (Z12 c9), hp (by omega), ZY, decide_eq_true (by omega), Z85, Bool.not_not]
def Z1b (s : Z0) : Z0 := if okSt s = true then s else zSt
def Z2r (l : List Z0) : List Z0 := l.map Z1b
theorem Zxi (L : List Z0) (hl : L.length ≤ 1000000) : ∀ (d i : Nat), i + d = L.length → Z8s ((L.take i).map Z1b) L (L.length : Int) (i : Int) = some (Z2r L) := by
 intro d
 induction d with
 | zero =>
  intro i h
  apply Zez
  unfold Z8h Zaa
  rw [if_neg (Z10 (by omega)), Zmj (by omega)]
  rfl
 | succ d ih =>
  intro i h
  have hi : i < L.length := by omega
  have key := ih (i + 1) (by omega)
  have hlen : ((L.take i).map Z1b).length ≤ 1000000000 := by rw [q8_, ZaD]; omega
  have e : (L.take i).map Z1b ++ [Z1b L[i]] = (L.take (i + 1)).map Z1b := by
   rw [← ZnV hi, Zmo]
   rfl
  apply Zez
  unfold Z8h Za8
  rw [if_pos (Z12 (by omega)), Z1o, q2_ hi, ZY, Z6y, ZY]
  cases hr : okSt L[i] with
  | false =>
   rw [if_pos (by rfl)]
   unfold Za9 Z6r
   have : Z1b L[i] = ⟨0, 0, 0, 0, []⟩ := by unfold Z1b; rw [if_neg (by simp [hr])]
   rw [Z5k _ _ hlen, ZY, wrap_i64 (by omega) (by omega), ← this, e]
   exact key
  | true =>
   rw [if_neg (by simp)]
   unfold Z91 Z6r
   have : Z1b L[i] = L[i] := by unfold Z1b; rw [if_pos hr]
   rw [Z5k _ _ hlen, ZY, wrap_i64 (by omega) (by omega)]
   rw [this] at e
   rw [e]
   exact key
theorem ZfV (l : List Z0) (hl : l.length ≤ 1000000) : Z7o l = some (Z2r l) := by
 apply ZnD
 unfold Zct
 exact Zxi l hl l.length 0 (by omega)
end Go.Proofs.YtiigbcahdaoedaaGreatDoor.N2
end
section
namespace Go.Proofs.YtiigbcahdaoedaaGreatDoor.N2
open Go Go.Abs
set_option maxRecDepth 100000
open Classical in
noncomputable def eqv {α : Type} (a b : α) : Bool := if a = b then true else false
theorem ZpX {α : Type} {a b : α} : eqv a b = true ↔ a = b := by unfold eqv; split <;> simp_all
theorem Z2k {α : Type} {a b : α} (h : a = b) : eqv a b = true := ZpX.2 h
theorem Z1O {α : Type} {a b : α} (h : ¬ a = b) : eqv a b = false := by
 cases e : eqv a b with
 | false => rfl
 | true => exact absurd (ZpX.1 e) h
theorem Zoh {α β : Type} {a b : α} {c d : β} (h : a = b ↔ c = d) : eqv a b = eqv c d := by
 by_cases e : a = b
 ·rw [Z2k e, Z2k (h.1 e)]
 ·rw [Z1O e, Z1O fun k => e (h.2 k)]
theorem ZcE {α : Type} (a b : α) (l m : List α) : eqv (a :: l) (b :: m) = (eqv a b && eqv l m) := by
 by_cases h1 : a = b
 ·subst h1
  rw [Z2k rfl, Z85]
  exact Zoh (by simp)
 ·rw [Z1O h1, ZnZ]
  exact Z1O (by simp [h1])
theorem ZFq {a b : ByteArray} : Go.Abs.seq a b = true ↔ a = b := by
 unfold Go.Abs.seq
 rw [beq_iff_eq, ByteArray.toList_eq, ByteArray.toList_eq]
 obtain ⟨⟨x⟩⟩ := a
 obtain ⟨⟨y⟩⟩ := b
 simp
def eqR (a b : Z9) : Bool := (a.ID == b.ID) && ((a.Priority == b.Priority) && ((a.Action == b.Action) && ((a.Scope == b.Scope) && ((Go.Abs.seq a.Pattern b.Pattern) && true))))
theorem Zvh (a b : Z9) : eqR a b = eqv a b := by
 have h : eqR a b = true ↔ a = b := by
  unfold eqR
  simp only [q9_, beq_iff_eq, ZFq, and_true]
  constructor
  ·rintro ⟨h1, h2, h3, h4, h5⟩
   cases a; cases b
   simp only at h1 h2 h3 h4 h5
   subst h1; subst h2; subst h3; subst h4; subst h5
   rfl
  ·rintro rfl
   exact ⟨rfl, rfl, rfl, rfl, rfl⟩
 by_cases e : a = b
 ·rw [Z2k e, h.2 e]
 ·rw [Z1O e]
  cases k : eqR a b with
  | false => rfl
  | true => exact absurd (h.1 k) e
theorem ZBb (L M : List Int) (hl : L.length ≤ 1000000) (he : L.length = M.length) : ∀ (d i : Nat), i + d = L.length → Z5o L M (L.length : Int) (i : Int) = some (eqv (L.drop i) (M.drop i)) := by
 intro d
 induction d with
 | zero =>
  intro i h
  apply Zb7
  unfold Z5m Z7g
  rw [if_neg (Z10 (by omega)), q5_ (by omega), q5_ (by omega), Z2k rfl]
 | succ d ih =>
  intro i h
  have hi : i < L.length := by omega
  have hj : i < M.length := by omega
  apply Zb7
  unfold Z5m Z7e Z7f
  rw [if_pos (Z12 (by omega)), Z1o, Z1o, q2_ hi, q2_ hj, ZY, ZY, Z6w hi, Z6w hj, ZcE]
  by_cases e : L[i] = M[i]
  ·rw [if_neg (Z4y e), Z2k e, Z85, wrap_i64 (by omega) (by omega)]
   exact ih (i + 1) (by omega)
  ·rw [if_pos (Z4z e), Z1O e]
   rfl
theorem ZCy (L M : List Int) (hl : L.length ≤ 1000000) : Z9k L M = some (eqv L M) := by
 apply Zjs
 unfold Z9b Z7d
 by_cases he : L.length = M.length
 ·rw [if_neg (Z4y (by omega))]
  exact ZBb L M hl he L.length 0 (by omega)
 ·rw [if_pos (Z4z (by omega)), Z1O fun k => he (congrArg List.length k)]
theorem ZBc (L M : List Z9) (hl : L.length ≤ 1000000) (he : L.length = M.length) : ∀ (d i : Nat), i + d = L.length → Z57 L M (L.length : Int) (i : Int) = some (eqv (L.drop i) (M.drop i)) := by
 intro d
 induction d with
 | zero =>
  intro i h
  apply ZaS
  unfold Z55 Z6P
  rw [if_neg (Z10 (by omega)), q5_ (by omega), q5_ (by omega), Z2k rfl]
 | succ d ih =>
  intro i h
  have hi : i < L.length := by omega
  have hj : i < M.length := by omega
  have hq := Zvh L[i] M[i]
  unfold eqR at hq
  apply ZaS
  unfold Z55 Z6N Z6O
  rw [if_pos (Z12 (by omega)), Z1o, Z1o, q2_ hi, q2_ hj, ZY, ZY, Z6w hi, Z6w hj, ZcE, hq]
  by_cases e : L[i] = M[i]
  ·rw [Z2k e, if_neg (by simp), Z85, wrap_i64 (by omega) (by omega)]
   exact ih (i + 1) (by omega)
  ·rw [Z1O e, if_pos (by rfl)]
   rfl
theorem ZCz (L M : List Z9) (hl : L.length ≤ 1000000) : Z8O L M = some (eqv L M) := by
 apply ZiF
 unfold Z8J Z6M
 by_cases he : L.length = M.length
 ·rw [if_neg (Z4y (by omega))]
  exact ZBc L M hl he L.length 0 (by omega)
 ·rw [if_pos (Z4z (by omega)), Z1O fun k => he (congrArg List.length k)]
theorem ZBV (a b : Z3) (h1 : a.Delta.Put.length ≤ 1000000) (h2 : a.Delta.Drop.length ≤ 1000000) : Zfc a b = some (eqv a b) := by
 have hab : a = b ↔ a.View = b.View ∧ a.Client = b.Client ∧ a.Request = b.Request ∧ a.Delta.Default = b.Delta.Default ∧ a.Delta.Closed = b.Delta.Closed ∧ a.Delta.Fuel = b.Delta.Fuel ∧ a.Delta.Stack = b.Delta.Stack ∧ a.Delta.Put = b.Delta.Put ∧ a.Delta.Drop = b.Delta.Drop := by
  obtain ⟨v, c, r, d1, d2, d3, d4, d5, d6⟩ := a
  obtain ⟨v', c', r', e1, e2, e3, e4, e5, e6⟩ := b
  simp [and_assoc]
 apply Zqx
 unfold Zf8
 by_cases c1 : a.View = b.View
 case neg => rw [if_neg (Z60 c1), Z1O fun k => c1 (hab.1 k).1]
 rw [if_pos (Z61 c1)]
 by_cases c2 : a.Client = b.Client
 case neg => rw [if_neg (Z60 c2), Z1O fun k => c2 (hab.1 k).2.1]
 rw [if_pos (Z61 c2)]
 by_cases c3 : a.Request = b.Request
 case neg => rw [if_neg (Z60 c3), Z1O fun k => c3 (hab.1 k).2.2.1]
 rw [if_pos (Z61 c3)]
 by_cases c4 : a.Delta.Default = b.Delta.Default
 case neg => rw [if_neg (Z60 c4), Z1O fun k => c4 (hab.1 k).2.2.2.1]
 rw [if_pos (Z61 c4)]
 by_cases c5 : a.Delta.Closed = b.Delta.Closed
 case neg => rw [if_neg (Z60 c5), Z1O fun k => c5 (hab.1 k).2.2.2.2.1]
 rw [if_pos (Z61 c5)]
 by_cases c6 : a.Delta.Fuel = b.Delta.Fuel
 case neg => rw [if_neg (Z60 c6), Z1O fun k => c6 (hab.1 k).2.2.2.2.2.1]
 rw [if_pos (Z61 c6)]
 by_cases c7 : a.Delta.Stack = b.Delta.Stack
 case neg => rw [if_neg (Z60 c7), Z1O fun k => c7 (hab.1 k).2.2.2.2.2.2.1]
 rw [if_pos (Z61 c7), ZCz _ _ h1, ZY]
 by_cases c8 : a.Delta.Put = b.Delta.Put
 case neg => rw [Z1O c8, if_neg (by simp), Z1O fun k => c8 (hab.1 k).2.2.2.2.2.2.2.1]
 rw [Z2k c8, if_pos rfl, ZCy _ _ h2, ZY]
 exact congrArg some (Zoh ⟨fun h => hab.2 ⟨c1, c2, c3, c4, c5, c6, c7, c8, h⟩, fun h => (hab.1 h).2.2.2.2.2.2.2.2⟩)
def Sh (l : List Z3) : Prop := ∀ e ∈ l, e.Delta.Put.length ≤ 1000000 ∧ e.Delta.Drop.length ≤ 1000000
theorem ZBa (L M : List Z3) (hs : Sh L) (hl : L.length ≤ 1000000) (he : L.length = M.length) : ∀ (d i : Nat), i + d = L.length → Z2K M L (L.length : Int) (i : Int) = some (eqv (L.drop i) (M.drop i)) := by
 intro d
 induction d with
 | zero =>
  intro i h
  apply Z7E
  unfold Z2I Z3o
  rw [if_neg (Z10 (by omega)), q5_ (by omega), q5_ (by omega), Z2k rfl]
 | succ d ih =>
  intro i h
  have hi : i < L.length := by omega
  have hj : i < M.length := by omega
  obtain ⟨s1, s2⟩ := hs L[i] (Z8S hi)
  apply Z7E
  unfold Z2I Z3z Z3A
  rw [if_pos (Z12 (by omega)), Z1o, Z1o, q2_ hi, q2_ hj, ZY, ZY, Z6w hi, Z6w hj, ZcE, ZBV _ _ s1 s2, ZY]
  by_cases e : L[i] = M[i]
  ·rw [Z2k e, if_neg (by simp), Z85, wrap_i64 (by omega) (by omega)]
   exact ih (i + 1) (by omega)
  ·rw [Z1O e, if_pos (by rfl)]
   rfl
theorem Zmf (L M : List Z3) (hs : Sh L) (hl : L.length ≤ 1000000) : Z88 L M = some (eqv L M) := by
 have h : Z4C L M = some (eqv L M) := by
  apply Zdh
  unfold Z4w Z3y
  by_cases he : L.length = M.length
  ·rw [if_neg (Z4y (by omega))]
   exact ZBa L M hs hl he L.length 0 (by omega)
  ·rw [if_pos (Z4z (by omega)), Z1O fun k => he (congrArg List.length k)]
 apply Zqw
 unfold Zf7
 rw [h, ZY]
end Go.Proofs.YtiigbcahdaoedaaGreatDoor.N2
end
section
namespace Go.Proofs.YtiigbcahdaoedaaGreatDoor.N2
open Go Go.Abs
set_option maxRecDepth 100000
structure OkS (s : Z0) : Prop where
 view : 0 ≤ s.View ∧ s.View ≤ 1099511627776
 normal : 0 ≤ s.Normal ∧ s.Normal ≤ s.View
 len : s.Log.length ≤ 64
 commit : 0 ≤ s.Commit ∧ s.Commit ≤ (s.Log.length : Int)
 sh : Sh s.Log
theorem Zme {s : Z0} (h : okSt s = true) : OkS s := by
 unfold okSt at h
 simp only [q9_, decide_eq_true_eq] at h
 obtain ⟨h1, h2⟩ := h
 refine ⟨by omega, by omega, by omega, by omega, fun e he => ?_⟩
 have := ZCU (Z5a.1 h2 e he)
 omega
theorem Zaw (s : Z0) : OkS (Z1b s) := by
 unfold Z1b
 split
 ·rename_i h; exact Zme h
 ·exact Zme (by decide)
theorem Zba {l : List Z0} : ∀ s ∈ Z2r l, OkS s := by
 intro s hs
 obtain ⟨t, _, rfl⟩ := Z5l.1 hs
 exact Zaw t
theorem Zby (l : List Z0) : (Z2r l).length = l.length := q8_ _
def Z3C (s : Z0) : List Z3 := s.Log.take s.Commit.toNat
theorem Z9v {α : Type} (l : List α) (n : Int) (h0 : 0 ≤ n) (h1 : n ≤ (l.length : Int)) : lsl l 0 n = some (l.take n.toNat) := by
 unfold lsl
 rw [if_pos (by omega)]
 simp
theorem Zh3 {s : Z0} (h : OkS s) : Z74 s = some (Z3C s) := by
 apply Zpk
 unfold Zds
 rw [Z9v _ _ h.commit.1 h.commit.2, ZY]
 rfl
theorem Zvg {s : Z0} (h : OkS s) : Sh (Z3C s) := fun e he => h.sh e (Zml he)
theorem Z9q {s : Z0} (h : OkS s) : (Z3C s).length = s.Commit.toNat := by
 unfold Z3C
 rw [ZaD]
 have := h.commit
 omega
noncomputable def Z7h (a b : List Z3) : Bool := eqv (a.take (min a.length b.length)) (b.take (min a.length b.length))
theorem Zod (a b : List Z3) (hs : Sh a) (hl : a.length ≤ 1000) : Z9Q a b = some (Z7h a b) := by
 have hm : (min (a.length : Int) (b.length : Int)) = ((min a.length b.length : Nat) : Int) := by omega
 apply Zn1
 unfold Zbi Z7h
 rw [hm, Z9v _ _ (by omega) (by omega), ZY, Z9v _ _ (by omega) (by omega), ZY, Zhv, Zmf _ _ (fun e he => hs e (Zml he)) (by rw [ZaD]; omega), ZY]
noncomputable def apF (l : List Z0) (i k : Nat) : Bool := match l[i]?, l[k]? with | some x, some y => !Z7h (Z3C x) (Z3C y) | _, _ => false
def Zju (ap : Nat → Nat → Bool) (k : Nat) : Nat → Nat → Option Nat
 | 0, _ => none
 | d + 1, i => if ap i k = true then some i else Zju ap k d (i + 1)
def Zhs (ap : Nat → Nat → Bool) : Nat → Nat → Int × Int × Bool
 | 0, _ => (0, 0, true)
 | d + 1, k => match Zju ap k k 0 with | some i => ((i : Int), (k : Int), false) | none => Zhs ap d (k + 1)
theorem ZuG (L : List Z0) (hL : L.length ≤ 1000000) (hok : ∀ s ∈ L, OkS s) (k : Nat) (hk : k < L.length) {r : Int × Int × Bool} (hr : Z5W L 0 0 L (L.length : Int) (k : Int) = some r) : ∀ (d i : Nat), i + d = k →
  Z8r L 0 0 (k : Int) L (L.length : Int) (k : Int) (L.take k) ((L.take k).length : Int) (i : Int) L[k] = some (match Zju (apF L) k d i with | some j => ((j : Int), (k : Int), false) | none => r) := by
 have htl : (L.take k).length = k := by rw [ZaD]; omega
 intro d
 induction d with
 | zero =>
  intro i h
  apply Zex
  unfold Z8g
  rw [if_neg (Z10 (by omega)), hr]
  rfl
 | succ d ih =>
  intro i h
  have hi : i < L.length := by omega
  have hx := hok L[i] (Z8S hi)
  have hy := hok L[k] (Z8S hk)
  have hg : (L.take k)[i]? = some L[i] := by rw [Zea, if_pos (by omega), q2_ hi]
  have hap : apF L i k = !Z7h (Z3C L[i]) (Z3C L[k]) := by unfold apF; rw [q2_ hi, q2_ hk]
  apply Zex
  unfold Z8g Za4
  rw [if_pos (Z12 (by omega)), Z1o, hg, ZY, Zh3 hx, ZY, Zh3 hy, ZY, Zod _ _ (Zvg hx) (by rw [Z9q hx]; have := hx.commit; have := hx.len; omega), ZY]
  unfold Zju
  rw [hap]
  cases hb : Z7h (Z3C L[i]) (Z3C L[k]) with
  | true =>
   rw [if_pos rfl, if_neg (by simp)]
   unfold Z9A
   rw [wrap_i64 (by omega) (by omega)]
   exact ih (i + 1) (by omega)
  | false =>
   rw [if_neg (by simp), if_pos (by rfl)]
   unfold Za5 Z5X
   rw [ZqI.2 (Z60 (by omega))]
theorem ZuH (L : List Z0) (hL : L.length ≤ 1000000) (hok : ∀ s ∈ L, OkS s) : ∀ (d k : Nat), k + d = L.length → Z8q L 0 0 L (L.length : Int) (k : Int) = some (Zhs (apF L) d k) := by
 intro d
 induction d with
 | zero =>
  intro k h
  apply Zev
  unfold Z8f Z5X
  rw [if_neg (Z10 (by omega))]
  rfl
 | succ d ih =>
  intro k h
  have hk : k < L.length := by omega
  have hr : Z5W L 0 0 L (L.length : Int) (k : Int) = some (Zhs (apF L) d (k + 1)) := by
   unfold Z5W
   rw [wrap_i64 (by omega) (by omega)]
   exact ih (k + 1) (by omega)
  apply Zev
  unfold Z8f Za3
  rw [if_pos (Z12 (by omega)), Z1o, q2_ hk, ZY, Z9v _ _ (by omega) (by omega), ZY, Zhv]
  have key := ZuG L hL hok k hk hr k 0 (by omega)
  rw [Zhs]
  exact key
theorem ZqO (l : List Z0) (hl : l.length ≤ 1000000) : Z2S l = some (Zhs (apF (Z2r l)) l.length 0) := by
 apply Znz
 unfold Zcs
 rw [ZfV l hl, ZY]
 have := ZuH (Z2r l) (by rw [Zby]; exact hl) Zba l.length 0 (by rw [Zby]; omega)
 exact this
theorem Zkg (a b : Z0) : Z1P a b = some (decide ((Z1b a).View ≤ (Z1b b).View) && (decide ((Z1b a).Normal ≤ (Z1b b).Normal) && (decide ((Z1b a).Commit ≤ (Z1b b).Commit) && Z7h (Z3C (Z1b a)) (Z3C (Z1b b))))) := by
 have hx := Zaw a
 have hy := Zaw b
 have g0 : lget [Z1b a, Z1b b] 0 = some (Z1b a) := rfl
 have g1 : lget [Z1b a, Z1b b] 1 = some (Z1b b) := rfl
 apply Zpi
 unfold Zdp
 rw [ZfV _ (by simp), ZY, show Z2r [a, b] = [Z1b a, Z1b b] from rfl, g0, ZY, g1, ZY]
 by_cases c1 : (Z1b a).View ≤ (Z1b b).View
 case neg => rw [if_neg (Z10 c1), decide_eq_false c1]; rfl
 rw [if_pos (Z12 c1), decide_eq_true c1]
 by_cases c2 : (Z1b a).Normal ≤ (Z1b b).Normal
 case neg => rw [if_neg (Z10 c2), decide_eq_false c2]; rfl
 rw [if_pos (Z12 c2), decide_eq_true c2]
 by_cases c3 : (Z1b a).Commit ≤ (Z1b b).Commit
 case neg => rw [if_neg (Z10 c3), decide_eq_false c3]; rfl
 rw [if_pos (Z12 c3), decide_eq_true c3, Zh3 hx, ZY, Zh3 hy, ZY, Zod _ _ (Zvg hx) (by rw [Z9q hx]; have := hx.commit; have := hx.len; omega), ZY]
 rfl
def dltF (d : Z1U) : Za := ⟨d.Default, d.Closed, d.Fuel, d.Stack, d.Put, d.Drop⟩
def entF (e : Z3) : Zo := ⟨e.View, e.Client, e.Request, dltF e.Delta⟩
def stF (s : Z0) : Z2 := ⟨s.View, s.Normal, s.Commit, s.Active, s.Log.map entF⟩
theorem ZB8 {a b : Z3} (h : entF a = entF b) : a = b := by
 obtain ⟨v, c, r, d1, d2, d3, d4, d5, d6⟩ := a
 obtain ⟨v', c', r', e1, e2, e3, e4, e5, e6⟩ := b
 simpa [entF, dltF] using h
theorem ZB5 (L : List Z9) (hl : L.length ≤ 1000000) (a b c e : Int) (D : List Int) : ∀ (d i : Nat), i + d = L.length → Z4I L (L.length : Int) (i : Int) a b c e (L.take i) D = some ⟨a, b, c, e, L, D⟩ := by
 intro d
 induction d with
 | zero =>
  intro i h
  apply Zan
  unfold Z4F Z68
  rw [if_neg (Z10 (by omega)), Zmj (by omega)]
 | succ d ih =>
  intro i h
  have hi : i < L.length := by omega
  apply Zan
  unfold Z4F Z67
  rw [if_pos (Z12 (by omega)), Z1o, q2_ hi, ZY, Z5k _ _ (by rw [ZaD]; omega), ZY, ZnV hi, wrap_i64 (by omega) (by omega)]
  exact ih (i + 1) (by omega)
theorem ZCx (d : Z1U) (h : d.Put.length ≤ 1000000) : Z7Y d = some (dltF d) := by
 apply Zhz
 unfold Z7I
 exact ZB5 d.Put h _ _ _ _ _ d.Put.length 0 (by omega)
theorem ZxG (L : List Z3) (hs : Sh L) (hl : L.length ≤ 1000000) : ∀ (d i : Nat), i + d = L.length → Z3X ((L.take i).map entF) L (L.length : Int) (i : Int) = some (L.map entF) := by
 intro d
 induction d with
 | zero =>
  intro i h
  apply Z9O
  unfold Z3S Z5v
  rw [if_neg (Z10 (by omega)), Zmj (by omega)]
 | succ d ih =>
  intro i h
  have hi : i < L.length := by omega
  have e : (L.take i).map entF ++ [entF L[i]] = (L.take (i + 1)).map entF := by
   rw [← ZnV hi, Zmo]
   rfl
  have key := ih (i + 1) (by omega)
  rw [← e] at key
  apply Z9O
  unfold Z3S Z5u
  rw [if_pos (Z12 (by omega)), Z1o, q2_ hi, ZY, ZCx _ (hs _ (Z8S hi)).1, ZY, Z5k _ _ (by rw [q8_, ZaD]; omega), ZY, wrap_i64 (by omega) (by omega)]
  exact key
theorem ZAS (s : Z0) (hs : Sh s.Log) (hl : s.Log.length ≤ 1000000) : Z7Z s = some (stF s) := by
 have h : Z6R s.Log = some (s.Log.map entF) := by
  apply ZgE
  unfold Z6C
  exact ZxG s.Log hs hl s.Log.length 0 (by omega)
 apply ZhB
 unfold Z7J
 rw [h, ZY]
 rfl
theorem ZpS (a b c : Int) : Z3e a b c = some (decide (b ≤ a ∧ a ≤ c)) := by
 apply Zn4
 unfold Zbj
 by_cases h : b ≤ a
 ·rw [if_pos (Z12 h)]
  simp [h]
 ·rw [if_neg (Z10 h)]
  simp [h]
theorem Zv4 (r : Z9) : Z9i r = some (okR r) := by
 apply Zjf
 unfold Z95 okR
 repeat' split
 all_goals simp_all
 all_goals omega
theorem Zul (D : Za) (hl : D.Drop.length ≤ 1000000) : ∀ (d i : Nat), i + d = D.Drop.length → Z4K (i : Int) D = some ((D.Drop.drop i).all okD) := by
 intro d
 induction d with
 | zero =>
  intro i h
  apply Zap
  unfold Z4H Z6h
  rw [if_neg (Z10 (by omega)), q5_ (by omega)]
  rfl
 | succ d ih =>
  intro i h
  have hi : i < D.Drop.length := by omega
  apply Zap
  unfold Z4H Z6g Z6f
  have hd : decide (1 ≤ D.Drop[i] ∧ D.Drop[i] ≤ 1099511627776) = okD D.Drop[i] := by unfold okD; simp
  rw [if_pos (Z12 (by omega)), Z1o, q2_ hi, ZY, ZpS, ZY, Z6w hi, List.all_cons, hd]
  cases h1 : okD D.Drop[i] with
  | false => rfl
  | true =>
   rw [if_neg (by simp), Z85, wrap_i64 (by omega) (by omega)]
   exact ih (i + 1) (by omega)
theorem Zv3 (D : Za) (hp : D.Put.length ≤ 1000000) (hl : D.Drop.length ≤ 1000000) : ∀ (d i : Nat), i + d = D.Put.length → Z31 (i : Int) D = some ((D.Put.drop i).all okR && D.Drop.all okD) := by
 intro d
 induction d with
 | zero =>
  intro i h
  apply ZaO
  unfold Z53 Z6e
  rw [if_neg (Z10 (by omega)), q5_ (by omega)]
  exact Zul D hl D.Drop.length 0 (by omega)
 | succ d ih =>
  intro i h
  have hi : i < D.Put.length := by omega
  apply ZaO
  unfold Z53 Z6H Z6G
  rw [if_pos (Z12 (by omega)), Z1o, q2_ hi, ZY, Zv4, ZY, Z6w hi, List.all_cons]
  cases h1 : okR D.Put[i] with
  | false => rfl
  | true =>
   rw [if_neg (by simp), Z85, wrap_i64 (by omega) (by omega)]
   exact ih (i + 1) (by omega)
theorem Zum (e : Z3) (h1 : e.Delta.Put.length ≤ 1000000) (h2 : e.Delta.Drop.length ≤ 1000000) : Z8K (entF e) = some (okE e) := by
 apply Ziq
 unfold Z8G Z2y Z6E Z30 Z6F okE
 simp only [ZpS, ZY]
 have hl := Zv3 (dltF e.Delta) h1 h2 e.Delta.Put.length 0 (by show 0 + _ = e.Delta.Put.length; omega)
 have hl : Z31 0 (dltF e.Delta) = some (e.Delta.Put.all okR && e.Delta.Drop.all okD) := hl
 show (if (!decide (0 ≤ e.View ∧ e.View ≤ 1099511627776)) = true then some false else if (!decide (1 ≤ e.Client ∧ e.Client ≤ 1099511627776)) = true then some false else if (!decide (1 ≤ e.Request ∧ e.Request ≤ 1099511627776)) = true then some false else
  if decide (16 < (e.Delta.Put.length : Int)) = true then some false else if decide (16 < (e.Delta.Drop.length : Int)) = true then some false else if (!decide (-1 ≤ e.Delta.Default ∧ e.Delta.Default ≤ 1099511627776)) = true then some false else
  if (!decide (-1 ≤ e.Delta.Closed ∧ e.Delta.Closed ≤ 1099511627776)) = true then some false else if (!decide (-1 ≤ e.Delta.Fuel ∧ e.Delta.Fuel ≤ 1099511627776)) = true then some false else if (!decide (-1 ≤ e.Delta.Stack ∧ e.Delta.Stack ≤ 1099511627776)) = true then some false else
  Z31 0 (dltF e.Delta)) = _
 rw [hl]
 by_cases c1 : 0 ≤ e.View ∧ e.View ≤ 1099511627776
 case neg => rw [if_pos (by rw [decide_eq_false c1]; rfl)]; simp; omega
 rw [if_neg (by rw [decide_eq_true c1]; simp)]
 by_cases c2 : 1 ≤ e.Client ∧ e.Client ≤ 1099511627776
 case neg => rw [if_pos (by rw [decide_eq_false c2]; rfl)]; simp; omega
 rw [if_neg (by rw [decide_eq_true c2]; simp)]
 by_cases c3 : 1 ≤ e.Request ∧ e.Request ≤ 1099511627776
 case neg => rw [if_pos (by rw [decide_eq_false c3]; rfl)]; simp; omega
 rw [if_neg (by rw [decide_eq_true c3]; simp)]
 by_cases c8 : (e.Delta.Put.length : Int) ≤ 16
 case neg => rw [if_pos (Z12 (by omega))]; simp; omega
 rw [if_neg (Z10 (by omega))]
 by_cases c9 : (e.Delta.Drop.length : Int) ≤ 16
 case neg => rw [if_pos (Z12 (by omega))]; simp; omega
 rw [if_neg (Z10 (by omega))]
 by_cases c4 : -1 ≤ e.Delta.Default ∧ e.Delta.Default ≤ 1099511627776
 case neg => rw [if_pos (by rw [decide_eq_false c4]; rfl)]; simp; omega
 rw [if_neg (by rw [decide_eq_true c4]; simp)]
 by_cases c5 : -1 ≤ e.Delta.Closed ∧ e.Delta.Closed ≤ 1099511627776
 case neg => rw [if_pos (by rw [decide_eq_false c5]; rfl)]; simp; omega
 rw [if_neg (by rw [decide_eq_true c5]; simp)]
 by_cases c6 : -1 ≤ e.Delta.Fuel ∧ e.Delta.Fuel ≤ 1099511627776
 case neg => rw [if_pos (by rw [decide_eq_false c6]; rfl)]; simp; omega
 rw [if_neg (by rw [decide_eq_true c6]; simp)]
 by_cases c7 : -1 ≤ e.Delta.Stack ∧ e.Delta.Stack ≤ 1099511627776
 case neg => rw [if_pos (by rw [decide_eq_false c7]; rfl)]; simp; omega
 rw [if_neg (by rw [decide_eq_true c7]; simp), decide_eq_true (by omega), Z85]
theorem Zv2 (s : Z0) (hs : Sh s.Log) (hl : s.Log.length ≤ 1000000) : ∀ (d i : Nat), i + d = s.Log.length → Z3G (i : Int) (stF s) = some ((s.Log.drop i).all okE) := by
 have hlen : (stF s).Log.length = s.Log.length := q8_ _
 intro d
 induction d with
 | zero =>
  intro i h
  apply ZaQ
  unfold Z54 Z6L
  rw [hlen, if_neg (Z10 (by omega)), q5_ (by omega)]
  rfl
 | succ d ih =>
  intro i h
  have hi : i < s.Log.length := by omega
  have hg : lget (stF s).Log (i : Int) = some (entF s.Log[i]) := by
   rw [Z1o]
   show (s.Log.map entF)[i]? = _
   rw [q7_, q2_ hi]
   rfl
  obtain ⟨s1, s2⟩ := hs _ (Z8S hi)
  apply ZaQ
  unfold Z54 Z6K Z6J
  rw [hlen, if_pos (Z12 (by omega)), hg, ZY, Zum _ s1 s2, ZY, Z6w hi, List.all_cons]
  cases h1 : okE s.Log[i] with
  | false => rfl
  | true =>
   rw [if_neg (by simp), Z85, wrap_i64 (by omega) (by omega)]
   exact ih (i + 1) (by omega)
theorem Zuq (s : Z0) (hs : Sh s.Log) (hl : s.Log.length ≤ 1000000) : Z8M (stF s) = some (okSt s) := by
 have hlen : (stF s).Log.length = s.Log.length := q8_ _
 have h4 := Zv2 s hs hl s.Log.length 0 (by omega)
 have h4 : Z3G 0 (stF s) = some (s.Log.all okE) := h4
 apply Zis
 unfold Z8H Z1H Z6I okSt
 rw [hlen, h4]
 show (if decide (s.View < 0) = true then some false else if decide (1099511627776 < s.View) = true then some false else if decide (s.Normal < 0) = true then some false else if decide (s.View < s.Normal) = true then some false else
  if decide (64 < (s.Log.length : Int)) = true then some false else if decide (s.Commit < 0) = true then some false else if decide ((s.Log.length : Int) < s.Commit) = true then some false else if decide (s.Active < 0) = true then some false else if decide (64 < s.Active) = true then some false else some (s.Log.all okE)) = _
 by_cases c : 0 ≤ s.View ∧ s.View ≤ 1099511627776 ∧ 0 ≤ s.Normal ∧ s.Normal ≤ s.View ∧ (s.Log.length : Int) ≤ 64 ∧ 0 ≤ s.Commit ∧ s.Commit ≤ (s.Log.length : Int) ∧ 0 ≤ s.Active ∧ s.Active ≤ 64
 ·rw [decide_eq_true c, Z85, if_neg (Z10 (by omega)), if_neg (Z10 (by omega)), if_neg (Z10 (by omega)), if_neg (Z10 (by omega)), if_neg (Z10 (by omega)), if_neg (Z10 (by omega)), if_neg (Z10 (by omega)), if_neg (Z10 (by omega)), if_neg (Z10 (by omega))]
 ·rw [decide_eq_false c, ZnZ]
  repeat' split
  all_goals first | rfl | (simp only [decide_eq_true_eq] at *; omega)
end Go.Proofs.YtiigbcahdaoedaaGreatDoor.N2
end
