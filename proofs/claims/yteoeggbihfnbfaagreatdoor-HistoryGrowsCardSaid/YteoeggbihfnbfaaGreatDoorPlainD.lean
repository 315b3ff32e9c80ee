/- Histories as plain functions. No condition. -/
import Derived.Test.YteoeggbihfnbfaaGreatDoorPlainC

set_option linter.unusedSimpArgs false
set_option linter.unusedVariables false
set_option linter.defProp false
section
namespace Go.Proofs.YteoeggbihfnbfaaGreatDoor.N2
open Go Go.Abs Go.Proofs.Unis Go.Proofs.Norm
set_option maxRecDepth 100000
def okD (n : Int) : Bool := decide (1 ≤ n) && decide (n ≤ 1099511627776)
def okE (e : Z16) : Bool :=
 decide (0 ≤ e.View ∧ e.View ≤ 1099511627776 ∧ 1 ≤ e.Client ∧ e.Client ≤ 1099511627776 ∧ 1 ≤ e.Request ∧ e.Request ≤ 1099511627776 ∧ -1 ≤ e.Delta.Default ∧ e.Delta.Default ≤ 1099511627776 ∧ -1 ≤ e.Delta.Closed ∧ e.Delta.Closed ≤ 1099511627776 ∧
  -1 ≤ e.Delta.Fuel ∧ e.Delta.Fuel ≤ 1099511627776 ∧ -1 ≤ e.Delta.Stack ∧ e.Delta.Stack ≤ 1099511627776 ∧ (e.Delta.Put.length : Int) ≤ 16 ∧ (e.Delta.Drop.length : Int) ≤ 16) && e.Delta.Put.all okR && e.Delta.Drop.all okD
theorem ZxA (n k : Int) : Z6n n k = some (decide (k ≤ n ∧ n ≤ 1099511627776)) := by
 apply Zvt
 unfold ZhC
 by_cases h : k ≤ n
 ·rw [if_pos (Z2G h)]
  simp [h]
 ·rw [if_neg (Z2E h)]
  simp [h]
theorem ZKa (L : List ZA) (hl : L.length ≤ 1000000) : ∀ (d i : Nat), i + d = L.length → ∃ n, Z5z L (L.length : Int) (i : Int) = some n ∧ decide (0 ≤ n) = (L.drop i).any fun r => !okR r := by
 intro d
 induction d with
 | zero =>
  intro i h
  refine ⟨-1, ?_, by rw [q9_ (by omega)]; rfl⟩
  apply Z8g
  unfold Z4u
  rw [if_neg (Z2E (by omega))]
  rfl
 | succ d ih =>
  intro i h
  have hi : i < L.length := by omega
  rw [Zbi hi]
  obtain ⟨n, h1, h2⟩ := ih (i + 1) (by omega)
  have hv : Zba L[i] = some (!okR L[i]) := ZnE _ (by unfold Zb4; rw [ZaI]; rfl)
  cases hr : okR L[i] with
  | false =>
   refine ⟨i, ?_, by simp only [Zw7, hr]; simp⟩
   apply Z8g
   unfold Z4u Z5q
   rw [if_pos (Z2G (by omega)), Z2W, q2_ hi, q0_, hv, q0_, hr, if_pos (by rfl)]
  | true =>
   refine ⟨n, ?_, by simp only [Zw7, hr, h2]; simp⟩
   apply Z8g
   unfold Z4u Z5q Z6U
   rw [if_pos (Z2G (by omega)), Z2W, q2_ hi, q0_, hv, q0_, hr, if_neg (by simp), wrap_i64 (by omega) (by omega)]
   exact h1
theorem ZFi (L : List Int) (hl : L.length ≤ 1000000) : ∀ (d i : Nat), i + d = L.length → ∃ n, Z5O L (L.length : Int) (i : Int) = some n ∧ decide (0 ≤ n) = (L.drop i).any fun r => !okD r := by
 intro d
 induction d with
 | zero =>
  intro i h
  refine ⟨-1, ?_, by rw [q9_ (by omega)]; rfl⟩
  apply Z8z
  unfold Z4H
  rw [if_neg (Z2E (by omega))]
  rfl
 | succ d ih =>
  intro i h
  have hi : i < L.length := by omega
  rw [Zbi hi]
  obtain ⟨n, h1, h2⟩ := ih (i + 1) (by omega)
  have hv : Zbb L[i] = some (!okD L[i]) := ZnG _ (by unfold Zb5 okD; rw [ZxA]; simp)
  cases hr : okD L[i] with
  | false =>
   refine ⟨i, ?_, by simp only [Zw7, hr]; simp⟩
   apply Z8z
   unfold Z4H Z5M
   rw [if_pos (Z2G (by omega)), Z2W, q2_ hi, q0_, hv, q0_, hr, if_pos (by rfl)]
  | true =>
   refine ⟨n, ?_, by simp only [Zw7, hr, h2]; simp⟩
   apply Z8z
   unfold Z4H Z5M Z7h
   rw [if_pos (Z2G (by omega)), Z2W, q2_ hi, q0_, hv, q0_, hr, if_neg (by simp), wrap_i64 (by omega) (by omega)]
   exact h1
theorem Zp5 (e : Z16) : ZcJ e = some (okE e) := by
 have hp : e.Delta.Put.length ≤ 16 → Z6Y e.Delta.Put = some (!e.Delta.Put.all okR) := by
  intro h
  obtain ⟨n, h1, h2⟩ := ZKa e.Delta.Put (by omega) e.Delta.Put.length 0 (by omega)
  have h3 : Z87 e.Delta.Put = some n := Zjj _ (by unfold Z82; exact h1)
  apply Zhc
  unfold Z6Q
  rw [h3, q0_, h2]
  simp [List.all_eq_not_any_not]
 have hd : e.Delta.Drop.length ≤ 16 → Z7n e.Delta.Drop = some (!e.Delta.Drop.all okD) := by
  intro h
  obtain ⟨n, h1, h2⟩ := ZFi e.Delta.Drop (by omega) e.Delta.Drop.length 0 (by omega)
  have h3 : Z8p e.Delta.Drop = some n := ZjM _ (by unfold Z8n; exact h1)
  apply Zi2
  unfold Z7f
  rw [h3, q0_, h2]
  simp [List.all_eq_not_any_not]
 apply ZpB
 unfold Zcw okE
 simp only [ZxA, q0_]
 by_cases c1 : 0 ≤ e.View ∧ e.View ≤ 1099511627776
 case neg => rw [if_neg (by simpa using c1)]; simp; omega
 rw [if_pos (by simpa using c1)]
 by_cases c2 : 1 ≤ e.Client ∧ e.Client ≤ 1099511627776
 case neg => rw [if_neg (by simpa using c2)]; simp; omega
 rw [if_pos (by simpa using c2)]
 by_cases c3 : 1 ≤ e.Request ∧ e.Request ≤ 1099511627776
 case neg => rw [if_neg (by simpa using c3)]; simp; omega
 rw [if_pos (by simpa using c3)]
 by_cases c4 : -1 ≤ e.Delta.Default ∧ e.Delta.Default ≤ 1099511627776
 case neg => rw [if_neg (by simpa using c4)]; simp; omega
 rw [if_pos (by simpa using c4)]
 by_cases c5 : -1 ≤ e.Delta.Closed ∧ e.Delta.Closed ≤ 1099511627776
 case neg => rw [if_neg (by simpa using c5)]; simp; omega
 rw [if_pos (by simpa using c5)]
 by_cases c6 : -1 ≤ e.Delta.Fuel ∧ e.Delta.Fuel ≤ 1099511627776
 case neg => rw [if_neg (by simpa using c6)]; simp; omega
 rw [if_pos (by simpa using c6)]
 by_cases c7 : -1 ≤ e.Delta.Stack ∧ e.Delta.Stack ≤ 1099511627776
 case neg => rw [if_neg (by simpa using c7)]; simp; omega
 rw [if_pos (by simpa using c7)]
 by_cases c8 : (e.Delta.Put.length : Int) ≤ 16
 case neg => rw [if_neg (Z2E c8)]; simp; omega
 rw [if_pos (Z2G c8)]
 by_cases c9 : (e.Delta.Drop.length : Int) ≤ 16
 case neg => rw [if_neg (Z2E c9)]; simp; omega
 rw [if_pos (Z2G c9), hp (by omega), q0_, decide_eq_true (by omega), Zw4]
 cases e.Delta.Put.all okR with
 | false => rfl
 | true =>
  rw [if_pos (by rfl), hd (by omega), q0_]
  simp
theorem ZET {e : Z16} (h : okE e = true) : e.Delta.Put.length ≤ 16 ∧ e.Delta.Drop.length ≤ 16 := by
 unfold okE at h
 simp only [q6_, decide_eq_true_eq] at h
 omega
theorem ZLm (l L : List Z16) (n k : Int) (R : List ZA) (hl : R.length ≤ 20) {r : Bool} (hr : Z5n l L n (IntKind.i64.wrap (k + 1)) = some r) : ∀ (m i : Nat), i + m = R.length →
  ∃ r', Z6m l L n k R (R.length : Int) (i : Int) = some r' := by
 intro m
 induction m with
 | zero =>
  intro i h
  refine ⟨r, ?_⟩
  apply Z9A
  unfold Z5j Z7Z
  rw [if_neg (Z2E (by omega))]
  exact hr
 | succ m ih =>
  intro i h
  have hi : i < R.length := by omega
  obtain ⟨r', e⟩ := ih (i + 1) (by omega)
  by_cases hc : 300 < (R[i].Pattern.size : Int)
  ·refine ⟨false, ?_⟩
   apply Z9A
   unfold Z5j Z6l
   rw [if_pos (Z2G (by omega)), Z2W, q2_ hi, q0_, if_pos (Z2G hc)]
  ·refine ⟨r', ?_⟩
   apply Z9A
   unfold Z5j Z6l Z7Y
   rw [if_pos (Z2G (by omega)), Z2W, q2_ hi, q0_, if_neg (Z2E hc), wrap_i64 (by omega) (by omega)]
   exact e
theorem ZLl (l L : List Z16) (hl : L.length ≤ 9223372036854775807) : ∀ (m i : Nat), i + m = L.length → ∃ r, Z5n l L (L.length : Int) (i : Int) = some r := by
 intro m
 induction m with
 | zero =>
  intro i h
  refine ⟨decide ((l.length : Int) ≤ 70), ?_⟩
  apply Z7j
  unfold Z4y Z80
  rw [if_neg (Z2E (by omega))]
 | succ m ih =>
  intro i h
  have hi : i < L.length := by omega
  obtain ⟨r, e⟩ := ih (i + 1) (by omega)
  by_cases c1 : 20 < (L[i].Delta.Put.length : Int)
  ·refine ⟨false, ?_⟩
   apply Z7j
   unfold Z4y Z5k Z5l
   rw [if_pos (Z2G (by omega)), Z2W, q2_ hi, q0_, if_pos (Z2G c1)]
  by_cases c2 : 20 < (L[i].Delta.Drop.length : Int)
  ·refine ⟨false, ?_⟩
   apply Z7j
   unfold Z4y Z5k Z5l
   rw [if_pos (Z2G (by omega)), Z2W, q2_ hi, q0_, if_neg (Z2E c1), if_pos (Z2G c2)]
  obtain ⟨r', e'⟩ := ZLm l L L.length i L[i].Delta.Put (by omega) (r := r) (by rw [wrap_i64 (by omega) (by omega)]; exact e) L[i].Delta.Put.length 0 (by omega)
  refine ⟨r', ?_⟩
  apply Z7j
  unfold Z4y Z5k Z8l
  rw [if_pos (Z2G (by omega)), Z2W, q2_ hi, q0_, if_neg (Z2E c1), if_neg (Z2E c2)]
  exact e'
theorem ZDg (l : List Z16) (hl : l.length ≤ 9223372036854775807) : ∃ b, Z9D l = some b := by
 obtain ⟨r, e⟩ := ZLl l l hl l.length 0 (by omega)
 exact ⟨r, ZlG _ (by unfold Z9C; exact e)⟩
theorem ZHO (l : List ZA) (h : l.length ≤ 1048576) : ZeK l = some l := by
 apply Z1f (fun _ _ ha hb => RRun.uniq Zp1 (ha .sh) (hb .sh))
 intro o
 have e : EE 62 [(.p (.lst o (l.map ZE)))] [] = some ((.p (.lst .sh (l.map ZE))), []) := by
  rw [show EE 62 = E PP XX HH 62 from rfl, Zwf (P := PP) (X := XX) (H := HH) (f := 62) (m := ZtJ) (by kernel_rfl)]
  have : ZtJ [(.p (.lst o (l.map ZE)))] [] = if (l.map ZE).length ≤ 1048576 ∧ ((l.map ZE).all fun e => (Z2r e).length == 5 && (Z2r e).all Zrr) = true then some (.p (.lst .sh (l.map ZE)), []) else none := rfl
  rw [this, if_pos]
  refine ⟨by simpa using h, ?_⟩
  rw [Zas]
  intro x hx
  obtain ⟨r, _, rfl⟩ := Z7A.1 hx
  rfl
 exact ⟨_, e, [], rfl⟩
def setF (v : Int) (sets : List ZD) : ZD × Bool := if v < 0 then (zS, false) else match sets[v.toNat]? with | some s => (s, true) | none => (zS, false)
abbrev Fit (sets : List ZD) : Prop := ∀ s ∈ sets, s.Rules.length ≤ 1000000
theorem Znr (v : Int) (sets : List ZD) (hf : Fit sets) : Z5J v sets = some (setF v sets) := by
 apply Zkc
 unfold Z8V Z5X setF
 by_cases h : v < 0
 ·rw [if_pos (Z2G h), if_pos h]
  rfl
 rw [if_neg (Z2E h), if_neg h]
 by_cases h2 : (sets.length : Int) ≤ v
 ·rw [if_pos (Z2G h2), ZgR (by omega)]
  rfl
 rw [if_neg (Z2E h2)]
 have hlt : v.toNat < sets.length := by omega
 have hg : lget sets v = some sets[v.toNat] := by
  unfold lget
  rw [if_pos (by omega), q2_ hlt]
 unfold Z7D
 rw [hg, q0_, ZHO _ (ZgU (hf _ (ZoR hlt)) (by omega)), q0_, q2_ hlt]
theorem ZeG (sets : List ZD) (h : sets ≠ []) (hl : sets.length ≤ 1000000) : Z3g sets = some ((sets.length : Int) - 1) := by
 apply ZhY
 unfold Z7d
 have : 0 < sets.length := ZzY.2 h
 rw [wrap_i64 (by omega) (by omega)]
theorem ZDe (sets : List ZD) (h : sets ≠ []) : setF ((sets.length : Int) - 1) sets = (sets.getLast h, true) := by
 have h0 : 0 < sets.length := ZzY.2 h
 unfold setF
 rw [if_neg (by omega)]
 have : ((sets.length : Int) - 1).toNat = sets.length - 1 := by omega
 rw [this, List.getLast_eq_getElem, q2_ (by omega)]
abbrev ML := List (Int × Z19)
noncomputable def Z8q (sets : List ZD) : ZD := sets.getLastD zS
noncomputable def chF (d : Z1i) (sets : List ZD) : Z1k × List ZD :=
 if (Z4h (Z8q sets) d).2.Code ≠ 0 then (⟨0, (Z4h (Z8q sets) d).2⟩, sets) else (⟨sets.length, ⟨0, 0, 0⟩⟩, sets ++ [(Z4h (Z8q sets) d).1])
theorem ZNV (d : Z1i) (sets : List ZD) (h : sets ≠ []) (hl : sets.length ≤ 1000000) (h1 : d.Put.length ≤ 1000000) (h2 : d.Drop.length ≤ 1000000) : Z7K d sets = some (chF d sets) := by
 have h0 : 0 < sets.length := ZzY.2 h
 have hg : lget sets ((sets.length : Int) - 1) = some (Z8q sets) := by
  unfold lget Z8q
  rw [if_pos (by omega), show ((sets.length : Int) - 1).toNat = sets.length - 1 by omega, q2_ (by omega), List.getLastD_eq_getLast?, List.getLast?_eq_some_getLast h, Ztu, List.getLast_eq_getElem]
 apply ZiH
 unfold Z7E chF
 rw [wrap_i64 (by omega) (by omega), hg, q0_, ZlZ _ _ h1 h2, q0_]
 by_cases hc : (Z4h (Z8q sets) d).2.Code = 0
 ·rw [if_neg (Zez hc), if_neg (by simp [hc])]
  unfold Z6r
  rw [Zrs _ _ (by omega), q0_, wrap_i64 (by simp <;> omega) (by simp <;> omega)]
  simp
 ·rw [if_pos (Zij hc), if_pos hc]
def oldF (e : Z16) (m : ML) : Bool := match getM m e.Client with | some l => decide (e.Request ≤ l.request) | none => false
noncomputable def addO (e : Z16) (sets : List ZD) (m : ML) : Z1k × Int × List ZD × ML :=
 if okE e = false then (⟨0, ⟨0, 0, 0⟩⟩, 10, sets, m)
 else if oldF e m = true then (⟨0, ⟨31, 0, 0⟩⟩, 0, sets, m)
 else ((chF e.Delta sets).1, 0, (chF e.Delta sets).2, putM m e.Client ⟨e.Request, (chF e.Delta sets).1⟩)
theorem ZtL (e : Z16) (sets : List ZD) (c : Int) (m : ML) (h : sets ≠ []) (hl : sets.length ≤ 1000000) :
  ∃ c', Z4e e sets c m = some ((addO e sets m).1, (addO e sets m).2.1, (addO e sets m).2.2.1, c', (addO e sets m).2.2.2) := by
 unfold addO
 cases hk : okE e with
 | false =>
  refine ⟨c, ?_⟩
  apply ZdA
  unfold Z6L
  rw [Zp5, q0_, hk]
  rfl
 | true =>
  obtain ⟨l1, l2⟩ := ZET hk
  have r7 : ∀ c, Z4R sets c m e = some ((chF e.Delta sets).1, 0, (chF e.Delta sets).2, c, putM m e.Client ⟨e.Request, (chF e.Delta sets).1⟩) := by
   intro c
   unfold Z4R
   rw [ZNV e.Delta sets h hl (by omega) (by omega), q0_]
  have fin : ∀ {x}, Z4Q sets c m e = some x → Z4e e sets c m = some x := by
   intro x hx
   apply ZdA
   unfold Z6L
   rw [Zp5, q0_, hk, if_neg (by simp)]
   exact hx
  refine ⟨IntKind.i64.wrap (c + 1), fin ?_⟩
  cases ho : oldF e m with
  | true =>
   rw [if_neg (by simp), if_pos rfl]
   unfold oldF at ho
   cases hg : getM m e.Client with
   | none => rw [hg] at ho; simp at ho
   | some l =>
    rw [hg] at ho
    unfold Z4Q
    rw [hg, if_pos (by rfl), Ztu, if_pos ho]
    rfl
  | false =>
   rw [if_neg (by simp), if_neg (by simp), ← r7]
   unfold oldF at ho
   unfold Z4Q
   cases hg : getM m e.Client with
   | none => rw [if_neg (by simp)]
   | some l =>
    rw [hg] at ho
    rw [if_pos (by rfl), Ztu, if_neg (by simpa using ho)]
abbrev first : ZD := ⟨0, 255, 10000, 500, []⟩
theorem ZEO : Zer = some ([], [first], 0) := by
 apply Zvs
 unfold ZhB
 rw [show Zja = some first from Zxh rfl, q0_]
abbrev ZjB : ZA := ⟨3, 0, 0, 1, ByteArray.mk #[97]⟩
abbrev Zgg : ZA := ⟨4, 0, 0, 1, ByteArray.mk #[40]⟩
abbrev setA : ZD := ⟨0, 255, 10000, 500, [ZjB]⟩
abbrev entA : Z16 := ⟨0, 1, 1, ⟨-1, -1, -1, -1, [ZjB], []⟩⟩
abbrev entB : Z16 := ⟨0, 1, 2, ⟨-1, -1, -1, -1, [Zgg], []⟩⟩
theorem ZLL : Fine ZjB := by
 have e1 : (Z9p (ByteArray.mk #[97])) = (⟨setN [(97, 97)], 0, false⟩, ⟨0, 0⟩) := by rfl
 have : Z6F (ByteArray.mk #[97]) = some ⟨0, 0, 0⟩ := by
  apply Zbf
  unfold Z7W Z9k
  rw [Zod, q0_, e1, if_neg (Zez rfl), ZA4 (Shp.set [(97, 97)]), q0_]
  rfl
 show (patF (ByteArray.mk #[97])).Code = 0
 unfold patF
 rw [this]
 rfl
theorem badB : badF Zgg = ⟨20, 4, 0⟩ := by
 have e2 : (Z9p (ByteArray.mk #[40])).2 = ⟨20, 0⟩ := by rfl
 unfold badF
 show (⟨(patF (ByteArray.mk #[40])).Code, 4, (patF (ByteArray.mk #[40])).At⟩ : Z10) = _
 rw [ZNA (by rw [e2]; decide), e2]
theorem ZNo : okS first = true := by decide
theorem okA : okR ZjB = true := by decide
theorem okB : okR Zgg = true := by decide
theorem okSA : okS setA = true := by decide
theorem chA : chF (put1 ZjB) [first] = (⟨1, ⟨0, 0, 0⟩⟩, [first, setA]) := by
 have hap := Zwl ZNo okA
 rw [if_pos (by decide)] at hap
 have hap : Zbr first (put1 ZjB) = (setA, 0) := hap
 have hc : Z4h first (put1 ZjB) = (setA, ⟨0, 0, 0⟩) := by
  unfold Z4h
  rw [hap, if_neg (by simp), ZEf okSA (by
   intro r hr
   have hr : r ∈ [ZjB] := hr
   simp only [Zd0] at hr
   subst hr
   exact ZLL), if_neg (by simp)]
 unfold chF
 rw [show Z8q [first] = first from rfl, hc, if_neg (by simp)]
 rfl
theorem chB : chF (put1 Zgg) [first, setA] = (⟨0, ⟨20, 4, 0⟩⟩, [first, setA]) := by
 have hap := Zwl okSA okB
 rw [if_pos (by decide)] at hap
 have hb : ¬ Fine Zgg := by
  intro h
  have := congrArg (·.Code) badB
  change (patF Zgg.Pattern).Code = 20 at this
  rw [h] at this
  simp at this
 have hr : ZbY ⟨setA.Default, setA.Closed, setA.Fuel, setA.Stack, putL setA.Rules Zgg⟩ = ⟨20, 4, 0⟩ := by
  unfold ZbY
  rw [if_neg (by decide)]
  rw [← badB]
  refine ZsX (fun r hr => ?_) ?_ hb
  ·rcases ZCz hr with h | h
   ·exact .inl h
   ·have h : r ∈ [ZjB] := h
    simp only [Zd0] at h
    subst h
    exact .inr ZLL
  ·have : putL setA.Rules Zgg = [ZjB, Zgg] := rfl
   show Zgg ∈ putL setA.Rules Zgg
   rw [this]
   simp
 have hc : Z4h setA (put1 Zgg) = (zS, ⟨20, 4, 0⟩) := by
  unfold Z4h
  rw [hap, if_neg (by simp), hr, if_pos (by decide)]
 unfold chF
 rw [show Z8q [first, setA] = setA from rfl, hc, if_pos (by decide)]
theorem ZAP : Zad = some true := by
 have hf : ZbY first = ZbY first := rfl
 have a1 : addO entA [first] [] = (⟨1, ⟨0, 0, 0⟩⟩, 0, [first, setA], [(1, ⟨1, ⟨1, ⟨0, 0, 0⟩⟩⟩)]) := by
  unfold addO
  rw [if_neg (by decide), if_neg (by decide)]
  rw [show entA.Delta = put1 ZjB from rfl, chA]
  rfl
 have a2 : addO entA [first, setA] [(1, ⟨1, ⟨1, ⟨0, 0, 0⟩⟩⟩)] = (⟨0, ⟨31, 0, 0⟩⟩, 0, [first, setA], [(1, ⟨1, ⟨1, ⟨0, 0, 0⟩⟩⟩)]) := by
  unfold addO
  rw [if_neg (by decide), if_pos (by decide)]
 have a3 : addO entB [first, setA] [(1, ⟨1, ⟨1, ⟨0, 0, 0⟩⟩⟩)] = (⟨0, ⟨20, 4, 0⟩⟩, 0, [first, setA], [(1, ⟨2, ⟨0, ⟨20, 4, 0⟩⟩⟩)]) := by
  unfold addO
  rw [if_neg (by decide), if_neg (by decide)]
  rw [show entB.Delta = put1 Zgg from rfl, chB]
  rfl
 have p1 : Z6I 1 1 3 (ByteArray.mk #[97]) = some entA := Zh2 _ _ _ _ rfl
 have p2 : Z6I 1 2 4 (ByteArray.mk #[40]) = some entB := Zh2 _ _ _ _ rfl
 obtain ⟨c1, v1⟩ := ZtL entA [first] 0 [] (by simp) (by simp)
 rw [a1] at v1
 obtain ⟨c2, v2⟩ := ZtL entA [first, setA] c1 [(1, ⟨1, ⟨1, ⟨0, 0, 0⟩⟩⟩)] (by simp) (by simp)
 rw [a2] at v2
 obtain ⟨c3, v3⟩ := ZtL entB [first, setA] c2 [(1, ⟨1, ⟨1, ⟨0, 0, 0⟩⟩⟩)] (by simp) (by simp)
 rw [a3] at v3
 apply Zm7
 unfold Za8
 rw [ZEO, q0_, p1, q0_]
 dsimp only
 rw [v1, q0_, q0_]
 dsimp only
 rw [v2, q0_, p2, q0_]
 dsimp only
 rw [v3, q0_]
 dsimp only
 rw [if_pos (by rfl), if_pos (by rfl), if_pos (by rfl), if_pos (by rfl), if_pos (by rfl), if_pos (by rfl), ZeG _ (by simp) (by simp), q0_]
 rfl
end Go.Proofs.YteoeggbihfnbfaaGreatDoor.N2
end
