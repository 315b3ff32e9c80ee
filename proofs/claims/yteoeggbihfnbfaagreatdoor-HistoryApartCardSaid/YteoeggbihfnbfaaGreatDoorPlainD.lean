/- Histories as plain functions. No condition. -/
import Derived.Test.YteoeggbihfnbfaaGreatDoorPlainC

set_option linter.unusedSimpArgs false
set_option linter.unusedVariables false
set_option linter.defProp false
section
namespace Go.Proofs.YteoeggbihfnbfaaGreatDoor.N2
open Go Go.Abs Go.Proofs.Unis Go.Proofs.Norm
set_option maxRecDepth 100000
def okD (n : Int) : Bool := decide (1 ≤ n) && decide (n ≤ 1099511627776)
def okE (e : ZX) : Bool :=
 decide (0 ≤ e.View ∧ e.View ≤ 1099511627776 ∧ 1 ≤ e.Client ∧ e.Client ≤ 1099511627776 ∧ 1 ≤ e.Request ∧ e.Request ≤ 1099511627776 ∧ -1 ≤ e.Delta.Default ∧ e.Delta.Default ≤ 1099511627776 ∧ -1 ≤ e.Delta.Closed ∧ e.Delta.Closed ≤ 1099511627776 ∧
  -1 ≤ e.Delta.Fuel ∧ e.Delta.Fuel ≤ 1099511627776 ∧ -1 ≤ e.Delta.Stack ∧ e.Delta.Stack ≤ 1099511627776 ∧ (e.Delta.Put.length : Int) ≤ 16 ∧ (e.Delta.Drop.length : Int) ≤ 16) && e.Delta.Put.all okR && e.Delta.Drop.all okD
theorem ZvS (n k : Int) : Z5V n k = some (decide (k ≤ n ∧ n ≤ 1099511627776)) := by
 apply ZtO
 unfold Zgu
 by_cases h : k ≤ n
 ·rw [if_pos (Z2F h)]
  simp [h]
 ·rw [if_neg (Z2C h)]
  simp [h]
theorem ZHH (L : List ZA) (hl : L.length ≤ 1000000) : ∀ (d i : Nat), i + d = L.length → ∃ n, Z5b L (L.length : Int) (i : Int) = some n ∧ decide (0 ≤ n) = (L.drop i).any fun r => !okR r := by
 intro d
 induction d with
 | zero =>
  intro i h
  refine ⟨-1, ?_, by rw [q9_ (by omega)]; rfl⟩
  apply Z7O
  unfold Z4d
  rw [if_neg (Z2C (by omega))]
  rfl
 | succ d ih =>
  intro i h
  have hi : i < L.length := by omega
  rw [Zdp hi]
  obtain ⟨n, h1, h2⟩ := ih (i + 1) (by omega)
  have hv : Zas L[i] = some (!okR L[i]) := Zmj _ (by unfold Zan; rw [Z9Y]; rfl)
  cases hr : okR L[i] with
  | false =>
   refine ⟨i, ?_, by simp only [Zur, hr]; simp⟩
   apply Z7O
   unfold Z4d Z53
   rw [if_pos (Z2F (by omega)), Z3a, q2_ hi, q0_, hv, q0_, hr, if_pos (by rfl)]
  | true =>
   refine ⟨n, ?_, by simp only [Zur, hr, h2]; simp⟩
   apply Z7O
   unfold Z4d Z53 Z6s
   rw [if_pos (Z2F (by omega)), Z3a, q2_ hi, q0_, hv, q0_, hr, if_neg (by simp), wrap_i64 (by omega) (by omega)]
   exact h1
theorem ZDb (L : List Int) (hl : L.length ≤ 1000000) : ∀ (d i : Nat), i + d = L.length → ∃ n, Z5q L (L.length : Int) (i : Int) = some n ∧ decide (0 ≤ n) = (L.drop i).any fun r => !okD r := by
 intro d
 induction d with
 | zero =>
  intro i h
  refine ⟨-1, ?_, by rw [q9_ (by omega)]; rfl⟩
  apply Z84
  unfold Z4q
  rw [if_neg (Z2C (by omega))]
  rfl
 | succ d ih =>
  intro i h
  have hi : i < L.length := by omega
  rw [Zdp hi]
  obtain ⟨n, h1, h2⟩ := ih (i + 1) (by omega)
  have hv : Zat L[i] = some (!okD L[i]) := Zml _ (by unfold Zao okD; rw [ZvS]; simp)
  cases hr : okD L[i] with
  | false =>
   refine ⟨i, ?_, by simp only [Zur, hr]; simp⟩
   apply Z84
   unfold Z4q Z5o
   rw [if_pos (Z2F (by omega)), Z3a, q2_ hi, q0_, hv, q0_, hr, if_pos (by rfl)]
  | true =>
   refine ⟨n, ?_, by simp only [Zur, hr, h2]; simp⟩
   apply Z84
   unfold Z4q Z5o Z6O
   rw [if_pos (Z2F (by omega)), Z3a, q2_ hi, q0_, hv, q0_, hr, if_neg (by simp), wrap_i64 (by omega) (by omega)]
   exact h1
theorem ZiX (e : ZX) : Z9N e = some (okE e) := by
 have hp : e.Delta.Put.length ≤ 16 → Z6w e.Delta.Put = some (!e.Delta.Put.all okR) := by
  intro h
  obtain ⟨n, h1, h2⟩ := ZHH e.Delta.Put (by omega) e.Delta.Put.length 0 (by omega)
  have h3 : Z7D e.Delta.Put = some n := Zi8 _ (by unfold Z7y; exact h1)
  apply Zg4
  unfold Z6o
  rw [h3, q0_, h2]
  simp [List.all_eq_not_any_not]
 have hd : e.Delta.Drop.length ≤ 16 → Z6V e.Delta.Drop = some (!e.Delta.Drop.all okD) := by
  intro h
  obtain ⟨n, h1, h2⟩ := ZDb e.Delta.Drop (by omega) e.Delta.Drop.length 0 (by omega)
  have h3 : Z7X e.Delta.Drop = some n := ZiD _ (by unfold Z7V; exact h1)
  apply ZgS
  unfold Z6M
  rw [h3, q0_, h2]
  simp [List.all_eq_not_any_not]
 apply Zo9
 unfold ZbK okE
 simp only [ZvS, q0_]
 by_cases c1 : 0 ≤ e.View ∧ e.View ≤ 1099511627776
 case neg => rw [if_neg (by simpa using c1)]; simp; omega
 rw [if_pos (by simpa using c1)]
 by_cases c2 : 1 ≤ e.Client ∧ e.Client ≤ 1099511627776
 case neg => rw [if_neg (by simpa using c2)]; simp; omega
 rw [if_pos (by simpa using c2)]
 by_cases c3 : 1 ≤ e.Request ∧ e.Request ≤ 1099511627776
 case neg => rw [if_neg (by simpa using c3)]; simp; omega
 rw [if_pos (by simpa using c3)]
 by_cases c4 : -1 ≤ e.Delta.Default ∧ e.Delta.Default ≤ 1099511627776
 case neg => rw [if_neg (by simpa using c4)]; simp; omega
 rw [if_pos (by simpa using c4)]
 by_cases c5 : -1 ≤ e.Delta.Closed ∧ e.Delta.Closed ≤ 1099511627776
 case neg => rw [if_neg (by simpa using c5)]; simp; omega
 rw [if_pos (by simpa using c5)]
 by_cases c6 : -1 ≤ e.Delta.Fuel ∧ e.Delta.Fuel ≤ 1099511627776
 case neg => rw [if_neg (by simpa using c6)]; simp; omega
 rw [if_pos (by simpa using c6)]
 by_cases c7 : -1 ≤ e.Delta.Stack ∧ e.Delta.Stack ≤ 1099511627776
 case neg => rw [if_neg (by simpa using c7)]; simp; omega
 rw [if_pos (by simpa using c7)]
 by_cases c8 : (e.Delta.Put.length : Int) ≤ 16
 case neg => rw [if_neg (Z2C c8)]; simp; omega
 rw [if_pos (Z2F c8)]
 by_cases c9 : (e.Delta.Drop.length : Int) ≤ 16
 case neg => rw [if_neg (Z2C c9)]; simp; omega
 rw [if_pos (Z2F c9), hp (by omega), q0_, decide_eq_true (by omega), Zuo]
 cases e.Delta.Put.all okR with
 | false => rfl
 | true =>
  rw [if_pos (by rfl), hd (by omega), q0_]
  simp
theorem ZKY {e : ZX} (h : okE e = true) : e.Delta.Put.length ≤ 16 ∧ e.Delta.Drop.length ≤ 16 := by
 unfold okE at h
 simp only [q6_, decide_eq_true_eq] at h
 omega
theorem ZIW (l L : List ZX) (n k : Int) (R : List ZA) (hl : R.length ≤ 20) {r : Bool} (hr : Z50 l L n (IntKind.i64.wrap (k + 1)) = some r) : ∀ (m i : Nat), i + m = R.length →
  ∃ r', Z5T l L n k R (R.length : Int) (i : Int) = some r' := by
 intro m
 induction m with
 | zero =>
  intro i h
  refine ⟨r, ?_⟩
  apply Z92
  unfold Z4V Z7v
  rw [if_neg (Z2C (by omega))]
  exact hr
 | succ m ih =>
  intro i h
  have hi : i < R.length := by omega
  obtain ⟨r', e⟩ := ih (i + 1) (by omega)
  by_cases hc : 300 < (R[i].Pattern.size : Int)
  ·refine ⟨false, ?_⟩
   apply Z92
   unfold Z4V Z5R
   rw [if_pos (Z2F (by omega)), Z3a, q2_ hi, q0_, if_pos (Z2F hc)]
  ·refine ⟨r', ?_⟩
   apply Z92
   unfold Z4V Z5R Z7u
   rw [if_pos (Z2F (by omega)), Z3a, q2_ hi, q0_, if_neg (Z2C hc), wrap_i64 (by omega) (by omega)]
   exact e
theorem ZIV (l L : List ZX) (hl : L.length ≤ 9223372036854775807) : ∀ (m i : Nat), i + m = L.length → ∃ r, Z50 l L (L.length : Int) (i : Int) = some r := by
 intro m
 induction m with
 | zero =>
  intro i h
  refine ⟨decide ((l.length : Int) ≤ 70), ?_⟩
  apply Z6Q
  unfold Z4i Z7w
  rw [if_neg (Z2C (by omega))]
 | succ m ih =>
  intro i h
  have hi : i < L.length := by omega
  obtain ⟨r, e⟩ := ih (i + 1) (by omega)
  by_cases c1 : 20 < (L[i].Delta.Put.length : Int)
  ·refine ⟨false, ?_⟩
   apply Z6Q
   unfold Z4i Z4W Z4X
   rw [if_pos (Z2F (by omega)), Z3a, q2_ hi, q0_, if_pos (Z2F c1)]
  by_cases c2 : 20 < (L[i].Delta.Drop.length : Int)
  ·refine ⟨false, ?_⟩
   apply Z6Q
   unfold Z4i Z4W Z4X
   rw [if_pos (Z2F (by omega)), Z3a, q2_ hi, q0_, if_neg (Z2C c1), if_pos (Z2F c2)]
  obtain ⟨r', e'⟩ := ZIW l L L.length i L[i].Delta.Put (by omega) (r := r) (by rw [wrap_i64 (by omega) (by omega)]; exact e) L[i].Delta.Put.length 0 (by omega)
  refine ⟨r', ?_⟩
  apply Z6Q
  unfold Z4i Z4W Z7T
  rw [if_pos (Z2F (by omega)), Z3a, q2_ hi, q0_, if_neg (Z2C c1), if_neg (Z2C c2)]
  exact e'
theorem ZB9 (l : List ZX) (hl : l.length ≤ 9223372036854775807) : ∃ b, Z95 l = some b := by
 obtain ⟨r, e⟩ := ZIV l l hl l.length 0 (by omega)
 exact ⟨r, Zkt _ (by unfold Z94; exact e)⟩
abbrev Fit (sets : List ZE) : Prop := ∀ s ∈ sets, s.Rules.length ≤ 1000000
theorem ZCe (sets : List ZE) (h : sets ≠ []) (hl : sets.length ≤ 1000000) : Z6R sets = some ((sets.length : Int) - 1) := by
 apply ZgN
 unfold Z6K
 have : 0 < sets.length := List.length_pos_iff.2 h
 rw [wrap_i64 (by omega) (by omega)]
abbrev ML := List (Int × ZT)
noncomputable def Zla (sets : List ZE) : ZE := sets.getLastD zS
noncomputable def chF (d : Z1e) (sets : List ZE) : Z1c × List ZE :=
 if (Z8g (Zla sets) d).2.Code ≠ 0 then (⟨0, (Z8g (Zla sets) d).2⟩, sets) else (⟨sets.length, ⟨0, 0, 0⟩⟩, sets ++ [(Z8g (Zla sets) d).1])
theorem ZLx (d : Z1e) (sets : List ZE) (h : sets ≠ []) (hl : sets.length ≤ 1000000) (h1 : d.Put.length ≤ 1000000) (h2 : d.Drop.length ≤ 1000000) : Z7d d sets = some (chF d sets) := by
 have h0 : 0 < sets.length := List.length_pos_iff.2 h
 have hg : lget sets ((sets.length : Int) - 1) = some (Zla sets) := by
  unfold lget Zla
  rw [if_pos (by omega), show ((sets.length : Int) - 1).toNat = sets.length - 1 by omega, q2_ (by omega), List.getLastD_eq_getLast?, List.getLast?_eq_some_getLast h, Option.getD_some, List.getLast_eq_getElem]
 apply Zhy
 unfold Z77 chF
 rw [wrap_i64 (by omega) (by omega), hg, q0_, ZD4 _ _ h1 h2, q0_]
 by_cases hc : (Z8g (Zla sets) d).2.Code = 0
 ·rw [if_neg (ZeO hc), if_neg (by simp [hc])]
  unfold Z60
  rw [ZAo _ _ (by omega), q0_, wrap_i64 (by simp <;> omega) (by simp <;> omega)]
  simp
 ·rw [if_pos (ZeP hc), if_pos hc]
def oldF (e : ZX) (m : ML) : Bool := match getM m e.Client with | some l => decide (e.Request ≤ l.request) | none => false
noncomputable def addO (e : ZX) (sets : List ZE) (m : ML) : Z1c × Int × List ZE × ML :=
 if okE e = false then (⟨0, ⟨0, 0, 0⟩⟩, 10, sets, m)
 else if oldF e m = true then (⟨0, ⟨31, 0, 0⟩⟩, 0, sets, m)
 else ((chF e.Delta sets).1, 0, (chF e.Delta sets).2, putM m e.Client ⟨e.Request, (chF e.Delta sets).1⟩)
theorem ZnD (e : ZX) (sets : List ZE) (c : Int) (m : ML) (h : sets ≠ []) (hl : sets.length ≤ 1000000) :
  ∃ c', Z3A e sets c m = some ((addO e sets m).1, (addO e sets m).2.1, (addO e sets m).2.2.1, c', (addO e sets m).2.2.2) := by
 unfold addO
 cases hk : okE e with
 | false =>
  refine ⟨c, ?_⟩
  apply ZcH
  unfold Z6j
  rw [ZiX, q0_, hk]
  rfl
 | true =>
  obtain ⟨l1, l2⟩ := ZKY hk
  have r7 : ∀ c, Z4B sets c m e = some ((chF e.Delta sets).1, 0, (chF e.Delta sets).2, c, putM m e.Client ⟨e.Request, (chF e.Delta sets).1⟩) := by
   intro c
   unfold Z4B
   rw [ZLx e.Delta sets h hl (by omega) (by omega), q0_]
  have fin : ∀ {x}, Z4A sets c m e = some x → Z3A e sets c m = some x := by
   intro x hx
   apply ZcH
   unfold Z6j
   rw [ZiX, q0_, hk, if_neg (by simp)]
   exact hx
  refine ⟨IntKind.i64.wrap (c + 1), fin ?_⟩
  cases ho : oldF e m with
  | true =>
   rw [if_neg (by simp), if_pos rfl]
   unfold oldF at ho
   cases hg : getM m e.Client with
   | none => rw [hg] at ho; simp at ho
   | some l =>
    rw [hg] at ho
    unfold Z4A
    rw [hg, if_pos (by rfl), Option.getD_some, if_pos ho]
    rfl
  | false =>
   rw [if_neg (by simp), if_neg (by simp), ← r7]
   unfold oldF at ho
   unfold Z4A
   cases hg : getM m e.Client with
   | none => rw [if_neg (by simp)]
   | some l =>
    rw [hg] at ho
    rw [if_pos (by rfl), Option.getD_some, if_neg (by simpa using ho)]
theorem ZyV (e : ZX) (sets : List ZE) (m : ML) : (addO e sets m).2.2.1 = sets ∨ ∃ s, (addO e sets m).2.2.1 = sets ++ [s] ∧ s.Rules.length ≤ 16 ∧ (Zbe s).Code = 0 := by
 unfold addO
 split
 ·exact .inl rfl
 split
 ·exact .inl rfl
 unfold chF
 split
 ·exact .inl rfl
 ·rename_i hc
  have hc : (Z8g (Zla sets) e.Delta).2.Code = 0 := by simpa using hc
  exact .inr ⟨_, rfl, Zy9 (ZD3 hc), Zz2 hc⟩
theorem ZLw {e : ZX} {sets : List ZE} {m : ML} (h : sets ≠ []) : (addO e sets m).2.2.1 ≠ [] := by
 rcases ZyV e sets m with h1 | ⟨s, h1, _⟩ <;> rw [h1]
 ·exact h
 ·simp
theorem ZJp (e : ZX) (sets : List ZE) (m : ML) : sets.length ≤ (addO e sets m).2.2.1.length ∧ (addO e sets m).2.2.1.length ≤ sets.length + 1 := by
 rcases ZyV e sets m with h1 | ⟨s, h1, _⟩ <;> rw [h1] <;> simp
abbrev first : ZE := ⟨0, 255, 10000, 500, []⟩
theorem ZCH : Zdv = some ([], [first], 0) := by
 apply ZtN
 unfold Zgt
 rw [show ZhZ = some first from Zvz rfl, q0_]
abbrev Zit : ZA := ⟨3, 0, 0, 1, ByteArray.mk #[97]⟩
abbrev Zfd : ZA := ⟨4, 0, 0, 1, ByteArray.mk #[40]⟩
abbrev setA : ZE := ⟨0, 255, 10000, 500, [Zit]⟩
abbrev entA : ZX := ⟨0, 1, 1, ⟨-1, -1, -1, -1, [Zit], []⟩⟩
abbrev entB : ZX := ⟨0, 1, 2, ⟨-1, -1, -1, -1, [Zfd], []⟩⟩
theorem ZJi : Fine Zit := by
 have e1 : (Z8R (ByteArray.mk #[97])) = (⟨setN [(97, 97)], 0, false⟩, ⟨0, 0⟩) := by rfl
 have : Z6e (ByteArray.mk #[97]) = some ⟨0, 0, 0⟩ := by
  apply Zax
  unfold Z7r Z8M
  rw [ZmS, q0_, e1, if_neg (ZeO rfl), Zyh (Shp.set [(97, 97)]), q0_]
  rfl
 show (patF (ByteArray.mk #[97])).Code = 0
 unfold patF
 rw [this]
 rfl
theorem badB : badF Zfd = ⟨20, 4, 0⟩ := by
 have e2 : (Z8R (ByteArray.mk #[40])).2 = ⟨20, 0⟩ := by rfl
 unfold badF
 show (⟨(patF (ByteArray.mk #[40])).Code, 4, (patF (ByteArray.mk #[40])).At⟩ : ZR) = _
 rw [ZLb (by rw [e2]; decide), e2]
theorem ZKZ : okS first = true := by decide
theorem okA : okR Zit = true := by decide
theorem okB : okR Zfd = true := by decide
theorem okSA : okS setA = true := by decide
theorem chA : chF (put1 Zit) [first] = (⟨1, ⟨0, 0, 0⟩⟩, [first, setA]) := by
 have hap := ZuF ZKZ okA
 rw [if_pos (by decide)] at hap
 have hap : ZaJ first (put1 Zit) = (setA, 0) := hap
 have hc : Z8g first (put1 Zit) = (setA, ⟨0, 0, 0⟩) := by
  unfold Z8g
  rw [hap, if_neg (by simp), ZC9 okSA (by
   intro r hr
   have hr : r ∈ [Zit] := hr
   simp only [ZdN] at hr
   subst hr
   exact ZJi), if_neg (by simp)]
 unfold chF
 rw [show Zla [first] = first from rfl, hc, if_neg (by simp)]
 rfl
theorem chB : chF (put1 Zfd) [first, setA] = (⟨0, ⟨20, 4, 0⟩⟩, [first, setA]) := by
 have hap := ZuF okSA okB
 rw [if_pos (by decide)] at hap
 have hb : ¬ Fine Zfd := by
  intro h
  have := congrArg (·.Code) badB
  change (patF Zfd.Pattern).Code = 20 at this
  rw [h] at this
  simp at this
 have hr : Zbe ⟨setA.Default, setA.Closed, setA.Fuel, setA.Stack, putL setA.Rules Zfd⟩ = ⟨20, 4, 0⟩ := by
  unfold Zbe
  rw [if_neg (by decide)]
  rw [← badB]
  refine Zrk (fun r hr => ?_) ?_ hb
  ·rcases ZAr hr with h | h
   ·exact .inl h
   ·have h : r ∈ [Zit] := h
    simp only [ZdN] at h
    subst h
    exact .inr ZJi
  ·have : putL setA.Rules Zfd = [Zit, Zfd] := rfl
   show Zfd ∈ putL setA.Rules Zfd
   rw [this]
   simp
 have hc : Z8g setA (put1 Zfd) = (zS, ⟨20, 4, 0⟩) := by
  unfold Z8g
  rw [hap, if_neg (by simp), hr, if_pos (by decide)]
 unfold chF
 rw [show Zla [first, setA] = setA from rfl, hc, if_pos (by decide)]
theorem ZyY : Z9C = some true := by
 have hf : Zbe first = Zbe first := rfl
 have a1 : addO entA [first] [] = (⟨1, ⟨0, 0, 0⟩⟩, 0, [first, setA], [(1, ⟨1, ⟨1, ⟨0, 0, 0⟩⟩⟩)]) := by
  unfold addO
  rw [if_neg (by decide), if_neg (by decide)]
  rw [show entA.Delta = put1 Zit from rfl, chA]
  rfl
 have a2 : addO entA [first, setA] [(1, ⟨1, ⟨1, ⟨0, 0, 0⟩⟩⟩)] = (⟨0, ⟨31, 0, 0⟩⟩, 0, [first, setA], [(1, ⟨1, ⟨1, ⟨0, 0, 0⟩⟩⟩)]) := by
  unfold addO
  rw [if_neg (by decide), if_pos (by decide)]
 have a3 : addO entB [first, setA] [(1, ⟨1, ⟨1, ⟨0, 0, 0⟩⟩⟩)] = (⟨0, ⟨20, 4, 0⟩⟩, 0, [first, setA], [(1, ⟨2, ⟨0, ⟨20, 4, 0⟩⟩⟩)]) := by
  unfold addO
  rw [if_neg (by decide), if_neg (by decide)]
  rw [show entB.Delta = put1 Zfd from rfl, chB]
  rfl
 have p1 : Z6g 1 1 3 (ByteArray.mk #[97]) = some entA := ZfU _ _ _ _ rfl
 have p2 : Z6g 1 2 4 (ByteArray.mk #[40]) = some entB := ZfU _ _ _ _ rfl
 obtain ⟨c1, v1⟩ := ZnD entA [first] 0 [] (by simp) (by simp)
 rw [a1] at v1
 obtain ⟨c2, v2⟩ := ZnD entA [first, setA] c1 [(1, ⟨1, ⟨1, ⟨0, 0, 0⟩⟩⟩)] (by simp) (by simp)
 rw [a2] at v2
 obtain ⟨c3, v3⟩ := ZnD entB [first, setA] c2 [(1, ⟨1, ⟨1, ⟨0, 0, 0⟩⟩⟩)] (by simp) (by simp)
 rw [a3] at v3
 apply ZkT
 unfold Z9w
 rw [ZCH, q0_, p1, q0_]
 dsimp only
 rw [v1, q0_, q0_]
 dsimp only
 rw [v2, q0_, p2, q0_]
 dsimp only
 rw [v3, q0_]
 dsimp only
 rw [if_pos (by rfl), if_pos (by rfl), if_pos (by rfl), if_pos (by rfl), if_pos (by rfl), if_pos (by rfl), ZCe _ (by simp) (by simp), q0_]
 rfl
end Go.Proofs.YteoeggbihfnbfaaGreatDoor.N2
end
