/- Histories as plain functions. No condition. -/
import Derived.Test.YteoeggbihfnbfaaGreatDoorPlainC

set_option linter.unusedSimpArgs false
set_option linter.unusedVariables false
set_option linter.defProp false
section
namespace Go.Proofs.YteoeggbihfnbfaaGreatDoor.N2
open Go Go.Abs Go.Proofs.Unis Go.Proofs.Norm
set_option maxRecDepth 100000
def okD (n : Int) : Bool := decide (1 ≤ n) && decide (n ≤ 1099511627776)
def okE (e : Z10) : Bool :=
 decide (0 ≤ e.View ∧ e.View ≤ 1099511627776 ∧ 1 ≤ e.Client ∧ e.Client ≤ 1099511627776 ∧ 1 ≤ e.Request ∧ e.Request ≤ 1099511627776 ∧ -1 ≤ e.Delta.Default ∧ e.Delta.Default ≤ 1099511627776 ∧ -1 ≤ e.Delta.Closed ∧ e.Delta.Closed ≤ 1099511627776 ∧
  -1 ≤ e.Delta.Fuel ∧ e.Delta.Fuel ≤ 1099511627776 ∧ -1 ≤ e.Delta.Stack ∧ e.Delta.Stack ≤ 1099511627776 ∧ (e.Delta.Put.length : Int) ≤ 16 ∧ (e.Delta.Drop.length : Int) ≤ 16) && e.Delta.Put.all okR && e.Delta.Drop.all okD
theorem Zxk (n k : Int) : Z6e n k = some (decide (k ≤ n ∧ n ≤ 1099511627776)) := by
 apply Zvd
 unfold Zhi
 by_cases h : k ≤ n
 ·rw [if_pos (Z2x h)]
  simp [h]
 ·rw [if_neg (Z2u h)]
  simp [h]
theorem ZJI (L : List ZA) (hl : L.length ≤ 1000000) : ∀ (d i : Nat), i + d = L.length → ∃ n, Z5t L (L.length : Int) (i : Int) = some n ∧ decide (0 ≤ n) = (L.drop i).any fun r => !okR r := by
 intro d
 induction d with
 | zero =>
  intro i h
  refine ⟨-1, ?_, by rw [q9_ (by omega)]; rfl⟩
  apply Z87
  unfold Z4t
  rw [if_neg (Z2u (by omega))]
  rfl
 | succ d ih =>
  intro i h
  have hi : i < L.length := by omega
  rw [Zb6 hi]
  obtain ⟨n, h1, h2⟩ := ih (i + 1) (by omega)
  have hv : ZaY L[i] = some (!okR L[i]) := Znp _ (by unfold ZaT; rw [Zax]; rfl)
  cases hr : okR L[i] with
  | false =>
   refine ⟨i, ?_, by simp only [ZvS, hr]; simp⟩
   apply Z87
   unfold Z4t Z5l
   rw [if_pos (Z2x (by omega)), Z2N, q2_ hi, q0_, hv, q0_, hr, if_pos (by rfl)]
  | true =>
   refine ⟨n, ?_, by simp only [ZvS, hr, h2]; simp⟩
   apply Z87
   unfold Z4t Z5l Z6M
   rw [if_pos (Z2x (by omega)), Z2N, q2_ hi, q0_, hv, q0_, hr, if_neg (by simp), wrap_i64 (by omega) (by omega)]
   exact h1
theorem ZEX (L : List Int) (hl : L.length ≤ 1000000) : ∀ (d i : Nat), i + d = L.length → ∃ n, Z5I L (L.length : Int) (i : Int) = some n ∧ decide (0 ≤ n) = (L.drop i).any fun r => !okD r := by
 intro d
 induction d with
 | zero =>
  intro i h
  refine ⟨-1, ?_, by rw [q9_ (by omega)]; rfl⟩
  apply Z8o
  unfold Z4F
  rw [if_neg (Z2u (by omega))]
  rfl
 | succ d ih =>
  intro i h
  have hi : i < L.length := by omega
  rw [Zb6 hi]
  obtain ⟨n, h1, h2⟩ := ih (i + 1) (by omega)
  have hv : ZaZ L[i] = some (!okD L[i]) := Znr _ (by unfold ZaU okD; rw [Zxk]; simp)
  cases hr : okD L[i] with
  | false =>
   refine ⟨i, ?_, by simp only [ZvS, hr]; simp⟩
   apply Z8o
   unfold Z4F Z5G
   rw [if_pos (Z2x (by omega)), Z2N, q2_ hi, q0_, hv, q0_, hr, if_pos (by rfl)]
  | true =>
   refine ⟨n, ?_, by simp only [ZvS, hr, h2]; simp⟩
   apply Z8o
   unfold Z4F Z5G Z78
   rw [if_pos (Z2x (by omega)), Z2N, q2_ hi, q0_, hv, q0_, hr, if_neg (by simp), wrap_i64 (by omega) (by omega)]
   exact h1
theorem ZoN (e : Z10) : Zcx e = some (okE e) := by
 have hp : e.Delta.Put.length ≤ 16 → Z6R e.Delta.Put = some (!e.Delta.Put.all okR) := by
  intro h
  obtain ⟨n, h1, h2⟩ := ZJI e.Delta.Put (by omega) e.Delta.Put.length 0 (by omega)
  have h3 : Z7Y e.Delta.Put = some n := Zj7 _ (by unfold Z7T; exact h1)
  apply ZgR
  unfold Z6I
  rw [h3, q0_, h2]
  simp [List.all_eq_not_any_not]
 have hd : e.Delta.Drop.length ≤ 16 → Z7e e.Delta.Drop = some (!e.Delta.Drop.all okD) := by
  intro h
  obtain ⟨n, h1, h2⟩ := ZEX e.Delta.Drop (by omega) e.Delta.Drop.length 0 (by omega)
  have h3 : Z8g e.Delta.Drop = some n := Zjz _ (by unfold Z8e; exact h1)
  apply ZhK
  unfold Z76
  rw [h3, q0_, h2]
  simp [List.all_eq_not_any_not]
 apply Zpi
 unfold Zck okE
 simp only [Zxk, q0_]
 by_cases c1 : 0 ≤ e.View ∧ e.View ≤ 1099511627776
 case neg => rw [if_neg (by simpa using c1)]; simp; omega
 rw [if_pos (by simpa using c1)]
 by_cases c2 : 1 ≤ e.Client ∧ e.Client ≤ 1099511627776
 case neg => rw [if_neg (by simpa using c2)]; simp; omega
 rw [if_pos (by simpa using c2)]
 by_cases c3 : 1 ≤ e.Request ∧ e.Request ≤ 1099511627776
 case neg => rw [if_neg (by simpa using c3)]; simp; omega
 rw [if_pos (by simpa using c3)]
 by_cases c4 : -1 ≤ e.Delta.Default ∧ e.Delta.Default ≤ 1099511627776
 case neg => rw [if_neg (by simpa using c4)]; simp; omega
 rw [if_pos (by simpa using c4)]
 by_cases c5 : -1 ≤ e.Delta.Closed ∧ e.Delta.Closed ≤ 1099511627776
 case neg => rw [if_neg (by simpa using c5)]; simp; omega
 rw [if_pos (by simpa using c5)]
 by_cases c6 : -1 ≤ e.Delta.Fuel ∧ e.Delta.Fuel ≤ 1099511627776
 case neg => rw [if_neg (by simpa using c6)]; simp; omega
 rw [if_pos (by simpa using c6)]
 by_cases c7 : -1 ≤ e.Delta.Stack ∧ e.Delta.Stack ≤ 1099511627776
 case neg => rw [if_neg (by simpa using c7)]; simp; omega
 rw [if_pos (by simpa using c7)]
 by_cases c8 : (e.Delta.Put.length : Int) ≤ 16
 case neg => rw [if_neg (Z2u c8)]; simp; omega
 rw [if_pos (Z2x c8)]
 by_cases c9 : (e.Delta.Drop.length : Int) ≤ 16
 case neg => rw [if_neg (Z2u c9)]; simp; omega
 rw [if_pos (Z2x c9), hp (by omega), q0_, decide_eq_true (by omega), ZvP]
 cases e.Delta.Put.all okR with
 | false => rfl
 | true =>
  rw [if_pos (by rfl), hd (by omega), q0_]
  simp
theorem ZN0 {e : Z10} (h : okE e = true) : e.Delta.Put.length ≤ 16 ∧ e.Delta.Drop.length ≤ 16 := by
 unfold okE at h
 simp only [q6_, decide_eq_true_eq] at h
 omega
theorem ZKW (l L : List Z10) (n k : Int) (R : List ZA) (hl : R.length ≤ 20) {r : Bool} (hr : Z5i l L n (IntKind.i64.wrap (k + 1)) = some r) : ∀ (m i : Nat), i + m = R.length →
  ∃ r', Z6d l L n k R (R.length : Int) (i : Int) = some r' := by
 intro m
 induction m with
 | zero =>
  intro i h
  refine ⟨r, ?_⟩
  apply Z9t
  unfold Z5e Z7Q
  rw [if_neg (Z2u (by omega))]
  exact hr
 | succ m ih =>
  intro i h
  have hi : i < R.length := by omega
  obtain ⟨r', e⟩ := ih (i + 1) (by omega)
  by_cases hc : 300 < (R[i].Pattern.size : Int)
  ·refine ⟨false, ?_⟩
   apply Z9t
   unfold Z5e Z6c
   rw [if_pos (Z2x (by omega)), Z2N, q2_ hi, q0_, if_pos (Z2x hc)]
  ·refine ⟨r', ?_⟩
   apply Z9t
   unfold Z5e Z6c Z7P
   rw [if_pos (Z2x (by omega)), Z2N, q2_ hi, q0_, if_neg (Z2u hc), wrap_i64 (by omega) (by omega)]
   exact e
theorem ZKV (l L : List Z10) (hl : L.length ≤ 9223372036854775807) : ∀ (m i : Nat), i + m = L.length → ∃ r, Z5i l L (L.length : Int) (i : Int) = some r := by
 intro m
 induction m with
 | zero =>
  intro i h
  refine ⟨decide ((l.length : Int) ≤ 70), ?_⟩
  apply Z7a
  unfold Z4x Z7R
  rw [if_neg (Z2u (by omega))]
 | succ m ih =>
  intro i h
  have hi : i < L.length := by omega
  obtain ⟨r, e⟩ := ih (i + 1) (by omega)
  by_cases c1 : 20 < (L[i].Delta.Put.length : Int)
  ·refine ⟨false, ?_⟩
   apply Z7a
   unfold Z4x Z5f Z5g
   rw [if_pos (Z2x (by omega)), Z2N, q2_ hi, q0_, if_pos (Z2x c1)]
  by_cases c2 : 20 < (L[i].Delta.Drop.length : Int)
  ·refine ⟨false, ?_⟩
   apply Z7a
   unfold Z4x Z5f Z5g
   rw [if_pos (Z2x (by omega)), Z2N, q2_ hi, q0_, if_neg (Z2u c1), if_pos (Z2x c2)]
  obtain ⟨r', e'⟩ := ZKW l L L.length i L[i].Delta.Put (by omega) (r := r) (by rw [wrap_i64 (by omega) (by omega)]; exact e) L[i].Delta.Put.length 0 (by omega)
  refine ⟨r', ?_⟩
  apply Z7a
  unfold Z4x Z5f Z8c
  rw [if_pos (Z2x (by omega)), Z2N, q2_ hi, q0_, if_neg (Z2u c1), if_neg (Z2u c2)]
  exact e'
theorem ZCV (l : List Z10) (hl : l.length ≤ 9223372036854775807) : ∃ b, Z9w l = some b := by
 obtain ⟨r, e⟩ := ZKV l l hl l.length 0 (by omega)
 exact ⟨r, Zlu _ (by unfold Z9v; exact e)⟩
theorem ZHs (l : List ZA) (h : l.length ≤ 1048576) : Zes l = some l := by
 apply Z1f (fun _ _ ha hb => RRun.uniq ZoJ (ha .sh) (hb .sh))
 intro o
 have e : EE 62 [(.p (.lst o (l.map ZG)))] [] = some ((.p (.lst .sh (l.map ZG))), []) := by
  rw [show EE 62 = E PP XX HH 62 from rfl, Zw0 (P := PP) (X := XX) (H := HH) (f := 62) (m := Ztp) (by kernel_rfl)]
  have : Ztp [(.p (.lst o (l.map ZG)))] [] = if (l.map ZG).length ≤ 1048576 ∧ ((l.map ZG).all fun e => (Z2q e).length == 5 && (Z2q e).all Zr6) = true then some (.p (.lst .sh (l.map ZG)), []) else none := rfl
  rw [this, if_pos]
  refine ⟨by simpa using h, ?_⟩
  rw [Zam]
  intro x hx
  obtain ⟨r, _, rfl⟩ := Z7p.1 hx
  rfl
 exact ⟨_, e, [], rfl⟩
def setF (v : Int) (sets : List ZE) : ZE × Bool := if v < 0 then (zS, false) else match sets[v.toNat]? with | some s => (s, true) | none => (zS, false)
abbrev Fit (sets : List ZE) : Prop := ∀ s ∈ sets, s.Rules.length ≤ 1000000
theorem ZKS (v : Int) (sets : List ZE) (hf : Fit sets) : Z6P v sets = some (setF v sets) := by
 apply ZjZ
 unfold Z8N Z5R setF
 by_cases h : v < 0
 ·rw [if_pos (Z2x h), if_pos h]
  rfl
 rw [if_neg (Z2u h), if_neg h]
 by_cases h2 : (sets.length : Int) ≤ v
 ·rw [if_pos (Z2x h2), Zgx (by omega)]
  rfl
 rw [if_neg (Z2u h2)]
 have hlt : v.toNat < sets.length := by omega
 have hg : lget sets v = some sets[v.toNat] := by
  unfold lget
  rw [if_pos (by omega), q2_ hlt]
 unfold Z7s
 rw [hg, q0_, ZHs _ (Zfh (hf _ (Zrn hlt)) (by omega)), q0_, q2_ hlt]
theorem ZuT (sets : List ZE) (h : sets ≠ []) (hl : sets.length ≤ 1000000) : Z3E sets = some ((sets.length : Int) - 1) := by
 apply ZhF
 unfold Z74
 have : 0 < sets.length := List.length_pos_iff.2 h
 rw [wrap_i64 (by omega) (by omega)]
theorem ZKT (sets : List ZE) (h : sets ≠ []) : setF ((sets.length : Int) - 1) sets = (sets.getLast h, true) := by
 have h0 : 0 < sets.length := List.length_pos_iff.2 h
 unfold setF
 rw [if_neg (by omega)]
 have : ((sets.length : Int) - 1).toNat = sets.length - 1 := by omega
 rw [this, List.getLast_eq_getElem, q2_ (by omega)]
abbrev ML := List (Int × Z14)
noncomputable def Zmd (sets : List ZE) : ZE := sets.getLastD zS
noncomputable def chF (d : Z1i) (sets : List ZE) : Z1m × List ZE :=
 if (Z8B (Zmd sets) d).2.Code ≠ 0 then (⟨0, (Z8B (Zmd sets) d).2⟩, sets) else (⟨sets.length, ⟨0, 0, 0⟩⟩, sets ++ [(Z8B (Zmd sets) d).1])
theorem ZNA (d : Z1i) (sets : List ZE) (h : sets ≠ []) (hl : sets.length ≤ 1000000) (h1 : d.Put.length ≤ 1000000) (h2 : d.Drop.length ≤ 1000000) : Z7z d sets = some (chF d sets) := by
 have h0 : 0 < sets.length := List.length_pos_iff.2 h
 have hg : lget sets ((sets.length : Int) - 1) = some (Zmd sets) := by
  unfold lget Zmd
  rw [if_pos (by omega), show ((sets.length : Int) - 1).toNat = sets.length - 1 by omega, q2_ (by omega), List.getLastD_eq_getLast?, List.getLast?_eq_some_getLast h, Ztb, List.getLast_eq_getElem]
 apply Ziu
 unfold Z7t chF
 rw [wrap_i64 (by omega) (by omega), hg, q0_, ZEQ _ _ h1 h2, q0_]
 by_cases hc : (Z8B (Zmd sets) d).2.Code = 0
 ·rw [if_neg (Zi2 hc), if_neg (by simp [hc])]
  unfold Z6j
  rw [ZvB _ _ (by omega), q0_, wrap_i64 (by simp <;> omega) (by simp <;> omega)]
  simp
 ·rw [if_pos (Zi3 hc), if_pos hc]
def oldF (e : Z10) (m : ML) : Bool := match getM m e.Client with | some l => decide (e.Request ≤ l.request) | none => false
noncomputable def addO (e : Z10) (sets : List ZE) (m : ML) : Z1m × Int × List ZE × ML :=
 if okE e = false then (⟨0, ⟨0, 0, 0⟩⟩, 10, sets, m)
 else if oldF e m = true then (⟨0, ⟨31, 0, 0⟩⟩, 0, sets, m)
 else ((chF e.Delta sets).1, 0, (chF e.Delta sets).2, putM m e.Client ⟨e.Request, (chF e.Delta sets).1⟩)
theorem Zmk (e : Z10) (sets : List ZE) (c : Int) (m : ML) (h : sets ≠ []) (hl : sets.length ≤ 1000000) :
  ∃ c', Z3v e sets c m = some ((addO e sets m).1, (addO e sets m).2.1, (addO e sets m).2.2.1, c', (addO e sets m).2.2.2) := by
 unfold addO
 cases hk : okE e with
 | false =>
  refine ⟨c, ?_⟩
  apply Zdk
  unfold Z6D
  rw [ZoN, q0_, hk]
  rfl
 | true =>
  obtain ⟨l1, l2⟩ := ZN0 hk
  have r7 : ∀ c, Z4P sets c m e = some ((chF e.Delta sets).1, 0, (chF e.Delta sets).2, c, putM m e.Client ⟨e.Request, (chF e.Delta sets).1⟩) := by
   intro c
   unfold Z4P
   rw [ZNA e.Delta sets h hl (by omega) (by omega), q0_]
  have fin : ∀ {x}, Z4O sets c m e = some x → Z3v e sets c m = some x := by
   intro x hx
   apply Zdk
   unfold Z6D
   rw [ZoN, q0_, hk, if_neg (by simp)]
   exact hx
  refine ⟨IntKind.i64.wrap (c + 1), fin ?_⟩
  cases ho : oldF e m with
  | true =>
   rw [if_neg (by simp), if_pos rfl]
   unfold oldF at ho
   cases hg : getM m e.Client with
   | none => rw [hg] at ho; simp at ho
   | some l =>
    rw [hg] at ho
    unfold Z4O
    rw [hg, if_pos (by rfl), Ztb, if_pos ho]
    rfl
  | false =>
   rw [if_neg (by simp), if_neg (by simp), ← r7]
   unfold oldF at ho
   unfold Z4O
   cases hg : getM m e.Client with
   | none => rw [if_neg (by simp)]
   | some l =>
    rw [hg] at ho
    rw [if_pos (by rfl), Ztb, if_neg (by simpa using ho)]
theorem ZuV (e : Z10) (sets : List ZE) (m : ML) : (addO e sets m).2.2.1 = sets ∨ ∃ s, (addO e sets m).2.2.1 = sets ++ [s] ∧ s.Rules.length ≤ 16 ∧ (ZbM s).Code = 0 := by
 unfold addO
 split
 ·exact .inl rfl
 split
 ·exact .inl rfl
 unfold chF
 split
 ·exact .inl rfl
 ·rename_i hc
  have hc : (Z8B (Zmd sets) e.Delta).2.Code = 0 := by simpa using hc
  exact .inr ⟨_, rfl, ZzH (ZEP hc), ZAz hc⟩
theorem ZLs {e : Z10} {sets : List ZE} {m : ML} (hf : Fit sets) : Fit (addO e sets m).2.2.1 := by
 rcases ZuV e sets m with h | ⟨s, h, hs, _⟩
 ·rw [h]; exact hf
 ·rw [h]
  intro x hx
  rcases ZhW.1 hx with hx | hx
  ·exact hf x hx
  ·simp only [Zdu] at hx
   subst hx
   omega
theorem ZNz {e : Z10} {sets : List ZE} {m : ML} (h : sets ≠ []) : (addO e sets m).2.2.1 ≠ [] := by
 rcases ZuV e sets m with h1 | ⟨s, h1, _⟩ <;> rw [h1]
 ·exact h
 ·simp
theorem ZLt (e : Z10) (sets : List ZE) (m : ML) : sets.length ≤ (addO e sets m).2.2.1.length ∧ (addO e sets m).2.2.1.length ≤ sets.length + 1 := by
 rcases ZuV e sets m with h1 | ⟨s, h1, _⟩ <;> rw [h1] <;> simp
abbrev first : ZE := ⟨0, 255, 10000, 500, []⟩
theorem ZEu : Zc8 = some ([], [first], 0) := by
 apply Zvc
 unfold Zhh
 rw [show ZiY = some first from Zx1 rfl, q0_]
abbrev Zjp : ZA := ⟨3, 0, 0, 1, ByteArray.mk #[97]⟩
abbrev ZfW : ZA := ⟨4, 0, 0, 1, ByteArray.mk #[40]⟩
abbrev setA : ZE := ⟨0, 255, 10000, 500, [Zjp]⟩
abbrev entA : Z10 := ⟨0, 1, 1, ⟨-1, -1, -1, -1, [Zjp], []⟩⟩
abbrev entB : Z10 := ⟨0, 1, 2, ⟨-1, -1, -1, -1, [ZfW], []⟩⟩
theorem ZLl : Fine Zjp := by
 have e1 : (Z9h (ByteArray.mk #[97])) = (⟨setN [(97, 97)], 0, false⟩, ⟨0, 0⟩) := by rfl
 have : Z6x (ByteArray.mk #[97]) = some ⟨0, 0, 0⟩ := by
  apply Zb3
  unfold Z7N Z9c
  rw [ZnX, q0_, e1, if_neg (Zi2 rfl), ZzQ (Shp.set [(97, 97)]), q0_]
  rfl
 show (patF (ByteArray.mk #[97])).Code = 0
 unfold patF
 rw [this]
 rfl
theorem badB : badF ZfW = ⟨20, 4, 0⟩ := by
 have e2 : (Z9h (ByteArray.mk #[40])).2 = ⟨20, 0⟩ := by rfl
 unfold badF
 show (⟨(patF (ByteArray.mk #[40])).Code, 4, (patF (ByteArray.mk #[40])).At⟩ : ZY) = _
 rw [ZNe (by rw [e2]; decide), e2]
theorem ZN1 : okS first = true := by decide
theorem okA : okR Zjp = true := by decide
theorem okB : okR ZfW = true := by decide
theorem okSA : okS setA = true := by decide
theorem chA : chF (put1 Zjp) [first] = (⟨1, ⟨0, 0, 0⟩⟩, [first, setA]) := by
 have hap := Zw6 ZN1 okA
 rw [if_pos (by decide)] at hap
 have hap : Zbg first (put1 Zjp) = (setA, 0) := hap
 have hc : Z8B first (put1 Zjp) = (setA, ⟨0, 0, 0⟩) := by
  unfold Z8B
  rw [hap, if_neg (by simp), ZDV okSA (by
   intro r hr
   have hr : r ∈ [Zjp] := hr
   simp only [Zdu] at hr
   subst hr
   exact ZLl), if_neg (by simp)]
 unfold chF
 rw [show Zmd [first] = first from rfl, hc, if_neg (by simp)]
 rfl
theorem chB : chF (put1 ZfW) [first, setA] = (⟨0, ⟨20, 4, 0⟩⟩, [first, setA]) := by
 have hap := Zw6 okSA okB
 rw [if_pos (by decide)] at hap
 have hb : ¬ Fine ZfW := by
  intro h
  have := congrArg (·.Code) badB
  change (patF ZfW.Pattern).Code = 20 at this
  rw [h] at this
  simp at this
 have hr : ZbM ⟨setA.Default, setA.Closed, setA.Fuel, setA.Stack, putL setA.Rules ZfW⟩ = ⟨20, 4, 0⟩ := by
  unfold ZbM
  rw [if_neg (by decide)]
  rw [← badB]
  refine ZsE (fun r hr => ?_) ?_ hb
  ·rcases ZCe hr with h | h
   ·exact .inl h
   ·have h : r ∈ [Zjp] := h
    simp only [Zdu] at h
    subst h
    exact .inr ZLl
  ·have : putL setA.Rules ZfW = [Zjp, ZfW] := rfl
   show ZfW ∈ putL setA.Rules ZfW
   rw [this]
   simp
 have hc : Z8B setA (put1 ZfW) = (zS, ⟨20, 4, 0⟩) := by
  unfold Z8B
  rw [hap, if_neg (by simp), hr, if_pos (by decide)]
 unfold chF
 rw [show Zmd [first, setA] = setA from rfl, hc, if_pos (by decide)]
theorem ZAv : Za5 = some true := by
 have hf : ZbM first = ZbM first := rfl
 have a1 : addO entA [first] [] = (⟨1, ⟨0, 0, 0⟩⟩, 0, [first, setA], [(1, ⟨1, ⟨1, ⟨0, 0, 0⟩⟩⟩)]) := by
  unfold addO
  rw [if_neg (by decide), if_neg (by decide)]
  rw [show entA.Delta = put1 Zjp from rfl, chA]
  rfl
 have a2 : addO entA [first, setA] [(1, ⟨1, ⟨1, ⟨0, 0, 0⟩⟩⟩)] = (⟨0, ⟨31, 0, 0⟩⟩, 0, [first, setA], [(1, ⟨1, ⟨1, ⟨0, 0, 0⟩⟩⟩)]) := by
  unfold addO
  rw [if_neg (by decide), if_pos (by decide)]
 have a3 : addO entB [first, setA] [(1, ⟨1, ⟨1, ⟨0, 0, 0⟩⟩⟩)] = (⟨0, ⟨20, 4, 0⟩⟩, 0, [first, setA], [(1, ⟨2, ⟨0, ⟨20, 4, 0⟩⟩⟩)]) := by
  unfold addO
  rw [if_neg (by decide), if_neg (by decide)]
  rw [show entB.Delta = put1 ZfW from rfl, chB]
  rfl
 have p1 : Z6A 1 1 3 (ByteArray.mk #[97]) = some entA := ZgH _ _ _ _ rfl
 have p2 : Z6A 1 2 4 (ByteArray.mk #[40]) = some entB := ZgH _ _ _ _ rfl
 obtain ⟨c1, v1⟩ := Zmk entA [first] 0 [] (by simp) (by simp)
 rw [a1] at v1
 obtain ⟨c2, v2⟩ := Zmk entA [first, setA] c1 [(1, ⟨1, ⟨1, ⟨0, 0, 0⟩⟩⟩)] (by simp) (by simp)
 rw [a2] at v2
 obtain ⟨c3, v3⟩ := Zmk entB [first, setA] c2 [(1, ⟨1, ⟨1, ⟨0, 0, 0⟩⟩⟩)] (by simp) (by simp)
 rw [a3] at v3
 apply ZlT
 unfold Za0
 rw [ZEu, q0_, p1, q0_]
 dsimp only
 rw [v1, q0_, q0_]
 dsimp only
 rw [v2, q0_, p2, q0_]
 dsimp only
 rw [v3, q0_]
 dsimp only
 rw [if_pos (by rfl), if_pos (by rfl), if_pos (by rfl), if_pos (by rfl), if_pos (by rfl), if_pos (by rfl), ZuT _ (by simp) (by simp), q0_]
 rfl
end Go.Proofs.YteoeggbihfnbfaaGreatDoor.N2
end
