/- Histories as plain functions. No condition. -/
import Derived.Test.YteoeggbihfnbfaaGreatDoorPlainC

set_option linter.unusedSimpArgs false
set_option linter.unusedVariables false
set_option linter.defProp false
section
namespace Go.Proofs.YteoeggbihfnbfaaGreatDoor.N2
open Go Go.Abs Go.Proofs.Unis Go.Proofs.Norm
set_option maxRecDepth 100000
def okD (n : Int) : Bool := decide (1 ≤ n) && decide (n ≤ 1099511627776)
def okE (e : Z13) : Bool :=
 decide (0 ≤ e.View ∧ e.View ≤ 1099511627776 ∧ 1 ≤ e.Client ∧ e.Client ≤ 1099511627776 ∧ 1 ≤ e.Request ∧ e.Request ≤ 1099511627776 ∧ -1 ≤ e.Delta.Default ∧ e.Delta.Default ≤ 1099511627776 ∧ -1 ≤ e.Delta.Closed ∧ e.Delta.Closed ≤ 1099511627776 ∧
  -1 ≤ e.Delta.Fuel ∧ e.Delta.Fuel ≤ 1099511627776 ∧ -1 ≤ e.Delta.Stack ∧ e.Delta.Stack ≤ 1099511627776 ∧ (e.Delta.Put.length : Int) ≤ 16 ∧ (e.Delta.Drop.length : Int) ≤ 16) && e.Delta.Put.all okR && e.Delta.Drop.all okD
theorem Zxx (n k : Int) : Z6m n k = some (decide (k ≤ n ∧ n ≤ 1099511627776)) := by
 apply Zvp
 unfold Zhy
 by_cases h : k ≤ n
 ·rw [if_pos (Z2t h)]
  simp [h]
 ·rw [if_neg (Z2p h)]
  simp [h]
theorem ZK4 (L : List Zw) (hl : L.length ≤ 1000000) : ∀ (d i : Nat), i + d = L.length → ∃ n, Z5s L (L.length : Int) (i : Int) = some n ∧ decide (0 ≤ n) = (L.drop i).any fun r => !okR r := by
 intro d
 induction d with
 | zero =>
  intro i h
  refine ⟨-1, ?_, by rw [q9_ (by omega)]; rfl⟩
  apply Z8b
  unfold Z4q
  rw [if_neg (Z2p (by omega))]
  rfl
 | succ d ih =>
  intro i h
  have hi : i < L.length := by omega
  rw [Zbe hi]
  obtain ⟨n, h1, h2⟩ := ih (i + 1) (by omega)
  have hv : Zb6 L[i] = some (!okR L[i]) := Znv _ (by unfold Zb1; rw [ZaI]; rfl)
  cases hr : okR L[i] with
  | false =>
   refine ⟨i, ?_, by simp only [Zw4, hr]; simp⟩
   apply Z8b
   unfold Z4q Z5k
   rw [if_pos (Z2t (by omega)), Z2T, q2_ hi, q0_, hv, q0_, hr, if_pos (by rfl)]
  | true =>
   refine ⟨n, ?_, by simp only [Zw4, hr, h2]; simp⟩
   apply Z8b
   unfold Z4q Z5k Z6R
   rw [if_pos (Z2t (by omega)), Z2T, q2_ hi, q0_, hv, q0_, hr, if_neg (by simp), wrap_i64 (by omega) (by omega)]
   exact h1
theorem ZFh (L : List Int) (hl : L.length ≤ 1000000) : ∀ (d i : Nat), i + d = L.length → ∃ n, Z5H L (L.length : Int) (i : Int) = some n ∧ decide (0 ≤ n) = (L.drop i).any fun r => !okD r := by
 intro d
 induction d with
 | zero =>
  intro i h
  refine ⟨-1, ?_, by rw [q9_ (by omega)]; rfl⟩
  apply Z8t
  unfold Z4C
  rw [if_neg (Z2p (by omega))]
  rfl
 | succ d ih =>
  intro i h
  have hi : i < L.length := by omega
  rw [Zbe hi]
  obtain ⟨n, h1, h2⟩ := ih (i + 1) (by omega)
  have hv : Zb7 L[i] = some (!okD L[i]) := Znx _ (by unfold Zb2 okD; rw [Zxx]; simp)
  cases hr : okD L[i] with
  | false =>
   refine ⟨i, ?_, by simp only [Zw4, hr]; simp⟩
   apply Z8t
   unfold Z4C Z5F
   rw [if_pos (Z2t (by omega)), Z2T, q2_ hi, q0_, hv, q0_, hr, if_pos (by rfl)]
  | true =>
   refine ⟨n, ?_, by simp only [Zw4, hr, h2]; simp⟩
   apply Z8t
   unfold Z4C Z5F Z7f
   rw [if_pos (Z2t (by omega)), Z2T, q2_ hi, q0_, hv, q0_, hr, if_neg (by simp), wrap_i64 (by omega) (by omega)]
   exact h1
theorem ZoW (e : Z13) : ZcG e = some (okE e) := by
 have hp : e.Delta.Put.length ≤ 16 → Z6W e.Delta.Put = some (!e.Delta.Put.all okR) := by
  intro h
  obtain ⟨n, h1, h2⟩ := ZK4 e.Delta.Put (by omega) e.Delta.Put.length 0 (by omega)
  have h3 : Z82 e.Delta.Put = some n := Zjj _ (by unfold Z7X; exact h1)
  apply Zh8
  unfold Z6N
  rw [h3, q0_, h2]
  simp [List.all_eq_not_any_not]
 have hd : e.Delta.Drop.length ≤ 16 → Z7l e.Delta.Drop = some (!e.Delta.Drop.all okD) := by
  intro h
  obtain ⟨n, h1, h2⟩ := ZFh e.Delta.Drop (by omega) e.Delta.Drop.length 0 (by omega)
  have h3 : Z8l e.Delta.Drop = some n := ZjL _ (by unfold Z8j; exact h1)
  apply Zi0
  unfold Z7d
  rw [h3, q0_, h2]
  simp [List.all_eq_not_any_not]
 apply Zpt
 unfold Zct okE
 simp only [Zxx, q0_]
 by_cases c1 : 0 ≤ e.View ∧ e.View ≤ 1099511627776
 case neg => rw [if_neg (by simpa using c1)]; simp; omega
 rw [if_pos (by simpa using c1)]
 by_cases c2 : 1 ≤ e.Client ∧ e.Client ≤ 1099511627776
 case neg => rw [if_neg (by simpa using c2)]; simp; omega
 rw [if_pos (by simpa using c2)]
 by_cases c3 : 1 ≤ e.Request ∧ e.Request ≤ 1099511627776
 case neg => rw [if_neg (by simpa using c3)]; simp; omega
 rw [if_pos (by simpa using c3)]
 by_cases c4 : -1 ≤ e.Delta.Default ∧ e.Delta.Default ≤ 1099511627776
 case neg => rw [if_neg (by simpa using c4)]; simp; omega
 rw [if_pos (by simpa using c4)]
 by_cases c5 : -1 ≤ e.Delta.Closed ∧ e.Delta.Closed ≤ 1099511627776
 case neg => rw [if_neg (by simpa using c5)]; simp; omega
 rw [if_pos (by simpa using c5)]
 by_cases c6 : -1 ≤ e.Delta.Fuel ∧ e.Delta.Fuel ≤ 1099511627776
 case neg => rw [if_neg (by simpa using c6)]; simp; omega
 rw [if_pos (by simpa using c6)]
 by_cases c7 : -1 ≤ e.Delta.Stack ∧ e.Delta.Stack ≤ 1099511627776
 case neg => rw [if_neg (by simpa using c7)]; simp; omega
 rw [if_pos (by simpa using c7)]
 by_cases c8 : (e.Delta.Put.length : Int) ≤ 16
 case neg => rw [if_neg (Z2p c8)]; simp; omega
 rw [if_pos (Z2t c8)]
 by_cases c9 : (e.Delta.Drop.length : Int) ≤ 16
 case neg => rw [if_neg (Z2p c9)]; simp; omega
 rw [if_pos (Z2t c9), hp (by omega), q0_, decide_eq_true (by omega), Zw1]
 cases e.Delta.Put.all okR with
 | false => rfl
 | true =>
  rw [if_pos (by rfl), hd (by omega), q0_]
  simp
theorem ZNk {e : Z13} (h : okE e = true) : e.Delta.Put.length ≤ 16 ∧ e.Delta.Drop.length ≤ 16 := by
 unfold okE at h
 simp only [q6_, decide_eq_true_eq] at h
 omega
theorem ZLe (l L : List Z13) (n k : Int) (R : List Zw) (hl : R.length ≤ 20) {r : Bool} (hr : Z5h l L n (IntKind.i64.wrap (k + 1)) = some r) : ∀ (m i : Nat), i + m = R.length →
  ∃ r', Z6l l L n k R (R.length : Int) (i : Int) = some r' := by
 intro m
 induction m with
 | zero =>
  intro i h
  refine ⟨r, ?_⟩
  apply Z9z
  unfold Z5d Z7U
  rw [if_neg (Z2p (by omega))]
  exact hr
 | succ m ih =>
  intro i h
  have hi : i < R.length := by omega
  obtain ⟨r', e⟩ := ih (i + 1) (by omega)
  by_cases hc : 300 < (R[i].Pattern.size : Int)
  ·refine ⟨false, ?_⟩
   apply Z9z
   unfold Z5d Z6k
   rw [if_pos (Z2t (by omega)), Z2T, q2_ hi, q0_, if_pos (Z2t hc)]
  ·refine ⟨r', ?_⟩
   apply Z9z
   unfold Z5d Z6k Z7T
   rw [if_pos (Z2t (by omega)), Z2T, q2_ hi, q0_, if_neg (Z2p hc), wrap_i64 (by omega) (by omega)]
   exact e
theorem ZLd (l L : List Z13) (hl : L.length ≤ 9223372036854775807) : ∀ (m i : Nat), i + m = L.length → ∃ r, Z5h l L (L.length : Int) (i : Int) = some r := by
 intro m
 induction m with
 | zero =>
  intro i h
  refine ⟨decide ((l.length : Int) ≤ 70), ?_⟩
  apply Z7h
  unfold Z4u Z7V
  rw [if_neg (Z2p (by omega))]
 | succ m ih =>
  intro i h
  have hi : i < L.length := by omega
  obtain ⟨r, e⟩ := ih (i + 1) (by omega)
  by_cases c1 : 20 < (L[i].Delta.Put.length : Int)
  ·refine ⟨false, ?_⟩
   apply Z7h
   unfold Z4u Z5e Z5f
   rw [if_pos (Z2t (by omega)), Z2T, q2_ hi, q0_, if_pos (Z2t c1)]
  by_cases c2 : 20 < (L[i].Delta.Drop.length : Int)
  ·refine ⟨false, ?_⟩
   apply Z7h
   unfold Z4u Z5e Z5f
   rw [if_pos (Z2t (by omega)), Z2T, q2_ hi, q0_, if_neg (Z2p c1), if_pos (Z2t c2)]
  obtain ⟨r', e'⟩ := ZLe l L L.length i L[i].Delta.Put (by omega) (r := r) (by rw [wrap_i64 (by omega) (by omega)]; exact e) L[i].Delta.Put.length 0 (by omega)
  refine ⟨r', ?_⟩
  apply Z7h
  unfold Z4u Z5e Z8h
  rw [if_pos (Z2t (by omega)), Z2T, q2_ hi, q0_, if_neg (Z2p c1), if_neg (Z2p c2)]
  exact e'
theorem ZDb (l : List Z13) (hl : l.length ≤ 9223372036854775807) : ∃ b, Z9D l = some b := by
 obtain ⟨r, e⟩ := ZLd l l hl l.length 0 (by omega)
 exact ⟨r, ZlE _ (by unfold Z9C; exact e)⟩
theorem ZHO (l : List Zw) (h : l.length ≤ 1048576) : ZeC l = some l := by
 apply Z1c (fun _ _ ha hb => RRun.uniq ZoR (ha .sh) (hb .sh))
 intro o
 have e : EE 62 [(.p (.lst o (l.map ZE)))] [] = some ((.p (.lst .sh (l.map ZE))), []) := by
  rw [show EE 62 = E PP XX HH 62 from rfl, Zwc (P := PP) (X := XX) (H := HH) (f := 62) (m := ZtC) (by kernel_rfl)]
  have : ZtC [(.p (.lst o (l.map ZE)))] [] = if (l.map ZE).length ≤ 1048576 ∧ ((l.map ZE).all fun e => (Z2j e).length == 5 && (Z2j e).all Zrl) = true then some (.p (.lst .sh (l.map ZE)), []) else none := rfl
  rw [this, if_pos]
  refine ⟨by simpa using h, ?_⟩
  rw [Zav]
  intro x hx
  obtain ⟨r, _, rfl⟩ := Z7w.1 hx
  rfl
 exact ⟨_, e, [], rfl⟩
def setF (v : Int) (sets : List ZC) : ZC × Bool := if v < 0 then (zS, false) else match sets[v.toNat]? with | some s => (s, true) | none => (zS, false)
abbrev Fit (sets : List ZC) : Prop := ∀ s ∈ sets, s.Rules.length ≤ 1000000
theorem ZD9 (v : Int) (sets : List ZC) (hf : Fit sets) : Z6U v sets = some (setF v sets) := by
 apply Zka
 unfold Z8S Z5Q setF
 by_cases h : v < 0
 ·rw [if_pos (Z2t h), if_pos h]
  rfl
 rw [if_neg (Z2p h), if_neg h]
 by_cases h2 : (sets.length : Int) ≤ v
 ·rw [if_pos (Z2t h2), ZgL (by omega)]
  rfl
 rw [if_neg (Z2p h2)]
 have hlt : v.toNat < sets.length := by omega
 have hg : lget sets v = some sets[v.toNat] := by
  unfold lget
  rw [if_pos (by omega), q2_ hlt]
 unfold Z7y
 rw [hg, q0_, ZHO _ (ZgO (hf _ (ZoH hlt)) (by omega)), q0_, q2_ hlt]
theorem ZkP (sets : List ZC) (h : sets ≠ []) (hl : sets.length ≤ 1000000) : Z41 sets = some ((sets.length : Int) - 1) := by
 apply ZhV
 unfold Z7b
 have : 0 < sets.length := List.length_pos_iff.2 h
 rw [wrap_i64 (by omega) (by omega)]
abbrev ML := List (Int × ZZ)
noncomputable def Zmm (sets : List ZC) : ZC := sets.getLastD zS
noncomputable def chF (d : Z1f) (sets : List ZC) : Z1j × List ZC :=
 if (Z8G (Zmm sets) d).2.Code ≠ 0 then (⟨0, (Z8G (Zmm sets) d).2⟩, sets) else (⟨sets.length, ⟨0, 0, 0⟩⟩, sets ++ [(Z8G (Zmm sets) d).1])
theorem ZNU (d : Z1f) (sets : List ZC) (h : sets ≠ []) (hl : sets.length ≤ 1000000) (h1 : d.Put.length ≤ 1000000) (h2 : d.Drop.length ≤ 1000000) : Z7E d sets = some (chF d sets) := by
 have h0 : 0 < sets.length := List.length_pos_iff.2 h
 have hg : lget sets ((sets.length : Int) - 1) = some (Zmm sets) := by
  unfold lget Zmm
  rw [if_pos (by omega), show ((sets.length : Int) - 1).toNat = sets.length - 1 by omega, q2_ (by omega), List.getLastD_eq_getLast?, List.getLast?_eq_some_getLast h, Zto, List.getLast_eq_getElem]
 apply ZiG
 unfold Z7z chF
 rw [wrap_i64 (by omega) (by omega), hg, q0_, ZFa _ _ h1 h2, q0_]
 by_cases hc : (Z8G (Zmm sets) d).2.Code = 0
 ·rw [if_neg (ZfP hc), if_neg (by simp [hc])]
  unfold Z6o
  rw [ZvN _ _ (by omega), q0_, wrap_i64 (by simp <;> omega) (by simp <;> omega)]
  simp
 ·rw [if_pos (Zii hc), if_pos hc]
def oldF (e : Z13) (m : ML) : Bool := match getM m e.Client with | some l => decide (e.Request ≤ l.request) | none => false
noncomputable def addO (e : Z13) (sets : List ZC) (m : ML) : Z1j × Int × List ZC × ML :=
 if okE e = false then (⟨0, ⟨0, 0, 0⟩⟩, 10, sets, m)
 else if oldF e m = true then (⟨0, ⟨31, 0, 0⟩⟩, 0, sets, m)
 else ((chF e.Delta sets).1, 0, (chF e.Delta sets).2, putM m e.Client ⟨e.Request, (chF e.Delta sets).1⟩)
theorem ZoS (e : Z13) (sets : List ZC) (c : Int) (m : ML) (h : sets ≠ []) (hl : sets.length ≤ 1000000) :
  ∃ c', Z3I e sets c m = some ((addO e sets m).1, (addO e sets m).2.1, (addO e sets m).2.2.1, c', (addO e sets m).2.2.2) := by
 unfold addO
 cases hk : okE e with
 | false =>
  refine ⟨c, ?_⟩
  apply Zdt
  unfold Z6I
  rw [ZoW, q0_, hk]
  rfl
 | true =>
  obtain ⟨l1, l2⟩ := ZNk hk
  have r7 : ∀ c, Z4Q sets c m e = some ((chF e.Delta sets).1, 0, (chF e.Delta sets).2, c, putM m e.Client ⟨e.Request, (chF e.Delta sets).1⟩) := by
   intro c
   unfold Z4Q
   rw [ZNU e.Delta sets h hl (by omega) (by omega), q0_]
  have fin : ∀ {x}, Z4P sets c m e = some x → Z3I e sets c m = some x := by
   intro x hx
   apply Zdt
   unfold Z6I
   rw [ZoW, q0_, hk, if_neg (by simp)]
   exact hx
  refine ⟨IntKind.i64.wrap (c + 1), fin ?_⟩
  cases ho : oldF e m with
  | true =>
   rw [if_neg (by simp), if_pos rfl]
   unfold oldF at ho
   cases hg : getM m e.Client with
   | none => rw [hg] at ho; simp at ho
   | some l =>
    rw [hg] at ho
    unfold Z4P
    rw [hg, if_pos (by rfl), Zto, if_pos ho]
    rfl
  | false =>
   rw [if_neg (by simp), if_neg (by simp), ← r7]
   unfold oldF at ho
   unfold Z4P
   cases hg : getM m e.Client with
   | none => rw [if_neg (by simp)]
   | some l =>
    rw [hg] at ho
    rw [if_pos (by rfl), Zto, if_neg (by simpa using ho)]
theorem Zqh (e : Z13) (sets : List ZC) (m : ML) : (addO e sets m).2.2.1 = sets ∨ ∃ s, (addO e sets m).2.2.1 = sets ++ [s] ∧ s.Rules.length ≤ 16 ∧ (ZbU s).Code = 0 := by
 unfold addO
 split
 ·exact .inl rfl
 split
 ·exact .inl rfl
 unfold chF
 split
 ·exact .inl rfl
 ·rename_i hc
  have hc : (Z8G (Zmm sets) e.Delta).2.Code = 0 := by simpa using hc
  exact .inr ⟨_, rfl, ZzY (ZF9 hc), ZAO hc⟩
theorem ZEh {e : Z13} {sets : List ZC} {m : ML} (hf : Fit sets) : Fit (addO e sets m).2.2.1 := by
 rcases Zqh e sets m with h | ⟨s, h, hs, _⟩
 ·rw [h]; exact hf
 ·rw [h]
  intro x hx
  rcases Zic.1 hx with hx | hx
  ·exact hf x hx
  ·simp only [ZdD] at hx
   subst hx
   omega
theorem ZNT {e : Z13} {sets : List ZC} {m : ML} (h : sets ≠ []) : (addO e sets m).2.2.1 ≠ [] := by
 rcases Zqh e sets m with h1 | ⟨s, h1, _⟩ <;> rw [h1]
 ·exact h
 ·simp
theorem ZLK (e : Z13) (sets : List ZC) (m : ML) : sets.length ≤ (addO e sets m).2.2.1.length ∧ (addO e sets m).2.2.1.length ≤ sets.length + 1 := by
 rcases Zqh e sets m with h1 | ⟨s, h1, _⟩ <;> rw [h1] <;> simp
theorem ZLL (e : Z13) (sets : List ZC) (m : ML) : sets <+: (addO e sets m).2.2.1 := by
 rcases Zqh e sets m with h1 | ⟨s, h1, _⟩ <;> rw [h1]
 ·exact List.prefix_rfl
 ·exact List.prefix_append _ _
abbrev first : ZC := ⟨0, 255, 10000, 500, []⟩
theorem ZEM : Zci = some ([], [first], 0) := by
 apply Zvo
 unfold Zhx
 rw [show Zja = some first from Zxe rfl, q0_]
abbrev ZjB : Zw := ⟨3, 0, 0, 1, ByteArray.mk #[97]⟩
abbrev Zg9 : Zw := ⟨4, 0, 0, 1, ByteArray.mk #[40]⟩
abbrev setA : ZC := ⟨0, 255, 10000, 500, [ZjB]⟩
abbrev entA : Z13 := ⟨0, 1, 1, ⟨-1, -1, -1, -1, [ZjB], []⟩⟩
abbrev entB : Z13 := ⟨0, 1, 2, ⟨-1, -1, -1, -1, [Zg9], []⟩⟩
theorem ZLD : Fine ZjB := by
 have e1 : (Z9m (ByteArray.mk #[97])) = (⟨setN [(97, 97)], 0, false⟩, ⟨0, 0⟩) := by rfl
 have : Z6C (ByteArray.mk #[97]) = some ⟨0, 0, 0⟩ := by
  apply Zbb
  unfold Z7R Z9h
  rw [Zo3, q0_, e1, if_neg (ZfP rfl), ZA7 (Shp.set [(97, 97)]), q0_]
  rfl
 show (patF (ByteArray.mk #[97])).Code = 0
 unfold patF
 rw [this]
 rfl
theorem badB : badF Zg9 = ⟨20, 4, 0⟩ := by
 have e2 : (Z9m (ByteArray.mk #[40])).2 = ⟨20, 0⟩ := by rfl
 unfold badF
 show (⟨(patF (ByteArray.mk #[40])).Code, 4, (patF (ByteArray.mk #[40])).At⟩ : ZX) = _
 rw [ZNx (by rw [e2]; decide), e2]
theorem ZNl : okS first = true := by decide
theorem okA : okR ZjB = true := by decide
theorem okB : okR Zg9 = true := by decide
theorem okSA : okS setA = true := by decide
theorem chA : chF (put1 ZjB) [first] = (⟨1, ⟨0, 0, 0⟩⟩, [first, setA]) := by
 have hap := Zwi ZNl okA
 rw [if_pos (by decide)] at hap
 have hap : Zbo first (put1 ZjB) = (setA, 0) := hap
 have hc : Z8G first (put1 ZjB) = (setA, ⟨0, 0, 0⟩) := by
  unfold Z8G
  rw [hap, if_neg (by simp), ZEc okSA (by
   intro r hr
   have hr : r ∈ [ZjB] := hr
   simp only [ZdD] at hr
   subst hr
   exact ZLD), if_neg (by simp)]
 unfold chF
 rw [show Zmm [first] = first from rfl, hc, if_neg (by simp)]
 rfl
theorem chB : chF (put1 Zg9) [first, setA] = (⟨0, ⟨20, 4, 0⟩⟩, [first, setA]) := by
 have hap := Zwi okSA okB
 rw [if_pos (by decide)] at hap
 have hb : ¬ Fine Zg9 := by
  intro h
  have := congrArg (·.Code) badB
  change (patF Zg9.Pattern).Code = 20 at this
  rw [h] at this
  simp at this
 have hr : ZbU ⟨setA.Default, setA.Closed, setA.Fuel, setA.Stack, putL setA.Rules Zg9⟩ = ⟨20, 4, 0⟩ := by
  unfold ZbU
  rw [if_neg (by decide)]
  rw [← badB]
  refine ZsS (fun r hr => ?_) ?_ hb
  ·rcases ZCt hr with h | h
   ·exact .inl h
   ·have h : r ∈ [ZjB] := h
    simp only [ZdD] at h
    subst h
    exact .inr ZLD
  ·have : putL setA.Rules Zg9 = [ZjB, Zg9] := rfl
   show Zg9 ∈ putL setA.Rules Zg9
   rw [this]
   simp
 have hc : Z8G setA (put1 Zg9) = (zS, ⟨20, 4, 0⟩) := by
  unfold Z8G
  rw [hap, if_neg (by simp), hr, if_pos (by decide)]
 unfold chF
 rw [show Zmm [first, setA] = setA from rfl, hc, if_pos (by decide)]
theorem ZAK : Zae = some true := by
 have hf : ZbU first = ZbU first := rfl
 have a1 : addO entA [first] [] = (⟨1, ⟨0, 0, 0⟩⟩, 0, [first, setA], [(1, ⟨1, ⟨1, ⟨0, 0, 0⟩⟩⟩)]) := by
  unfold addO
  rw [if_neg (by decide), if_neg (by decide)]
  rw [show entA.Delta = put1 ZjB from rfl, chA]
  rfl
 have a2 : addO entA [first, setA] [(1, ⟨1, ⟨1, ⟨0, 0, 0⟩⟩⟩)] = (⟨0, ⟨31, 0, 0⟩⟩, 0, [first, setA], [(1, ⟨1, ⟨1, ⟨0, 0, 0⟩⟩⟩)]) := by
  unfold addO
  rw [if_neg (by decide), if_pos (by decide)]
 have a3 : addO entB [first, setA] [(1, ⟨1, ⟨1, ⟨0, 0, 0⟩⟩⟩)] = (⟨0, ⟨20, 4, 0⟩⟩, 0, [first, setA], [(1, ⟨2, ⟨0, ⟨20, 4, 0⟩⟩⟩)]) := by
  unfold addO
  rw [if_neg (by decide), if_neg (by decide)]
  rw [show entB.Delta = put1 Zg9 from rfl, chB]
  rfl
 have p1 : Z6F 1 1 3 (ByteArray.mk #[97]) = some entA := ZgY _ _ _ _ rfl
 have p2 : Z6F 1 2 4 (ByteArray.mk #[40]) = some entB := ZgY _ _ _ _ rfl
 obtain ⟨c1, v1⟩ := ZoS entA [first] 0 [] (by simp) (by simp)
 rw [a1] at v1
 obtain ⟨c2, v2⟩ := ZoS entA [first, setA] c1 [(1, ⟨1, ⟨1, ⟨0, 0, 0⟩⟩⟩)] (by simp) (by simp)
 rw [a2] at v2
 obtain ⟨c3, v3⟩ := ZoS entB [first, setA] c2 [(1, ⟨1, ⟨1, ⟨0, 0, 0⟩⟩⟩)] (by simp) (by simp)
 rw [a3] at v3
 apply Zm2
 unfold Za9
 rw [ZEM, q0_, p1, q0_]
 dsimp only
 rw [v1, q0_, q0_]
 dsimp only
 rw [v2, q0_, p2, q0_]
 dsimp only
 rw [v3, q0_]
 dsimp only
 rw [if_pos (by rfl), if_pos (by rfl), if_pos (by rfl), if_pos (by rfl), if_pos (by rfl), if_pos (by rfl), ZkP _ (by simp) (by simp), q0_]
 rfl
end Go.Proofs.YteoeggbihfnbfaaGreatDoor.N2
end
