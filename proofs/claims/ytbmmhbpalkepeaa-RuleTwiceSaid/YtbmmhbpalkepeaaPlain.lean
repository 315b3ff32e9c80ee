/- Layer 7 in plain words. No condition. -/
import Derived.Test.YtbmmhbpalkepeaaTypB
import Derived.Test.YtbmmhbpalkepeaaTypC

section
set_option linter.unusedSimpArgs false
set_option linter.unusedVariables false
/- Layer 7 in plain terms: rules, sets, searches. Conditions: none. -/
namespace Go.Proofs.Ytbmmhbpalkepeaa
open Go Go.Abs


/-- A rule is right. -/
def okR (r : N2.Srule_Rule) : Bool := decide (1 ≤ r.ID ∧ r.ID ≤ 1099511627776 ∧ 0 ≤ r.Priority ∧ r.Priority ≤ 1000 ∧ 0 ≤ r.Action ∧ r.Action ≤ 255 ∧ 1 ≤ r.Scope ∧ r.Scope ≤ 65535 ∧ (r.Pattern.size : Int) ≤ 256)
/-- Four numbers are right. -/
def okN (a b c d : Int) : Bool := decide (0 ≤ a ∧ a ≤ 255 ∧ 0 ≤ b ∧ b ≤ 255 ∧ 1 ≤ c ∧ c ≤ 1048576 ∧ 0 ≤ d ∧ d ≤ 4096)
/-- Rules are right and ascend, from a number on. -/
def asc : Int → List N2.Srule_Rule → Bool
  | _, [] => true
  | n, r :: l => okR r && decide (n < r.ID) && asc r.ID l
def okS (s : N2.Srule_Set) : Bool := okN s.Default s.Closed s.Fuel s.Stack && decide (s.Rules.length ≤ 16) && asc 0 s.Rules

namespace N2
theorem g21_val (r : N2.Srule_Rule) : g21 r = some (okR r) := by
  apply g21_of
  unfold b21 okR
  repeat' split
  all_goals simp_all
  all_goals omega

theorem g27_val (s : N2.Srule_Set) : g27 s = some (okN s.Default s.Closed s.Fuel s.Stack) := by
  apply g27_of
  unfold b27 okN
  repeat' split
  all_goals simp_all
  all_goals omega

theorem wrap1 {i : Int} (h1 : 0 ≤ i) (h2 : i ≤ 1000000000) : IntKind.i64.wrap (i + 1) = i + 1 := wrap_i64 (by omega) (by omega)

theorem lget_nat {α : Type} (l : List α) (i : Nat) : lget l (i : Int) = l[i]? := by simp [lget]

theorem g16_loop (L : List N2.Srule_Rule) (hl : L.length ≤ 1000000) : ∀ (d i : Nat) (n : Int), i + d = L.length → g16_l5 n L (L.length : Int) (i : Int) = some (asc n (L.drop i)) := by
  intro d
  induction d with
  | zero =>
    intro i n h
    apply g16_l5_of
    unfold b16_l5
    rw [if_neg (by simp; omega), List.drop_of_length_le (by omega)]
    rfl
  | succ d ih =>
    intro i n h
    apply g16_l5_of
    unfold b16_l5
    have hi : i < L.length := by omega
    rw [if_pos (by simp; omega)]
    unfold b16_r6
    rw [lget_nat, List.getElem?_eq_getElem hi, List.drop_eq_getElem_cons hi]
    simp only [Option.bind_some, g21_val, asc, b16_r8, b16_r9, b16_r10]
    cases h1 : okR L[i] with
    | false => simp
    | true =>
      simp only [Bool.not_true, Bool.false_eq_true, if_false, Bool.true_and]
      by_cases h2 : L[i].ID ≤ n
      · rw [if_pos (by simpa using h2)]
        have : ¬ n < L[i].ID := by omega
        simp [this]
      · rw [if_neg (by simpa using h2), wrap1 (by omega) (by omega)]
        have := ih (i + 1) L[i].ID (by omega)
        rw [show ((i : Int) + 1) = ((i + 1 : Nat) : Int) by omega, this]
        have : n < L[i].ID := by omega
        simp [this]

theorem g16_val (s : N2.Srule_Set) : g16 s = some (okS s) := by
  apply g16_of
  unfold b16
  simp only [g27_val, Option.bind_some, b16_r2, b16_r3, okS]
  cases h : okN s.Default s.Closed s.Fuel s.Stack with
  | false => simp
  | true =>
    by_cases h2 : s.Rules.length ≤ 16
    · have h3 : ¬ 16 < (s.Rules.length : Int) := by omega
      simp only [Bool.not_true, Bool.false_eq_true, if_false, h3, decide_false, h2, decide_true, Bool.true_and]
      exact g16_loop s.Rules (by omega) s.Rules.length 0 0 (by omega)
    · have h3 : 16 < (s.Rules.length : Int) := by omega
      simp [h2, h3]
end N2
end Go.Proofs.Ytbmmhbpalkepeaa
end

section
set_option linter.unusedSimpArgs false
set_option linter.unusedVariables false
/- Layer 7 in plain terms: searches; a number that is twice. Conditions: none. -/
namespace Go.Proofs.Ytbmmhbpalkepeaa
open Go Go.Abs

/-- Numbers, one after the other, among those that were seen. -/
def scanM : List Int → List (Int × Bool) → Bool × List (Int × Bool)
  | [], m => (false, m)
  | x :: xs, m => if (getM m x).getD false = true then (true, putM m x true) else scanM xs (putM m x true)

def ids (l : List N2.Srule_Rule) : List Int := l.map (·.ID)

theorem getM_put {α : Type} (m : List (Int × α)) (n k : Int) (y : α) : getM (putM m n y) k = if k = n then some y else getM m k := by
  induction m with
  | nil => simp only [putM, getM]; by_cases h : n = k <;> simp [h, eq_comm]
  | cons q r ih =>
    simp only [putM]
    split
    · rename_i h
      simp only [getM]
      by_cases hk : n = k
      · simp [hk]
      · simp only [if_neg hk]; rw [h, if_neg hk, if_neg (fun e => hk e.symm)]
    · rename_i h
      simp only [getM, ih]
      by_cases hk : q.1 = k
      · rw [if_pos hk]; have : k ≠ n := fun e => h (hk.trans e); rw [if_neg this, if_pos hk]
      · rw [if_neg hk]; split <;> simp [hk]

theorem scanM_spec : ∀ (xs : List Int) (m : List (Int × Bool)) (seen : List Int), (∀ x, (getM m x).getD false = decide (x ∈ seen)) → (scanM xs m).1 = !decide (xs.Nodup ∧ ∀ x ∈ xs, x ∉ seen) ∧
    ((scanM xs m).1 = false → ∀ x, (getM (scanM xs m).2 x).getD false = decide (x ∈ xs ∨ x ∈ seen))
  | [], m, seen, h => by simpa [scanM] using h
  | x :: xs, m, seen, h => by
    unfold scanM
    rw [h x]
    by_cases hx : x ∈ seen
    · rw [decide_eq_true hx]
      simp only [if_true]
      refine ⟨?_, fun e => by cases e⟩
      have : ¬ ((x :: xs).Nodup ∧ ∀ y ∈ x :: xs, y ∉ seen) := fun hh => hh.2 x (by simp) hx
      simp only [decide_eq_false this, Bool.not_false]
    · rw [if_neg (by simpa using hx)]
      have hm : ∀ y, (getM (putM m x true) y).getD false = decide (y ∈ x :: seen) := by
        intro y
        rw [getM_put]
        by_cases hy : y = x
        · simp [hy]
        · rw [if_neg hy, h y]; simp [hy]
      obtain ⟨h1, h2⟩ := scanM_spec xs _ (x :: seen) hm
      refine ⟨?_, fun e y => ?_⟩
      · rw [h1]
        congr 2
        apply propext
        simp only [List.nodup_cons, List.mem_cons, not_or, forall_eq_or_imp]
        constructor
        · rintro ⟨a, b⟩
          exact ⟨⟨fun hh => (b x hh).1 rfl, a⟩, hx, fun y hy => (b y hy).2⟩
        · rintro ⟨⟨a, b⟩, _, c⟩
          exact ⟨b, fun y hy => ⟨fun e => a (e ▸ hy), c y hy⟩⟩
      · rw [h2 e y]
        congr 1
        apply propext
        simp only [List.mem_cons]
        constructor
        · rintro (a | a | a)
          · exact .inl (.inr a)
          · exact .inl (.inl a)
          · exact .inr a
        · rintro ((a | a) | a)
          · exact .inr (.inl a)
          · exact .inl a
          · exact .inr (.inr a)

namespace N2
theorem g52_loop (L : List N2.Srule_Rule) (hl : L.length ≤ 1000000) : ∀ (d i : Nat), i + d = L.length → ∃ n, g52_l2 L (L.length : Int) (i : Int) = some n ∧ decide (0 ≤ n) = (L.drop i).any fun r => !okR r := by
  intro d
  induction d with
  | zero =>
    intro i h
    refine ⟨-1, ?_, by rw [List.drop_of_length_le (by omega)]; rfl⟩
    apply g52_l2_of
    unfold b52_l2
    rw [if_neg (by simp; omega)]
    rfl
  | succ d ih =>
    intro i h
    have hi : i < L.length := by omega
    rw [List.drop_eq_getElem_cons hi]
    obtain ⟨n, h1, h2⟩ := ih (i + 1) (by omega)
    cases hr : okR L[i] with
    | false =>
      refine ⟨i, ?_, by simp only [List.any_cons, hr]; simp⟩
      apply g52_l2_of
      unfold b52_l2
      rw [if_pos (by simp; omega)]
      unfold b52_r3
      have h43 : g43 L[i] = some true := g43_of _ (by unfold b43; simp [g21_val, hr])
      simp [lget_nat, List.getElem?_eq_getElem hi, h43]
    | true =>
      refine ⟨n, ?_, by simp only [List.any_cons, hr, h2]; simp⟩
      apply g52_l2_of
      unfold b52_l2
      rw [if_pos (by simp; omega)]
      unfold b52_r3
      have h43 : g43 L[i] = some false := g43_of _ (by unfold b43; simp [g21_val, hr])
      simp only [lget_nat, List.getElem?_eq_getElem hi, h43, Option.bind_some, Bool.false_eq_true, if_false, b52_r6]
      rw [wrap1 (by omega) (by omega), show ((i : Int) + 1) = ((i + 1 : Nat) : Int) by omega]
      exact h1

theorem g28_val (L : List N2.Srule_Rule) (hl : L.length ≤ 1000000) : g28 L = some (L.all okR) := by
  obtain ⟨n, h1, h2⟩ := g52_loop L hl L.length 0 (by omega)
  apply g28_of
  have h52 : g52 L = some n := g52_of _ (by unfold b52; exact h1)
  have h42 : g42 L = some (decide (0 ≤ n)) := g42_of _ (by unfold b42; rw [h52]; rfl)
  unfold b28
  rw [h42, h2]
  simp [List.all_eq_not_any_not]

theorem g44_val (n : Int) (m : List (Int × Bool)) : g44 n m = some ((getM m n).getD false, putM m n true) := g44_of _ _ rfl
theorem g45_val (r : N2.Srule_Rule) (m : List (Int × Bool)) : g45 r m = some ((getM m r.ID).getD false, putM m r.ID true) := g45_of _ _ (by unfold b45; rw [g44_val]; rfl)

theorem g52v1_loop (L : List N2.Srule_Rule) (hl : L.length ≤ 1000000) : ∀ (d i : Nat) (m : List (Int × Bool)), i + d = L.length →
    ∃ n, g52v1_l2 L (L.length : Int) (i : Int) m = some (n, (scanM (ids (L.drop i)) m).2) ∧ decide (0 ≤ n) = (scanM (ids (L.drop i)) m).1 := by
  intro d
  induction d with
  | zero =>
    intro i m h
    rw [List.drop_of_length_le (by omega)]
    refine ⟨-1, ?_, rfl⟩
    apply g52v1_l2_of
    unfold b52v1_l2
    rw [if_neg (by simp; omega)]
    rfl
  | succ d ih =>
    intro i m h
    have hi : i < L.length := by omega
    rw [List.drop_eq_getElem_cons hi]
    obtain ⟨n, h1, h2⟩ := ih (i + 1) (putM m L[i].ID true) (by omega)
    simp only [ids, List.map_cons, scanM]
    by_cases hs : (getM m L[i].ID).getD false = true
    · rw [if_pos hs]
      refine ⟨i, ?_, by simp⟩
      apply g52v1_l2_of
      unfold b52v1_l2
      rw [if_pos (by simp; omega)]
      unfold b52v1_r3
      simp [lget_nat, List.getElem?_eq_getElem hi, g45_val, hs]
    · rw [if_neg hs]
      refine ⟨n, ?_, h2⟩
      apply g52v1_l2_of
      unfold b52v1_l2
      rw [if_pos (by simp; omega)]
      unfold b52v1_r3
      simp only [lget_nat, List.getElem?_eq_getElem hi, g45_val, Option.bind_some, if_neg hs, b52v1_r6]
      rw [wrap1 (by omega) (by omega), show ((i : Int) + 1) = ((i + 1 : Nat) : Int) by omega]
      exact h1

theorem g53_loop (L : List Int) (hl : L.length ≤ 1000000) : ∀ (d i : Nat) (m : List (Int × Bool)), i + d = L.length →
    ∃ n, g53_l2 L (L.length : Int) (i : Int) m = some (n, (scanM (L.drop i) m).2) ∧ decide (0 ≤ n) = (scanM (L.drop i) m).1 := by
  intro d
  induction d with
  | zero =>
    intro i m h
    rw [List.drop_of_length_le (by omega)]
    refine ⟨-1, ?_, rfl⟩
    apply g53_l2_of
    unfold b53_l2
    rw [if_neg (by simp; omega)]
    rfl
  | succ d ih =>
    intro i m h
    have hi : i < L.length := by omega
    rw [List.drop_eq_getElem_cons hi]
    obtain ⟨n, h1, h2⟩ := ih (i + 1) (putM m L[i] true) (by omega)
    simp only [scanM]
    by_cases hs : (getM m L[i]).getD false = true
    · rw [if_pos hs]
      refine ⟨i, ?_, by simp⟩
      apply g53_l2_of
      unfold b53_l2
      rw [if_pos (by simp; omega)]
      unfold b53_r3
      simp [lget_nat, List.getElem?_eq_getElem hi, g44_val, hs]
    · rw [if_neg hs]
      refine ⟨n, ?_, h2⟩
      apply g53_l2_of
      unfold b53_l2
      rw [if_pos (by simp; omega)]
      unfold b53_r3
      simp only [lget_nat, List.getElem?_eq_getElem hi, g44_val, Option.bind_some, if_neg hs, b53_r6]
      rw [wrap1 (by omega) (by omega), show ((i : Int) + 1) = ((i + 1 : Nat) : Int) by omega]
      exact h1

/-- Is a number twice in a delta? -/
theorem g29_val (d : N2.Srule_Delta) (h1 : d.Put.length ≤ 1000000) (h2 : d.Drop.length ≤ 1000000) : g29 d = some (!decide (ids d.Put ++ d.Drop).Nodup) := by
  obtain ⟨n, e1, e2⟩ := g52v1_loop d.Put h1 d.Put.length 0 [] (by omega)
  have h52 : g52v1 d.Put [] = some (n, (scanM (ids d.Put) []).2) := g52v1_of _ _ (by unfold b52v1; exact e1)
  have h42 : g42v1 d.Put [] = some ((scanM (ids d.Put) []).1, (scanM (ids d.Put) []).2) := g42v1_of _ _ (by unfold b42v1; rw [h52]; simpa using e2)
  obtain ⟨k, f1, f2⟩ := g53_loop d.Drop h2 d.Drop.length 0 (scanM (ids d.Put) []).2 (by omega)
  have h53 : g53 d.Drop (scanM (ids d.Put) []).2 = some (k, (scanM d.Drop (scanM (ids d.Put) []).2).2) := g53_of _ _ (by unfold b53; exact f1)
  have h46 : g46 d.Drop (scanM (ids d.Put) []).2 = some ((scanM d.Drop (scanM (ids d.Put) []).2).1, (scanM d.Drop (scanM (ids d.Put) []).2).2) := g46_of _ _ (by unfold b46; rw [h53]; simpa using f2)
  obtain ⟨s1, s2⟩ := scanM_spec (ids d.Put) [] [] (by simp [getM])
  simp only [List.not_mem_nil, not_false_eq_true, implies_true, and_true, or_false] at s1 s2
  apply g29_of
  unfold b29
  rw [h42]
  simp only [Option.bind_some]
  cases hs : (scanM (ids d.Put) []).1 with
  | true =>
    have h : ¬ (ids d.Put).Nodup := fun h => by rw [hs, decide_eq_true h] at s1; cases s1
    have : ¬ (ids d.Put ++ d.Drop).Nodup := fun h' => h (List.nodup_append.1 h').1
    rw [decide_eq_false this]
    rfl
  | false =>
    have hn : (ids d.Put).Nodup := by
      rw [hs] at s1
      simpa using s1
    rw [h46]
    obtain ⟨t1, _⟩ := scanM_spec d.Drop _ (ids d.Put) (s2 hs)
    simp only [Bool.false_eq_true, if_false, Option.bind_some, t1]
    congr 3
    apply propext
    rw [List.nodup_append]
    constructor
    · rintro ⟨a, b⟩
      exact ⟨hn, a, fun x hx y hy e => b y hy (e ▸ hx)⟩
    · rintro ⟨_, a, b⟩
      exact ⟨a, fun x hx h => b x h x hx rfl⟩
end N2
end Go.Proofs.Ytbmmhbpalkepeaa
end

section
set_option linter.unusedSimpArgs false
set_option linter.unusedVariables false
/- Layer 7 in plain terms: Apply, by its map. Conditions: none. -/
namespace Go.Proofs.Ytbmmhbpalkepeaa
open Go Go.Abs

abbrev MR := List (Int × N2.Srule_Rule)
def zR : N2.Srule_Rule := N2.Srule_Rule.mk 0 0 0 0 (ByteArray.mk #[])
def zS : N2.Srule_Set := N2.Srule_Set.mk 0 0 0 0 []
def mput (m : MR) (l : List N2.Srule_Rule) : MR := l.foldl (fun m r => putM m r.ID r) m
/-- Numbers, taken away one after the other; none: one isn't there. -/
def mdrop : List Int → MR → Option MR
  | [], m => some m
  | i :: l, m => if (getM m i).isSome = true then mdrop l (delM m i) else none
def keysI (m : MR) : List Int := (m.map (·.1)).mergeSort (fun a b => decide (a ≤ b))
def orI (a b : Int) : Int := if a = -1 then b else a

/-- Keys that are rules' numbers. -/
def okK (m : MR) : Prop := ∀ q ∈ m, 1 ≤ q.1 ∧ q.1 ≤ 1099511627776
theorem okK_put {m : MR} (h : okK m) {n : Int} (y : N2.Srule_Rule) (hn : 1 ≤ n ∧ n ≤ 1099511627776) : okK (putM m n y) := by
  induction m with
  | nil => intro q hq; simp [putM] at hq; subst hq; exact hn
  | cons p r ih =>
    rw [putM]
    have hr : okK r := fun q hq => h q (by simp [hq])
    split
    · intro q hq
      rcases List.mem_cons.1 hq with rfl | hq
      · exact hn
      · exact hr q hq
    · intro q hq
      rcases List.mem_cons.1 hq with rfl | hq
      · exact h _ (by simp)
      · exact ih hr q hq
theorem okK_del {m : MR} (h : okK m) (n : Int) : okK (delM m n) := by
  induction m with
  | nil => exact h
  | cons p r ih =>
    have hr : okK r := fun q hq => h q (by simp [hq])
    rw [delM]
    split
    · exact hr
    · intro q hq
      rcases List.mem_cons.1 hq with rfl | hq
      · exact h _ (by simp)
      · exact ih hr q hq
theorem okR_id {r : N2.Srule_Rule} (h : okR r = true) : 1 ≤ r.ID ∧ r.ID ≤ 1099511627776 := by
  unfold okR at h
  simp only [decide_eq_true_eq] at h
  omega
theorem okK_mput : ∀ {l : List N2.Srule_Rule} {m : MR}, okK m → l.all okR = true → okK (mput m l)
  | [], _, h, _ => h
  | r :: l, m, h, hl => by
    simp only [List.all_cons, Bool.and_eq_true] at hl
    exact okK_mput (l := l) (okK_put h r (okR_id hl.1)) hl.2
theorem okK_drop : ∀ {l : List Int} {m m' : MR}, okK m → mdrop l m = some m' → okK m'
  | [], m, m', h, e => by simp [mdrop] at e; subst e; exact h
  | i :: l, m, m', h, e => by
    unfold mdrop at e
    split at e
    · exact okK_drop (okK_del h i) e
    · simp at e
theorem asc_all : ∀ {l : List N2.Srule_Rule} {n : Int}, asc n l = true → l.all okR = true
  | [], n, _ => rfl
  | r :: l, n, h => by
    simp only [asc, Bool.and_eq_true] at h
    simp [h.1.1, asc_all h.2]
theorem okS_all {s : N2.Srule_Set} (h : okS s = true) : s.Rules.all okR = true := by
  unfold okS at h
  simp only [Bool.and_eq_true] at h
  exact asc_all h.2

namespace N2
theorem g26_val (a b : Int) : g26 a b = some (orI a b) := g26_of _ _ (by unfold b26 orI; by_cases h : a = -1 <;> simp [h])
theorem g26v1_val (a b : Int) : g26v1 a b = some (orI a b) := g26v1_of _ _ (by unfold b26v1 orI; by_cases h : a = -1 <;> simp [h])
theorem g26v2_val (a b : Int) : g26v2 a b = some (orI a b) := g26v2_of _ _ (by unfold b26v2 orI; by_cases h : a = -1 <;> simp [h])
theorem g26v3_val (a b : Int) : g26v3 a b = some (orI a b) := g26v3_of _ _ (by unfold b26v3 orI; by_cases h : a = -1 <;> simp [h])
theorem g31_val : g31 = some () := g31_of rfl

theorem keysOf_enc (m : MR) : keysOf (m.map (encM e_Srule_Rule)) = keysI m := by
  unfold keysOf keysI
  rw [List.map_map]
  rfl

theorem g30_val (m : MR) (h : m.length ≤ 1048576) (hk : okK m) : g30 m = some (keysI m) := by
  apply pick_of (fun _ _ ha hb => RRun.uniq (Q30_u m) ha hb)
  have e : EE 30 [(.clo 49 [] [(.ptr 0 0)])] [[(.mp 1)], [(.md (m.map (encM e_Srule_Rule)))]] = some ((.p (.lst .sh ((keysI m).map (eI .i64)))), [[(.mp 1)], [(.md (m.map (encM e_Srule_Rule)))]]) := by
    rw [show EE 30 = E PP XX HH 30 from rfl, E_ext (P := PP) (X := XX) (H := HH) (f := 30) (m := xSorted) (by kernel_rfl)]
    have : xSorted [(.clo 49 [] [(.ptr 0 0)])] [[(.mp 1)], [(.md (m.map (encM e_Srule_Rule)))]] = if (m.map (encM e_Srule_Rule)).length ≤ 1048576 ∧ (∀ q ∈ m.map (encM e_Srule_Rule), -9223372036854775808 ≤ q.1 ∧ q.1 ≤ 9223372036854775807) then some (.p (.lst .sh ((keysOf (m.map (encM e_Srule_Rule))).map fun n => .v (.int .i64 n))), [[(.mp 1)], [(.md (m.map (encM e_Srule_Rule)))]]) else none := rfl
    have hr : ∀ q ∈ m.map (encM e_Srule_Rule), -9223372036854775808 ≤ q.1 ∧ q.1 ≤ 9223372036854775807 := by
      intro q hq
      obtain ⟨p, hp, rfl⟩ := List.mem_map.1 hq
      have := hk p hp
      show -9223372036854775808 ≤ p.1 ∧ p.1 ≤ 9223372036854775807
      omega
    rw [this, if_pos ⟨by simpa using h, hr⟩, keysOf_enc]
    rfl
  exact ⟨_, e, [], by simp⟩

theorem g12_l14_run (d : N2.Srule_Delta) (n1 n2 n3 n4 : Int) (L : List N2.Srule_Rule) (hl : L.length ≤ 1000000) {r : N2.Srule_Set × Int} : ∀ (k i : Nat) (m : MR), i + k = L.length →
    b12_r18 d n1 n2 n3 n4 (mput m (L.drop i)) = some r → g12_l14 L (L.length : Int) (i : Int) d n1 n2 n3 n4 m = some r := by
  intro k
  induction k with
  | zero =>
    intro i m h hr
    rw [List.drop_of_length_le (by omega)] at hr
    apply g12_l14_of
    unfold b12_l14
    rw [if_neg (by simp; omega)]
    exact hr
  | succ k ih =>
    intro i m h hr
    have hi : i < L.length := by omega
    rw [List.drop_eq_getElem_cons hi] at hr
    apply g12_l14_of
    unfold b12_l14
    rw [if_pos (by simp; omega)]
    unfold b12_r15
    rw [lget_nat, List.getElem?_eq_getElem hi, wrap1 (by omega) (by omega), show ((i : Int) + 1) = ((i + 1 : Nat) : Int) by omega]
    exact ih (i + 1) _ (by omega) hr

theorem g12_l27_run (n1 n2 n3 n4 : Int) (L : List N2.Srule_Rule) (hl : L.length ≤ 1000000) {r : N2.Srule_Set × Int} : ∀ (k i : Nat) (m : MR), i + k = L.length →
    b12_r31 n1 n2 n3 n4 (mput m (L.drop i)) = some r → g12_l27 L (L.length : Int) (i : Int) n1 n2 n3 n4 m = some r := by
  intro k
  induction k with
  | zero =>
    intro i m h hr
    rw [List.drop_of_length_le (by omega)] at hr
    apply g12_l27_of
    unfold b12_l27
    rw [if_neg (by simp; omega)]
    exact hr
  | succ k ih =>
    intro i m h hr
    have hi : i < L.length := by omega
    rw [List.drop_eq_getElem_cons hi] at hr
    apply g12_l27_of
    unfold b12_l27
    rw [if_pos (by simp; omega)]
    unfold b12_r28
    rw [lget_nat, List.getElem?_eq_getElem hi, wrap1 (by omega) (by omega), show ((i : Int) + 1) = ((i + 1 : Nat) : Int) by omega]
    exact ih (i + 1) _ (by omega) hr

theorem g12_l19_run (d : N2.Srule_Delta) (n1 n2 n3 n4 : Int) (L : List Int) (hl : L.length ≤ 1000000) {r : N2.Srule_Set × Int} : ∀ (k i : Nat) (m : MR), i + k = L.length →
    (match mdrop (L.drop i) m with | some m => b12_r26 d n1 n2 n3 n4 m | none => some (zS, 32)) = some r → g12_l19 L (L.length : Int) (i : Int) d n1 n2 n3 n4 m = some r := by
  intro k
  induction k with
  | zero =>
    intro i m h hr
    rw [List.drop_of_length_le (by omega)] at hr
    apply g12_l19_of
    unfold b12_l19
    rw [if_neg (by simp; omega)]
    exact hr
  | succ k ih =>
    intro i m h hr
    have hi : i < L.length := by omega
    rw [List.drop_eq_getElem_cons hi] at hr
    apply g12_l19_of
    unfold b12_l19
    rw [if_pos (by simp; omega)]
    unfold b12_r20
    rw [lget_nat, List.getElem?_eq_getElem hi]
    simp only [Option.bind_some, b12_r24, b12_r25]
    unfold mdrop at hr
    cases hg : (getM m L[i]).isSome with
    | false => rw [hg] at hr; exact hr
    | true =>
      rw [hg] at hr
      simp only [if_true] at hr
      simp only [Bool.not_true, Bool.false_eq_true, if_false]
      rw [wrap1 (by omega) (by omega), show ((i : Int) + 1) = ((i + 1 : Nat) : Int) by omega]
      exact ih (i + 1) _ (by omega) hr

theorem lapp_one {α : Type} (l : List α) (a : α) (h : l.length ≤ 1000000000) : lapp l [a] = some (l ++ [a]) := by
  unfold lapp
  rw [if_pos (by simp [lim]; omega)]

theorem g12_l35_run (n1 n2 n3 n4 : Int) (m : MR) (K : List Int) (hl : K.length ≤ 1000000) : ∀ (k i : Nat) (out : List N2.Srule_Rule), i + k = K.length → out.length ≤ i →
    g12_l35 K (K.length : Int) (i : Int) n1 n2 n3 n4 out m = some (⟨n1, n2, n3, n4, out ++ (K.drop i).map fun n => (getM m n).getD zR⟩, 0) := by
  intro k
  induction k with
  | zero =>
    intro i out h ho
    rw [List.drop_of_length_le (by omega)]
    apply g12_l35_of
    unfold b12_l35
    rw [if_neg (by simp; omega)]
    simp [b12_r39]
  | succ k ih =>
    intro i out h ho
    have hi : i < K.length := by omega
    rw [List.drop_eq_getElem_cons hi]
    apply g12_l35_of
    unfold b12_l35
    rw [if_pos (by simp; omega)]
    unfold b12_r36
    rw [lget_nat, List.getElem?_eq_getElem hi]
    simp only [Option.bind_some]
    rw [lapp_one _ _ (by omega)]
    simp only [Option.bind_some]
    rw [wrap1 (by omega) (by omega), show ((i : Int) + 1) = ((i + 1 : Nat) : Int) by omega, ih (i + 1) _ (by omega) (by simp; omega), List.map_cons, List.append_assoc, List.singleton_append]
    rfl

/-- What Apply comes to, by its map. -/
def applyM (s : N2.Srule_Set) (d : N2.Srule_Delta) : N2.Srule_Set × Int :=
  if okS s = false then (zS, 10) else
  if okN (orI d.Default s.Default) (orI d.Closed s.Closed) (orI d.Fuel s.Fuel) (orI d.Stack s.Stack) = false ∨ d.Put.all okR = false then (zS, 30) else
  if ¬ (ids d.Put ++ d.Drop).Nodup then (zS, 31) else
  match mdrop d.Drop (mput [] s.Rules) with
  | none => (zS, 32)
  | some m =>
    if 16 < (mput m d.Put).length then (zS, 33) else
    (⟨orI d.Default s.Default, orI d.Closed s.Closed, orI d.Fuel s.Fuel, orI d.Stack s.Stack, (keysI (mput m d.Put)).map fun n => (getM (mput m d.Put) n).getD zR⟩, 0)

theorem okS_len {s : N2.Srule_Set} (h : okS s = true) : s.Rules.length ≤ 16 := by
  unfold okS at h
  simp only [Bool.and_eq_true, decide_eq_true_eq] at h
  exact h.1.2

theorem keysI_len (m : MR) : (keysI m).length = m.length := by unfold keysI; simp

theorem g12_val (s : N2.Srule_Set) (d : N2.Srule_Delta) (h1 : d.Put.length ≤ 1000000) (h2 : d.Drop.length ≤ 1000000) : g12 s d = some (applyM s d) := by
  apply g12_of
  unfold b12 applyM
  rw [g16_val]
  simp only [Option.bind_some]
  cases hs : okS s with
  | false => rfl
  | true =>
    have hlen := okS_len hs
    simp only [Bool.not_true, Bool.false_eq_true, if_false, Bool.true_eq_false]
    unfold b12_r3
    simp only [g26_val, g26v1_val, g26v2_val, g26v3_val, g27_val, Option.bind_some, g28_val _ h1, b12_r9]
    cases hn : okN (orI d.Default s.Default) (orI d.Closed s.Closed) (orI d.Fuel s.Fuel) (orI d.Stack s.Stack) with
    | false => rfl
    | true =>
      simp only [Bool.not_true, Bool.false_eq_true, if_false, Bool.true_eq_false, false_or]
      cases hp : d.Put.all okR with
      | false => rfl
      | true =>
        simp only [Bool.not_true, Bool.false_eq_true, if_false, Bool.true_eq_false]
        unfold b12_r10
        rw [g29_val d h1 h2]
        simp only [Option.bind_some]
        by_cases ht : (ids d.Put ++ d.Drop).Nodup
        · simp only [decide_eq_true ht, Bool.not_true, Bool.false_eq_true, if_false, ht, not_true]
          unfold b12_r12
          refine g12_l14_run d _ _ _ _ s.Rules (by omega) s.Rules.length 0 [] (by omega) ?_
          unfold b12_r18
          refine g12_l19_run d _ _ _ _ d.Drop h2 d.Drop.length 0 _ (by omega) ?_
          simp only [List.drop_zero]
          cases hm : mdrop d.Drop (mput [] s.Rules) with
          | none => rfl
          | some m =>
            simp only
            unfold b12_r26
            refine g12_l27_run _ _ _ _ d.Put h1 d.Put.length 0 _ (by omega) ?_
            simp only [List.drop_zero]
            unfold b12_r31
            by_cases hc : 16 < (mput m d.Put).length
            · rw [if_pos (by simp; omega), if_pos hc]; rfl
            · rw [if_neg (by simp; omega), if_neg hc]
              unfold b12_r33
              rw [g31_val, g30_val _ (by omega) (okK_mput (okK_drop (okK_mput (m := []) (fun q hq => by simp at hq) (okS_all hs)) hm) hp)]
              simp only [Option.bind_some]
              have hk : (keysI (mput m d.Put)).length ≤ 1000000 := by rw [keysI_len]; omega
              have := g12_l35_run (orI d.Default s.Default) (orI d.Closed s.Closed) (orI d.Fuel s.Fuel) (orI d.Stack s.Stack) (mput m d.Put) (keysI (mput m d.Put)) hk (keysI (mput m d.Put)).length 0 [] (by omega) (by simp)
              simpa using this
        · simp only [decide_eq_false ht, Bool.not_false, if_true, ht, not_false_eq_true]
          rfl
end N2
end Go.Proofs.Ytbmmhbpalkepeaa
end

section
set_option linter.unusedSimpArgs false
set_option linter.unusedVariables false
/- Layer 7 in plain terms: Apply, by its lists. Conditions: none. -/
namespace Go.Proofs.Ytbmmhbpalkepeaa
open Go Go.Abs

def getL (l : List N2.Srule_Rule) (n : Int) : Option N2.Srule_Rule := l.find? fun r => r.ID == n
/-- A rule among others, by its number. -/
def putL : List N2.Srule_Rule → N2.Srule_Rule → List N2.Srule_Rule
  | [], r => [r]
  | x :: t, r => if x.ID < r.ID then x :: putL t r else r :: (x :: t).filter fun y => y.ID != r.ID
abbrev Sorted (l : List N2.Srule_Rule) : Prop := l.Pairwise fun a b => a.ID < b.ID

theorem getL_cons (x : N2.Srule_Rule) (t : List N2.Srule_Rule) (n : Int) : getL (x :: t) n = if x.ID = n then some x else getL t n := by
  unfold getL
  rw [List.find?_cons]
  by_cases h : x.ID = n
  · simp [h]
  · have : (x.ID == n) = false := by simpa using h
    rw [this, if_neg h]

theorem getL_filter_ne (l : List N2.Srule_Rule) (k n : Int) : getL (l.filter fun y => y.ID != k) n = if n = k then none else getL l n := by
  induction l with
  | nil => simp [getL]
  | cons x t ih =>
    by_cases hx : x.ID = k
    · rw [List.filter_cons_of_neg (by simp [hx]), ih, getL_cons]
      by_cases hn : n = k
      · rw [if_pos hn, if_pos hn]
      · rw [if_neg hn, if_neg hn, if_neg (fun e => hn (by rw [← e, hx]))]
    · rw [List.filter_cons_of_pos (by simp [hx]), getL_cons, ih, getL_cons]
      by_cases hn : n = k
      · rw [if_pos hn, if_pos hn, if_neg (fun e => hx (e.trans hn))]
      · rw [if_neg hn, if_neg hn]

theorem getL_putL (l : List N2.Srule_Rule) (r : N2.Srule_Rule) (n : Int) : getL (putL l r) n = if n = r.ID then some r else getL l n := by
  induction l with
  | nil =>
    rw [putL, getL_cons]
    by_cases h : r.ID = n
    · rw [if_pos h, if_pos h.symm]
    · rw [if_neg h, if_neg fun e => h e.symm]
  | cons x t ih =>
    rw [putL]
    split
    · rename_i hx
      rw [getL_cons, ih, getL_cons]
      by_cases hn : n = r.ID
      · rw [if_pos hn, if_pos hn, if_neg (by omega)]
      · rw [if_neg hn, if_neg hn]
    · rw [getL_cons, getL_filter_ne]
      by_cases hn : n = r.ID
      · rw [if_pos hn.symm, if_pos hn]
      · rw [if_neg (fun e => hn e.symm), if_neg hn, if_neg hn]

theorem mem_putL {l : List N2.Srule_Rule} {r y : N2.Srule_Rule} (h : y ∈ putL l r) : y = r ∨ y ∈ l := by
  induction l with
  | nil => rw [putL] at h; simpa using h
  | cons x t ih =>
    rw [putL] at h
    split at h
    · rcases List.mem_cons.1 h with rfl | h
      · exact .inr (by simp)
      · rcases ih h with h | h
        · exact .inl h
        · exact .inr (by simp [h])
    · rcases List.mem_cons.1 h with h | h
      · exact .inl h
      · exact .inr (List.mem_filter.1 h).1

theorem sorted_putL {l : List N2.Srule_Rule} (h : Sorted l) (r : N2.Srule_Rule) : Sorted (putL l r) := by
  induction l with
  | nil => simp [putL, Sorted]
  | cons x t ih =>
    obtain ⟨h1, h2⟩ := List.pairwise_cons.1 h
    rw [putL]
    split
    · rename_i hx
      refine List.pairwise_cons.2 ⟨fun y hy => ?_, ih h2⟩
      rcases mem_putL hy with rfl | hy
      · exact hx
      · exact h1 y hy
    · rename_i hx
      refine List.pairwise_cons.2 ⟨fun y hy => ?_, h.filter _⟩
      obtain ⟨hy, hn⟩ := List.mem_filter.1 hy
      have hn : y.ID ≠ r.ID := by simpa using hn
      rcases List.mem_cons.1 hy with rfl | hy
      · omega
      · have := h1 y hy; omega

/-- A map stands for rules in their order. -/
structure RelM (m : MR) (l : List N2.Srule_Rule) : Prop where
  nodup : (m.map (·.1)).Nodup
  sorted : Sorted l
  get : ∀ n, getM m n = getL l n

theorem keys_put (m : MR) (n : Int) (y : N2.Srule_Rule) : ∀ k, k ∈ (putM m n y).map (·.1) ↔ k = n ∨ k ∈ m.map (·.1) := by
  intro k
  induction m with
  | nil => simp [putM]
  | cons q r ih =>
    rw [putM]
    split
    · rename_i h
      simp [h]
    · simp only [List.map_cons, List.mem_cons, ih]
      constructor
      · rintro (a | a | a)
        · exact .inr (.inl a)
        · exact .inl a
        · exact .inr (.inr a)
      · rintro (a | a | a)
        · exact .inr (.inl a)
        · exact .inl a
        · exact .inr (.inr a)

theorem nodup_put {m : MR} (h : (m.map (·.1)).Nodup) (n : Int) (y : N2.Srule_Rule) : ((putM m n y).map (·.1)).Nodup := by
  induction m with
  | nil => simp [putM]
  | cons q r ih =>
    simp only [List.map_cons, List.nodup_cons] at h
    rw [putM]
    split
    · rename_i hq
      simp only [List.map_cons, List.nodup_cons]
      exact ⟨hq ▸ h.1, h.2⟩
    · rename_i hq
      simp only [List.map_cons, List.nodup_cons]
      refine ⟨fun hk => ?_, ih h.2⟩
      rcases (keys_put r n y q.1).1 hk with e | e
      · exact hq e
      · exact h.1 e

theorem getM_none {m : MR} {n : Int} (h : n ∉ m.map (·.1)) : getM m n = none := by
  induction m with
  | nil => rfl
  | cons q r ih =>
    simp only [List.map_cons, List.mem_cons, not_or] at h
    rw [getM, if_neg (fun e => h.1 e.symm)]
    exact ih h.2
theorem getM_mem {m : MR} {n : Int} : (getM m n).isSome = true ↔ n ∈ m.map (·.1) := by
  induction m with
  | nil => simp [getM]
  | cons q r ih =>
    rw [getM]
    split
    · rename_i h; simp [h]
    · rename_i h
      rw [ih, List.map_cons, List.mem_cons]
      exact ⟨.inr, fun hh => hh.resolve_left fun e => h e.symm⟩

theorem del_sub (m : MR) (n : Int) : (delM m n).Sublist m := by
  induction m with
  | nil => exact .slnil
  | cons q r ih =>
    rw [delM]
    split
    · exact List.sublist_cons_self _ _
    · exact ih.cons_cons _

theorem getM_del {m : MR} (h : (m.map (·.1)).Nodup) (n k : Int) : getM (delM m n) k = if k = n then none else getM m k := by
  induction m with
  | nil => simp [delM, getM]
  | cons q r ih =>
    simp only [List.map_cons, List.nodup_cons] at h
    rw [delM]
    split
    · rename_i hq
      by_cases hk : k = n
      · rw [if_pos hk]; exact getM_none (by rw [hk, ← hq]; exact h.1)
      · rw [if_neg hk, getM, if_neg (by rw [hq]; exact fun e => hk e.symm)]
    · rename_i hq
      rw [getM, ih h.2, getM]
      by_cases hk : k = n
      · rw [if_pos hk, if_pos hk, if_neg (fun e => hq (e.trans hk))]
      · rw [if_neg hk, if_neg hk]

theorem RelM.nil : RelM [] [] := ⟨by simp, by simp [Sorted], fun _ => rfl⟩
theorem RelM.put {m : MR} {l : List N2.Srule_Rule} (h : RelM m l) (r : N2.Srule_Rule) : RelM (putM m r.ID r) (putL l r) :=
  ⟨nodup_put h.nodup _ _, sorted_putL h.sorted r, fun n => by rw [getM_put, getL_putL, h.get]⟩
theorem RelM.del {m : MR} {l : List N2.Srule_Rule} (h : RelM m l) (n : Int) : RelM (delM m n) (l.filter fun y => y.ID != n) :=
  ⟨h.nodup.sublist ((del_sub m n).map _), h.sorted.filter _, fun k => by rw [getM_del h.nodup, getL_filter_ne, h.get]⟩
theorem RelM.mput {m : MR} {l : List N2.Srule_Rule} (h : RelM m l) : ∀ (L : List N2.Srule_Rule), RelM (mput m L) (L.foldl putL l)
  | [] => h
  | r :: L => RelM.mput (h.put r) L

theorem getL_mem {l : List N2.Srule_Rule} {n : Int} : (getL l n).isSome = true ↔ n ∈ ids l := by
  induction l with
  | nil => simp [getL, ids]
  | cons x t ih =>
    rw [getL_cons]
    split
    · rename_i h; simp [ids, h]
    · rename_i h
      rw [ih]
      unfold ids
      rw [List.map_cons, List.mem_cons]
      exact ⟨.inr, fun hh => hh.resolve_left fun e => h e.symm⟩

theorem sorted_nodup {l : List N2.Srule_Rule} (h : Sorted l) : (ids l).Nodup := by
  unfold ids
  rw [List.nodup_iff_pairwise_ne, List.pairwise_map]
  exact h.imp fun h => by omega

theorem RelM.perm {m : MR} {l : List N2.Srule_Rule} (h : RelM m l) : (m.map (·.1)).Perm (ids l) := by
  rw [List.perm_ext_iff_of_nodup h.nodup (sorted_nodup h.sorted)]
  intro n
  rw [← getM_mem, h.get, getL_mem]
theorem RelM.length {m : MR} {l : List N2.Srule_Rule} (h : RelM m l) : m.length = l.length := by
  have := h.perm.length_eq
  simpa [ids] using this
theorem RelM.keys {m : MR} {l : List N2.Srule_Rule} (h : RelM m l) : keysI m = ids l := by
  refine List.Perm.eq_of_pairwise (le := fun a b => a ≤ b) (fun a b _ _ h1 h2 => by omega) ?_ ?_ ((List.mergeSort_perm _ _).trans h.perm)
  · have := List.pairwise_mergeSort (le := fun a b : Int => decide (a ≤ b)) (fun a b c h1 h2 => by simp at *; omega) (fun a b => by simp; omega) (m.map (·.1))
    exact this.imp fun h => by simpa using h
  · unfold ids
    rw [List.pairwise_map]
    exact h.sorted.imp fun h => by omega

theorem getL_self {l : List N2.Srule_Rule} (h : Sorted l) : ∀ r ∈ l, getL l r.ID = some r := by
  induction l with
  | nil => simp
  | cons x t ih =>
    obtain ⟨h1, h2⟩ := List.pairwise_cons.1 h
    intro r hr
    rw [getL_cons]
    rcases List.mem_cons.1 hr with rfl | hr
    · simp
    · rw [if_neg (by have := h1 r hr; omega)]
      exact ih h2 r hr

theorem RelM.vals {m : MR} {l : List N2.Srule_Rule} (h : RelM m l) : ((keysI m).map fun n => (getM m n).getD zR) = l := by
  rw [h.keys]
  unfold ids
  rw [List.map_map]
  conv => rhs; rw [← List.map_id l]
  apply List.map_congr_left
  intro r hr
  simp [h.get, getL_self h.sorted r hr]

/-- Numbers, taken away one after the other. -/
theorem mdrop_rel : ∀ (D : List Int) {m : MR} {l : List N2.Srule_Rule}, RelM m l → D.Nodup →
    (match mdrop D m with | none => ¬ ∀ n ∈ D, n ∈ ids l | some m' => (∀ n ∈ D, n ∈ ids l) ∧ RelM m' (l.filter fun y => !D.contains y.ID))
  | [], m, l, h, _ => ⟨by simp, by rw [List.filter_eq_self.2 (by simp)]; exact h⟩
  | i :: D, m, l, h, hn => by
    obtain ⟨h1, h2⟩ := List.nodup_cons.1 hn
    unfold mdrop
    by_cases hi : (getM m i).isSome = true
    · rw [if_pos hi]
      have ih := mdrop_rel D (h.del i) h2
      have hm : i ∈ ids l := by rw [h.get, getL_mem] at hi; exact hi
      have hk : (∀ n ∈ D, n ∈ ids (l.filter fun y => y.ID != i)) ↔ ∀ n ∈ D, n ∈ ids l := by
        constructor
        · intro hh n hd
          have := hh n hd
          unfold ids at *
          obtain ⟨y, hy, e⟩ := List.mem_map.1 this
          exact List.mem_map.2 ⟨y, (List.mem_filter.1 hy).1, e⟩
        · intro hh n hd
          have := hh n hd
          unfold ids at *
          obtain ⟨y, hy, e⟩ := List.mem_map.1 this
          refine List.mem_map.2 ⟨y, List.mem_filter.2 ⟨hy, ?_⟩, e⟩
          have : n ≠ i := fun e => h1 (e ▸ hd)
          simp only [bne_iff_ne, ne_eq, e]
          exact this
      cases hd : mdrop D (delM m i) with
      | none =>
        rw [hd] at ih
        intro hh
        exact ih (hk.2 fun n hn => hh n (by simp [hn]))
      | some m' =>
        rw [hd] at ih
        refine ⟨fun n hn => ?_, ?_⟩
        · rcases List.mem_cons.1 hn with rfl | hn
          · exact hm
          · exact hk.1 ih.1 n hn
        · have := ih.2
          rw [List.filter_filter] at this
          have e : (l.filter fun y => !(i :: D).contains y.ID) = l.filter fun a => (!D.contains a.ID) && (a.ID != i) := by
            apply List.filter_congr
            intro y _
            rw [List.contains_cons, Bool.not_or, Bool.and_comm]
            rfl
          rw [e]
          exact this
    · rw [if_neg hi]
      intro hh
      apply hi
      rw [h.get, getL_mem]
      exact hh i (by simp)

theorem asc_sorted : ∀ {l : List N2.Srule_Rule} {n : Int}, asc n l = true → Sorted l ∧ (∀ r ∈ l, n < r.ID) ∧ l.all okR = true
  | [], n, _ => ⟨.nil, by simp, rfl⟩
  | r :: l, n, h => by
    simp only [asc, Bool.and_eq_true, decide_eq_true_eq] at h
    obtain ⟨⟨h1, h2⟩, h3⟩ := h
    obtain ⟨a, b, c⟩ := asc_sorted h3
    refine ⟨List.pairwise_cons.2 ⟨b, a⟩, ?_, by simp [h1, c]⟩
    intro x hx
    rcases List.mem_cons.1 hx with rfl | hx
    · exact h2
    · have := b x hx; omega
theorem asc_of : ∀ {l : List N2.Srule_Rule} {n : Int}, Sorted l → (∀ r ∈ l, n < r.ID) → l.all okR = true → asc n l = true
  | [], n, _, _, _ => rfl
  | r :: l, n, h1, h2, h3 => by
    obtain ⟨a, b⟩ := List.pairwise_cons.1 h1
    simp only [List.all_cons, Bool.and_eq_true] at h3
    simp only [asc, Bool.and_eq_true, decide_eq_true_eq]
    exact ⟨⟨h3.1, h2 r (by simp)⟩, asc_of b a h3.2⟩

theorem putL_last {l : List N2.Srule_Rule} {r : N2.Srule_Rule} (h : ∀ x ∈ l, x.ID < r.ID) : putL l r = l ++ [r] := by
  induction l with
  | nil => rfl
  | cons x t ih => rw [putL, if_pos (h x (by simp)), ih fun y hy => h y (by simp [hy])]; rfl
theorem fold_last : ∀ {L l : List N2.Srule_Rule}, Sorted (l ++ L) → L.foldl putL l = l ++ L
  | [], l, _ => by simp
  | r :: L, l, h => by
    rw [List.foldl_cons, putL_last, fold_last]
    · simp
    · simpa using h
    · intro x hx
      exact (List.pairwise_append.1 h).2.2 x hx r (by simp)

/-- Apply, by its lists. -/
def applyL (s : N2.Srule_Set) (d : N2.Srule_Delta) : N2.Srule_Set × Int :=
  if okS s = false then (zS, 10) else
  if okN (orI d.Default s.Default) (orI d.Closed s.Closed) (orI d.Fuel s.Fuel) (orI d.Stack s.Stack) = false ∨ d.Put.all okR = false then (zS, 30) else
  if ¬ (ids d.Put ++ d.Drop).Nodup then (zS, 31) else
  if ¬ ∀ n ∈ d.Drop, n ∈ ids s.Rules then (zS, 32) else
  if 16 < (d.Put.foldl putL (s.Rules.filter fun y => !d.Drop.contains y.ID)).length then (zS, 33) else
  (⟨orI d.Default s.Default, orI d.Closed s.Closed, orI d.Fuel s.Fuel, orI d.Stack s.Stack, d.Put.foldl putL (s.Rules.filter fun y => !d.Drop.contains y.ID)⟩, 0)

theorem okS_sorted {s : N2.Srule_Set} (h : okS s = true) : Sorted s.Rules ∧ (∀ r ∈ s.Rules, 0 < r.ID) ∧ s.Rules.all okR = true := by
  unfold okS at h
  simp only [Bool.and_eq_true] at h
  exact asc_sorted h.2

theorem applyM_eq (s : N2.Srule_Set) (d : N2.Srule_Delta) : N2.applyM s d = applyL s d := by
  unfold N2.applyM applyL
  by_cases hs : okS s = false
  · rw [if_pos hs, if_pos hs]
  rw [if_neg hs, if_neg hs]
  by_cases hn : okN (orI d.Default s.Default) (orI d.Closed s.Closed) (orI d.Fuel s.Fuel) (orI d.Stack s.Stack) = false ∨ d.Put.all okR = false
  · rw [if_pos hn, if_pos hn]
  rw [if_neg hn, if_neg hn]
  by_cases ht : ¬ (ids d.Put ++ d.Drop).Nodup
  · rw [if_pos ht, if_pos ht]
  rw [if_neg ht, if_neg ht]
  have hd : d.Drop.Nodup := (List.nodup_append.1 (Classical.not_not.1 ht)).2.1
  obtain ⟨o1, _, _⟩ := okS_sorted (by simpa using hs)
  have hr : RelM (mput [] s.Rules) s.Rules := by
    have := RelM.nil.mput s.Rules
    rw [fold_last (by simpa using o1)] at this
    simpa using this
  have := mdrop_rel d.Drop hr hd
  cases hm : mdrop d.Drop (mput [] s.Rules) with
  | none =>
    rw [hm] at this
    rw [if_pos this]
  | some m =>
    rw [hm] at this
    rw [if_neg (fun h => h this.1)]
    have hp := this.2.mput d.Put
    simp only
    rw [hp.length, hp.vals]

theorem apply_val (s : N2.Srule_Set) (d : N2.Srule_Delta) (h1 : d.Put.length ≤ 1000000) (h2 : d.Drop.length ≤ 1000000) : N2.g12 s d = some (applyL s d) := by
  rw [N2.g12_val s d h1 h2, applyM_eq]
end Go.Proofs.Ytbmmhbpalkepeaa
end

section
set_option linter.unusedSimpArgs false
set_option linter.unusedVariables false
/- Layer 7 in plain terms: what is held against what; the anchor; RuleKeeps, RuleDrops. Conditions: none. -/
namespace Go.Proofs.Ytbmmhbpalkepeaa
open Go Go.Abs

def rS (s : N2.Srule_Set) : N2.Scolanderref07_Set := N2.Scolanderref07_Set.mk s.Default s.Closed s.Fuel s.Stack s.Rules

theorem seq_eq {a b : ByteArray} : seq a b = true ↔ a = b := by
  unfold seq
  rw [beq_iff_eq, ByteArray.toList_eq, ByteArray.toList_eq]
  obtain ⟨⟨x⟩⟩ := a
  obtain ⟨⟨y⟩⟩ := b
  simp
def eqR (a b : N2.Srule_Rule) : Bool := (a.ID == b.ID) && ((a.Priority == b.Priority) && ((a.Action == b.Action) && ((a.Scope == b.Scope) && ((seq a.Pattern b.Pattern) && true))))
theorem eqR_iff {a b : N2.Srule_Rule} : eqR a b = true ↔ a = b := by
  unfold eqR
  simp only [Bool.and_eq_true, beq_iff_eq, seq_eq, and_true]
  constructor
  · rintro ⟨h1, h2, h3, h4, h5⟩
    cases a; cases b
    simp only at h1 h2 h3 h4 h5
    subst h1; subst h2; subst h3; subst h4; subst h5
    rfl
  · rintro rfl
    exact ⟨rfl, rfl, rfl, rfl, rfl⟩

namespace N2
theorem g14_loop (n1 n2 n3 n4 : Int) (L : List N2.Srule_Rule) (hl : L.length ≤ 1000000) : ∀ (k i : Nat) (out : List N2.Srule_Rule), i + k = L.length → out.length ≤ i →
    g14_l3 L (L.length : Int) (i : Int) n1 n2 n3 n4 out = some ⟨n1, n2, n3, n4, out ++ L.drop i⟩ := by
  intro k
  induction k with
  | zero =>
    intro i out h ho
    rw [List.drop_of_length_le (by omega)]
    apply g14_l3_of
    unfold b14_l3
    rw [if_neg (by simp; omega)]
    simp [b14_r7]
  | succ k ih =>
    intro i out h ho
    have hi : i < L.length := by omega
    rw [List.drop_eq_getElem_cons hi]
    apply g14_l3_of
    unfold b14_l3
    rw [if_pos (by simp; omega)]
    unfold b14_r4
    rw [lget_nat, List.getElem?_eq_getElem hi]
    simp only [Option.bind_some]
    rw [lapp_one _ _ (by omega)]
    simp only [Option.bind_some]
    rw [wrap1 (by omega) (by omega), show ((i : Int) + 1) = ((i + 1 : Nat) : Int) by omega, ih (i + 1) _ (by omega) (by simp; omega), List.append_assoc, List.singleton_append]
theorem g14_val (s : N2.Srule_Set) (h : s.Rules.length ≤ 1000000) : g14 s = some (rS s) := by
  apply g14_of
  unfold b14
  have := g14_loop s.Default s.Closed s.Fuel s.Stack s.Rules h s.Rules.length 0 [] (by omega) (by simp)
  simpa [rS] using this

theorem g13_loop (x y : N2.Scolanderref07_Set) (hx : x.Rules.length ≤ 1000000) (hy : y.Rules.length = x.Rules.length) : ∀ (k i : Nat), i + k = x.Rules.length →
    ∃ b, g13_l4 (i : Int) x y = some b ∧ (b = true ↔ x.Rules.drop i = y.Rules.drop i) := by
  intro k
  induction k with
  | zero =>
    intro i h
    rw [List.drop_of_length_le (by omega), List.drop_of_length_le (by omega)]
    refine ⟨true, ?_, by simp⟩
    apply g13_l4_of
    unfold b13_l4
    rw [if_neg (by simp; omega)]
    rfl
  | succ k ih =>
    intro i h
    have hi : i < x.Rules.length := by omega
    have hj : i < y.Rules.length := by omega
    obtain ⟨b, h1, h2⟩ := ih (i + 1) (by omega)
    by_cases he : x.Rules[i] = y.Rules[i]
    · refine ⟨b, ?_, ?_⟩
      · apply g13_l4_of
        unfold b13_l4
        rw [if_pos (by simp; omega)]
        unfold b13_r6
        rw [lget_nat, List.getElem?_eq_getElem hi, lget_nat, List.getElem?_eq_getElem hj]
        simp only [Option.bind_some]
        have := eqR_iff.2 he
        unfold eqR at this
        rw [this]
        simp only [Bool.not_true, Bool.false_eq_true, if_false, b13_r5]
        rw [wrap1 (by omega) (by omega), show ((i : Int) + 1) = ((i + 1 : Nat) : Int) by omega]
        exact h1
      · rw [h2, List.drop_eq_getElem_cons hi, List.drop_eq_getElem_cons hj, he, List.cons_inj_right]
    · refine ⟨false, ?_, ?_⟩
      · apply g13_l4_of
        unfold b13_l4
        rw [if_pos (by simp; omega)]
        unfold b13_r6
        rw [lget_nat, List.getElem?_eq_getElem hi, lget_nat, List.getElem?_eq_getElem hj]
        simp only [Option.bind_some]
        have : eqR x.Rules[i] y.Rules[i] = false := by
          cases hq : eqR x.Rules[i] y.Rules[i] with
          | false => rfl
          | true => exact absurd (eqR_iff.1 hq) he
        unfold eqR at this
        rw [this]
        rfl
      · rw [List.drop_eq_getElem_cons hi, List.drop_eq_getElem_cons hj]
        simp only [Bool.false_eq_true, List.cons.injEq, false_iff, not_and]
        intro e
        exact absurd e he

theorem g13_val (x y : N2.Scolanderref07_Set) (hx : x.Rules.length ≤ 1000000) : ∃ b, g13 x y = some b ∧ (b = true ↔ x = y) := by
  have hxy : x = y ↔ x.Default = y.Default ∧ x.Closed = y.Closed ∧ x.Fuel = y.Fuel ∧ x.Stack = y.Stack ∧ x.Rules = y.Rules := by
    cases x; cases y; simp
  by_cases h1 : x.Default = y.Default
  case neg => exact ⟨false, g13_of _ _ (by unfold b13; rw [if_pos (by simpa using h1)]; rfl), by simp [hxy, h1]⟩
  by_cases h2 : x.Closed = y.Closed
  case neg => exact ⟨false, g13_of _ _ (by unfold b13; rw [if_neg (by simpa using h1), if_pos (by simpa using h2)]; rfl), by simp [hxy, h2]⟩
  by_cases h3 : x.Fuel = y.Fuel
  case neg => exact ⟨false, g13_of _ _ (by unfold b13; rw [if_neg (by simpa using h1), if_neg (by simpa using h2), if_pos (by simpa using h3)]; rfl), by simp [hxy, h3]⟩
  by_cases h4 : x.Stack = y.Stack
  case neg => exact ⟨false, g13_of _ _ (by unfold b13; rw [if_neg (by simpa using h1), if_neg (by simpa using h2), if_neg (by simpa using h3), if_pos (by simpa using h4)]; rfl), by simp [hxy, h4]⟩
  by_cases h5 : x.Rules.length = y.Rules.length
  case neg =>
    exact ⟨false, g13_of _ _ (by unfold b13; rw [if_neg (by simpa using h1), if_neg (by simpa using h2), if_neg (by simpa using h3), if_neg (by simpa using h4), if_pos (by simp; omega)]; rfl),
      by simp only [hxy]; simp; intro _ _ _ _ e; exact absurd (congrArg List.length e) h5⟩
  obtain ⟨b, e1, e2⟩ := g13_loop x y hx h5.symm x.Rules.length 0 (by omega)
  refine ⟨b, g13_of _ _ ?_, ?_⟩
  · unfold b13
    rw [if_neg (by simpa using h1), if_neg (by simpa using h2), if_neg (by simpa using h3), if_neg (by simpa using h4), if_neg (by simp; omega)]
    exact e1
  · rw [e2, hxy]; simp [h1, h2, h3, h4]

theorem g13_self (x : N2.Scolanderref07_Set) (hx : x.Rules.length ≤ 1000000) : g13 x x = some true := by
  obtain ⟨b, h1, h2⟩ := g13_val x x hx
  rw [h1, h2.2 rfl]

theorem g20_loop (n : Int) (L : List N2.Srule_Rule) (hl : L.length ≤ 1000000) : ∀ (k i : Nat), i + k = L.length → g20_l2 n L (L.length : Int) (i : Int) = some (match getL (L.drop i) n with | some r => (r, true) | none => (zR, false)) := by
  intro k
  induction k with
  | zero =>
    intro i h
    rw [List.drop_of_length_le (by omega)]
    apply g20_l2_of
    unfold b20_l2
    rw [if_neg (by simp; omega)]
    rfl
  | succ k ih =>
    intro i h
    have hi : i < L.length := by omega
    rw [List.drop_eq_getElem_cons hi]
    apply g20_l2_of
    unfold b20_l2
    rw [if_pos (by simp; omega)]
    unfold b20_r3
    rw [lget_nat, List.getElem?_eq_getElem hi, getL_cons]
    simp only [Option.bind_some]
    by_cases hh : L[i].ID = n
    · rw [if_pos hh, if_pos (by simpa using hh)]
    · rw [if_neg hh, if_neg (by simpa using hh)]
      unfold b20_r6
      rw [wrap1 (by omega) (by omega), show ((i : Int) + 1) = ((i + 1 : Nat) : Int) by omega]
      exact ih (i + 1) (by omega)
theorem g20_val (s : N2.Srule_Set) (n : Int) (hl : s.Rules.length ≤ 1000000) : g20 s n = some (match getL s.Rules n with | some r => (r, true) | none => (zR, false)) := by
  apply g20_of
  unfold b20
  exact g20_loop n s.Rules hl s.Rules.length 0 (by omega)

/-- The document's example. -/
theorem g10_val : g10 = some true := by
  apply g10_of
  unfold b10
  have h25 : g25 = some ⟨0, 255, 10000, 500, []⟩ := g25_of rfl
  rw [h25]
  simp only [Option.bind_some]
  rw [apply_val _ _ (by simp) (by simp)]
  have : applyL ⟨0, 255, 10000, 500, []⟩ ⟨-1, 7, -1, -1, [⟨3, 0, 0, 1, ByteArray.mk #[97]⟩], []⟩ = (⟨0, 7, 10000, 500, [⟨3, 0, 0, 1, ByteArray.mk #[97]⟩]⟩, 0) := by kernel_rfl
  rw [this]
  rfl

theorem nodup_self (l : List N2.Srule_Rule) (h : Sorted l) : (ids l ++ []).Nodup := by simpa using sorted_nodup h

theorem filter_self (l : List N2.Srule_Rule) : (l.filter fun y => !([] : List Int).contains y.ID) = l := List.filter_eq_self.2 (by simp)

theorem putL_same : ∀ {l : List N2.Srule_Rule} {r : N2.Srule_Rule}, Sorted l → r ∈ l → putL l r = l
  | [], _, _, h => by simp at h
  | x :: t, r, hs, h => by
    obtain ⟨h1, h2⟩ := List.pairwise_cons.1 hs
    rw [putL]
    rcases List.mem_cons.1 h with rfl | h
    · rw [if_neg (by omega), List.filter_cons_of_neg (by simp), List.filter_eq_self.2]
      intro y hy
      have := h1 y hy
      simp
      omega
    · rw [if_pos (h1 r h), putL_same h2 h]
theorem fold_same {l : List N2.Srule_Rule} (hs : Sorted l) : ∀ (L : List N2.Srule_Rule), (∀ r ∈ L, r ∈ l) → L.foldl putL l = l
  | [], _ => rfl
  | r :: L, h => by
    rw [List.foldl_cons, putL_same hs (h r (by simp))]
    exact fold_same hs L fun x hx => h x (by simp [hx])

theorem orI_keep (a : Int) : orI (-1) a = a := rfl
theorem okS_okN {s : N2.Srule_Set} (h : okS s = true) : okN s.Default s.Closed s.Fuel s.Stack = true := by
  unfold okS at h
  simp only [Bool.and_eq_true] at h
  exact h.1.1

/-- A delta of nothing but rules that are there. -/
theorem apply_keep (s : N2.Srule_Set) (P : List N2.Srule_Rule) (hs : okS s = true) (hP : ∀ r ∈ P, r ∈ s.Rules) (hn : (ids P).Nodup) : applyL s ⟨-1, -1, -1, -1, P, []⟩ = (s, 0) := by
  obtain ⟨o1, o2, o3⟩ := okS_sorted hs
  unfold applyL
  have hp : P.all okR = true := by
    rw [List.all_eq_true]
    intro r hr
    exact List.all_eq_true.1 o3 r (hP r hr)
  simp only [hs, orI_keep, okS_okN hs, hp, Bool.true_eq_false, false_or, if_false, List.append_nil, hn, not_true, filter_self, fold_same o1 P hP]
  rw [if_neg (by simp), if_neg (by have := okS_len hs; omega)]

theorem g5_val (s : N2.Srule_Set) : g5 s = some true := by
  apply g5_of
  unfold b5
  rw [g10_val]
  simp only [Option.bind_some, Bool.not_true, Bool.false_eq_true, if_false]
  unfold b5_r3
  by_cases h40 : 40 < (s.Rules.length : Int)
  · rw [if_pos (by simpa using h40)]
  rw [if_neg (by simpa using h40)]
  unfold b5_r5
  rw [apply_val _ _ (by simp) (by simp), apply_val _ _ (by simp; omega) (by simp), g16_val]
  simp only [Option.bind_some]
  cases hs : okS s with
  | false =>
    have e : ∀ d, applyL s d = (zS, 10) := fun d => by unfold applyL; rw [if_pos hs]
    rw [e, e]
    rfl
  | true =>
    obtain ⟨o1, _, _⟩ := okS_sorted hs
    rw [apply_keep s [] hs (by simp) (by simp [ids]), apply_keep s s.Rules hs (fun _ h => h) (sorted_nodup o1)]
    simp only [Bool.not_true, Bool.false_eq_true, if_false]
    unfold b5_r11
    rw [g14_val s (by omega)]
    simp only [Option.bind_some, beq_self_eq_true, if_true]
    rw [g13_self _ (by show s.Rules.length ≤ _; omega)]
    rfl
end N2
end Go.Proofs.Ytbmmhbpalkepeaa
end
