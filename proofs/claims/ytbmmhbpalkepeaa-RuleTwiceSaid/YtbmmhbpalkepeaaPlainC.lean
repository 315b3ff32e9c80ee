/- Layer 7 in plain words: the document's Right; Diff; RuleDiffs. No condition. -/
import Derived.Test.YtbmmhbpalkepeaaPlainB

section
set_option linter.unusedSimpArgs false
set_option linter.unusedVariables false
/- Layer 7 in plain terms: the document's Right; Diff; RuleDiffs. Conditions: none. -/
namespace Go.Proofs.Ytbmmhbpalkepeaa
open Go Go.Abs

/-- Rules in their order are told by what they hold. -/
theorem sorted_ext : ∀ {l l' : List N2.Srule_Rule}, Sorted l → Sorted l' → (∀ n, getL l n = getL l' n) → l = l'
  | [], [], _, _, _ => rfl
  | [], y :: t, _, _, h => by have := h y.ID; rw [getL_cons, if_pos rfl] at this; simp [getL] at this
  | x :: t, [], _, _, h => by have := h x.ID; rw [getL_cons, if_pos rfl] at this; simp [getL] at this
  | x :: t, y :: u, h1, h2, h => by
    obtain ⟨a1, a2⟩ := List.pairwise_cons.1 h1
    obtain ⟨b1, b2⟩ := List.pairwise_cons.1 h2
    have lt_of : ∀ {z : N2.Srule_Rule} {v : List N2.Srule_Rule} {n : Int}, (∀ w ∈ v, z.ID < w.ID) → (getL v n).isSome = true → z.ID < n := by
      intro z v n hz hg
      rw [getL_mem] at hg
      obtain ⟨w, hw, rfl⟩ := List.mem_map.1 hg
      exact hz w hw
    have hxy : x.ID = y.ID := by
      have e1 := h x.ID
      have e2 := h y.ID
      rw [getL_cons, if_pos rfl, getL_cons] at e1
      rw [getL_cons, getL_cons, if_pos rfl] at e2
      by_cases hh : x.ID = y.ID
      · exact hh
      · rw [if_neg (fun e => hh e.symm)] at e1
        rw [if_neg hh] at e2
        have p := lt_of b1 (by rw [← e1]; rfl)
        have q := lt_of a1 (by rw [e2]; rfl)
        omega
    have e1 := h x.ID
    rw [getL_cons, if_pos rfl, getL_cons, if_pos hxy.symm] at e1
    obtain rfl : x = y := by simpa using e1
    refine congrArg _ (sorted_ext a2 b2 fun n => ?_)
    have e := h n
    rw [getL_cons, getL_cons] at e
    by_cases hn : x.ID = n
    · have none_of : ∀ {v : List N2.Srule_Rule}, (∀ w ∈ v, x.ID < w.ID) → getL v n = none := by
        intro v hv
        cases hg : getL v n with
        | none => rfl
        | some w => have := lt_of hv (by rw [hg]; rfl); omega
      rw [none_of a1, none_of b1]
    · rwa [if_neg hn, if_neg hn] at e

theorem getL_filter {l : List N2.Srule_Rule} (hs : Sorted l) (p : N2.Srule_Rule → Bool) (n : Int) : getL (l.filter p) n = match getL l n with | some r => if p r = true then some r else none | none => none := by
  induction l with
  | nil => rfl
  | cons x t ih =>
    obtain ⟨h1, h2⟩ := List.pairwise_cons.1 hs
    rw [getL_cons]
    cases hp : p x with
    | true =>
      rw [List.filter_cons_of_pos hp, getL_cons]
      by_cases hn : x.ID = n
      · rw [if_pos hn, if_pos hn]; simp [hp]
      · rw [if_neg hn, if_neg hn]; exact ih h2
    | false =>
      rw [List.filter_cons_of_neg (by simp [hp]), ih h2]
      by_cases hn : x.ID = n
      · rw [if_pos hn]
        have : getL t n = none := by
          cases hg : getL t n with
          | none => rfl
          | some w =>
            have : (getL t n).isSome = true := by rw [hg]; rfl
            rw [getL_mem] at this
            obtain ⟨w, hw, rfl⟩ := List.mem_map.1 this
            have := h1 w hw
            omega
        rw [this]
        simp [hp]
      · rw [if_neg hn]

theorem getL_fold : ∀ (P l : List N2.Srule_Rule), (ids P).Nodup → ∀ n, getL (P.foldl putL l) n = match getL P n with | some r => some r | none => getL l n
  | [], l, _, n => rfl
  | r :: P, l, h, n => by
    have h' : r.ID ∉ ids P ∧ (ids P).Nodup := List.nodup_cons.1 h
    rw [List.foldl_cons, getL_fold P _ h'.2, getL_putL, getL_cons]
    by_cases hn : r.ID = n
    · have : getL P n = none := by
        cases hg : getL P n with
        | none => rfl
        | some w => exact absurd (getL_mem.1 (by rw [hg]; rfl)) (hn ▸ h'.1)
      rw [this, if_pos hn, if_pos hn.symm]
    · rw [if_neg hn, if_neg (fun e => hn e.symm)]

/-- Is a rule there otherwise, or not at all? -/
def notSame (l : List N2.Srule_Rule) (r : N2.Srule_Rule) : Bool :=
  match getL l r.ID with
  | some x => !eqR x r
  | none => true
theorem notSame_f {l : List N2.Srule_Rule} {r : N2.Srule_Rule} (h : getL l r.ID = some r) : notSame l r = false := by unfold notSame; rw [h]; simp [eqR_iff.2 rfl]
theorem notSame_t {l : List N2.Srule_Rule} {r : N2.Srule_Rule} (h : getL l r.ID ≠ some r) : notSame l r = true := by
  unfold notSame
  cases hg : getL l r.ID with
  | none => rfl
  | some x =>
    simp only [Bool.not_eq_true']
    cases hq : eqR x r with
    | false => rfl
    | true => exact absurd (hg.trans (congrArg some (eqR_iff.1 hq))) h
def unl (a b : Int) : Int := if a = b then -1 else b
def diffP (a b : N2.Srule_Set) : List N2.Srule_Rule := b.Rules.filter fun r => notSame a.Rules r
def diffD (a b : N2.Srule_Set) : List Int := (a.Rules.filter fun r => (getL b.Rules r.ID).isNone).map (·.ID)
def diffL (a b : N2.Srule_Set) : N2.Srule_Delta := ⟨unl a.Default b.Default, unl a.Closed b.Closed, unl a.Fuel b.Fuel, unl a.Stack b.Stack, diffP a b, diffD a b⟩

theorem orI_unl {a b : Int} (hb : 0 ≤ b) : orI (unl a b) a = b := by
  unfold orI unl
  split <;> split <;> omega

theorem getL_self' {l : List N2.Srule_Rule} {n : Int} {r : N2.Srule_Rule} (h : getL l n = some r) : r ∈ l ∧ r.ID = n := by
  unfold getL at h
  exact ⟨List.mem_of_find?_eq_some h, by simpa using List.find?_some h⟩

theorem mem_diffD {a b : N2.Srule_Set} {n : Int} : n ∈ diffD a b ↔ (getL a.Rules n).isSome = true ∧ getL b.Rules n = none := by
  unfold diffD
  rw [List.mem_map]
  constructor
  · rintro ⟨r, hr, rfl⟩
    obtain ⟨h1, h2⟩ := List.mem_filter.1 hr
    exact ⟨getL_mem.2 (List.mem_map.2 ⟨r, h1, rfl⟩), by simpa using h2⟩
  · rintro ⟨h1, h2⟩
    obtain ⟨r, hr⟩ := Option.isSome_iff_exists.1 h1
    obtain ⟨m, rfl⟩ := getL_self' hr
    exact ⟨r, List.mem_filter.2 ⟨m, by simp [h2]⟩, rfl⟩

theorem diff_rules {a b : N2.Srule_Set} (ha : Sorted a.Rules) (hb : Sorted b.Rules) : (diffP a b).foldl putL (a.Rules.filter fun y => !(diffD a b).contains y.ID) = b.Rules := by
  have hp : Sorted (diffP a b) := hb.filter _
  refine sorted_ext (sorted_fold (ha.filter _) _) hb fun n => ?_
  rw [getL_fold _ _ (sorted_nodup hp), getL_filter ha]
  unfold diffP
  rw [getL_filter hb]
  cases hbn : getL b.Rules n with
  | none =>
    simp only
    cases han : getL a.Rules n with
    | none => rfl
    | some x =>
      obtain ⟨_, rfl⟩ := getL_self' han
      have : x.ID ∈ diffD a b := mem_diffD.2 ⟨by rw [han]; rfl, hbn⟩
      simp [this]
  | some r =>
    obtain ⟨_, rfl⟩ := getL_self' hbn
    by_cases h : getL a.Rules r.ID = some r
    · simp only [notSame_f h, h, Bool.false_eq_true, if_false]
      have : r.ID ∉ diffD a b := fun hm => by have := (mem_diffD.1 hm).2; rw [hbn] at this; cases this
      simp [this]
    · simp [notSame_t h]

theorem okN_nonneg {a b c d : Int} (h : okN a b c d = true) : 0 ≤ a ∧ 0 ≤ b ∧ 0 ≤ c ∧ 0 ≤ d := by
  unfold okN at h
  simp only [decide_eq_true_eq] at h
  omega

/-- What is told between two sets changes the one to the other. -/
theorem apply_diff {a b : N2.Srule_Set} (ha : okS a = true) (hb : okS b = true) : applyL a (diffL a b) = (b, 0) := by
  obtain ⟨a1, a2, a3⟩ := okS_sorted ha
  obtain ⟨b1, b2, b3⟩ := okS_sorted hb
  obtain ⟨p1, p2, p3, p4⟩ := okN_nonneg (N2.okS_okN hb)
  have e : (diffL a b).Put.foldl putL (a.Rules.filter fun y => !(diffL a b).Drop.contains y.ID) = b.Rules := diff_rules a1 b1
  have := applyL_of (s := a) (d := diffL a b) ha
    (by show okN (orI (unl _ _) _) (orI (unl _ _) _) (orI (unl _ _) _) (orI (unl _ _) _) = true; rw [orI_unl p1, orI_unl p2, orI_unl p3, orI_unl p4]; exact N2.okS_okN hb)
    (by
      rw [List.all_eq_true]
      intro r hr
      exact List.all_eq_true.1 b3 r (List.mem_filter.1 hr).1)
    (by
      show (ids (diffP a b) ++ diffD a b).Nodup
      rw [List.nodup_append]
      refine ⟨sorted_nodup (b1.filter _), ?_, ?_⟩
      · exact sorted_nodup (a1.filter _)
      · intro n hn m hm e
        subst e
        obtain ⟨r, hr, rfl⟩ := List.mem_map.1 hn
        have h1 := (mem_diffD.1 hm).2
        rw [getL_self b1 r (List.mem_filter.1 hr).1] at h1
        cases h1)
    (fun n hn => getL_mem.1 (mem_diffD.1 hn).1)
    (by rw [e]; exact N2.okS_len hb)
  rw [this, e]
  show ((⟨orI (unl _ _) _, orI (unl _ _) _, orI (unl _ _) _, orI (unl _ _) _, b.Rules⟩ : N2.Srule_Set), (0 : Int)) = _
  rw [orI_unl p1, orI_unl p2, orI_unl p3, orI_unl p4]

theorem diff_self {a : N2.Srule_Set} (ha : Sorted a.Rules) : diffP a a = [] ∧ diffD a a = [] := by
  constructor
  · unfold diffP
    rw [List.filter_eq_nil_iff]
    intro r hr
    simp [notSame_f (getL_self ha r hr)]
  · unfold diffD
    rw [List.map_eq_nil_iff, List.filter_eq_nil_iff]
    intro r hr
    simp [getL_self ha r hr]

namespace N2
theorem g34_val (r : Srule_Rule) : g34 r = some (okR r) := by
  apply g34_of
  unfold b34 okR
  repeat' split
  all_goals simp_all
  all_goals omega
theorem g33_val (s : Scolanderref07_Set) : g33 s = some (okN s.Default s.Closed s.Fuel s.Stack) := by
  apply g33_of
  unfold b33 okN
  repeat' split
  all_goals simp_all
  all_goals omega

theorem g19_loop (s : Scolanderref07_Set) (hl : s.Rules.length ≤ 1000000) : ∀ (d i : Nat) (n : Int), i + d = s.Rules.length → (i = 0 → n = 0) → (∀ k, i = k + 1 → ∃ r, s.Rules[k]? = some r ∧ r.ID = n) → g19_l4 (i : Int) s = some (asc n (s.Rules.drop i)) := by
  intro d
  induction d with
  | zero =>
    intro i n h _ _
    apply g19_l4_of
    unfold b19_l4
    rw [if_neg (by simp; omega), List.drop_of_length_le (by omega)]
    rfl
  | succ d ih =>
    intro i n h h0 h1
    apply g19_l4_of
    unfold b19_l4
    have hi : i < s.Rules.length := by omega
    rw [if_pos (by simp; omega)]
    unfold b19_r6
    rw [lget_nat, List.getElem?_eq_getElem hi, List.drop_eq_getElem_cons hi]
    simp only [Option.bind_some, g34_val, asc, b19_r7, b19_r5]
    have ih' := ih (i + 1) s.Rules[i].ID (by omega) (by omega) (fun k hk => by cases hk; exact ⟨_, List.getElem?_eq_getElem hi, rfl⟩)
    have hw : IntKind.i64.wrap ((i : Int) + 1) = ((i + 1 : Nat) : Int) := by rw [wrap1 (by omega) (by omega)]; omega
    cases hr : okR s.Rules[i] with
    | false => simp
    | true =>
      simp only [Bool.not_true, Bool.false_eq_true, if_false, Bool.true_and, hw, ih']
      cases i with
      | zero =>
        have := h0 rfl
        subst this
        have hid := (okR_id hr).1
        rw [if_neg (by simp)]
        have : (0 : Int) < s.Rules[0].ID := by omega
        simp [this]
      | succ k =>
        obtain ⟨r, hr1, hr2⟩ := h1 k rfl
        rw [if_pos (by simp), show IntKind.i64.wrap (((k + 1 : Nat) : Int) - 1) = (k : Int) by rw [show (((k + 1 : Nat) : Int) - 1) = (k : Int) by omega, wrap_i64 (by omega) (by omega)], lget_nat, hr1]
        simp only [Option.bind_some, hr2]
        by_cases hle : s.Rules[k + 1].ID ≤ n
        · rw [if_pos (by simpa using hle)]
          have : ¬ n < s.Rules[k + 1].ID := by omega
          simp [this]
        · rw [if_neg (by simpa using hle)]
          have : n < s.Rules[k + 1].ID := by omega
          simp [this]

theorem g19_val (s : Srule_Set) : g19 (rS s) = some (okS s) := by
  apply g19_of
  unfold b19
  simp only [g33_val, Option.bind_some, b19_r2, b19_r3, okS, rS]
  cases h : okN s.Default s.Closed s.Fuel s.Stack with
  | false => simp
  | true =>
    by_cases h2 : s.Rules.length ≤ 16
    · have h3 : ¬ 16 < (s.Rules.length : Int) := by omega
      simp only [Bool.not_true, Bool.false_eq_true, if_false, h3, decide_false, h2, decide_true, Bool.true_and]
      exact g19_loop (rS s) (by show s.Rules.length ≤ _; omega) s.Rules.length 0 0 (by show 0 + s.Rules.length = s.Rules.length; omega) (fun _ => rfl) (fun k hk => by omega)
    · have h3 : 16 < (s.Rules.length : Int) := by omega
      simp [h2, h3]

theorem g11_val (s : Srule_Set) (d : Srule_Delta) : g11 s d = some (decide (s.Rules.length ≤ 40 ∧ d.Put.length ≤ 40 ∧ d.Drop.length ≤ 40)) := by
  apply g11_of
  unfold b11
  by_cases h1 : s.Rules.length ≤ 40
  case neg => rw [if_neg (by simp; omega)]; simp [h1]
  rw [if_pos (by simp; omega)]
  by_cases h2 : d.Put.length ≤ 40
  case neg => rw [if_neg (by simp; omega)]; simp [h2]
  rw [if_pos (by simp; omega)]
  have : (d.Drop.length : Int) ≤ 40 ↔ d.Drop.length ≤ 40 := by omega
  simp [h1, h2, this]

theorem g38_val (a b : Int) : g38 a b = some (unl a b) := g38_of _ _ (by unfold b38 b38_r3 unl; by_cases h : a = b <;> simp [h])

theorem g22_l12_run (b : Srule_Set) (hb : b.Rules.length ≤ 1000000) (n1 n2 n3 n4 : Int) (P : List Srule_Rule) (L : List Srule_Rule) (hl : L.length ≤ 1000000) : ∀ (k i : Nat) (out : List Int), i + k = L.length → out.length ≤ i →
    g22_l12 L (L.length : Int) (i : Int) b n1 n2 n3 n4 P out = some (⟨n1, n2, n3, n4, P, out ++ ((L.drop i).filter fun r => (getL b.Rules r.ID).isNone).map (·.ID)⟩, 0) := by
  intro k
  induction k with
  | zero =>
    intro i out h ho
    rw [List.drop_of_length_le (by omega)]
    apply g22_l12_of
    unfold b22_l12
    rw [if_neg (by simp; omega)]
    simp [b22_r18]
  | succ k ih =>
    intro i out h ho
    have hi : i < L.length := by omega
    have hw : IntKind.i64.wrap ((i : Int) + 1) = ((i + 1 : Nat) : Int) := by rw [wrap1 (by omega) (by omega)]; omega
    rw [List.drop_eq_getElem_cons hi]
    apply g22_l12_of
    unfold b22_l12
    rw [if_pos (by simp; omega)]
    unfold b22_r13
    rw [lget_nat, List.getElem?_eq_getElem hi]
    simp only [Option.bind_some, g20_val b _ hb, b22_r17, hw]
    cases hg : getL b.Rules L[i].ID with
    | none =>
      simp only [Bool.not_false, if_true]
      rw [lapp_one _ _ (by omega)]
      simp only [Option.bind_some]
      rw [ih (i + 1) _ (by omega) (by simp; omega), List.filter_cons_of_pos (by simp [hg]), List.map_cons, List.append_assoc, List.singleton_append]
    | some r =>
      simp only [Bool.not_true, Bool.false_eq_true, if_false]
      rw [ih (i + 1) _ (by omega) (by omega), List.filter_cons_of_neg (by simp [hg])]

theorem g22_l5_run (a b : Srule_Set) (ha : a.Rules.length ≤ 1000000) (n1 n2 n3 n4 : Int) (L : List Srule_Rule) (hl : L.length ≤ 1000000) {r : Srule_Delta × Int} : ∀ (k i : Nat) (out : List Srule_Rule), i + k = L.length → out.length ≤ i →
    b22_r11 a b n1 n2 n3 n4 (out ++ (L.drop i).filter fun r => notSame a.Rules r) [] = some r → g22_l5 L (L.length : Int) (i : Int) a b n1 n2 n3 n4 out [] = some r := by
  intro k
  induction k with
  | zero =>
    intro i out h ho hr
    rw [List.drop_of_length_le (by omega)] at hr
    apply g22_l5_of
    unfold b22_l5
    rw [if_neg (by simp; omega)]
    simpa using hr
  | succ k ih =>
    intro i out h ho hr
    have hi : i < L.length := by omega
    have hw : IntKind.i64.wrap ((i : Int) + 1) = ((i + 1 : Nat) : Int) := by rw [wrap1 (by omega) (by omega)]; omega
    rw [List.drop_eq_getElem_cons hi] at hr
    apply g22_l5_of
    unfold b22_l5
    rw [if_pos (by simp; omega)]
    unfold b22_r6
    rw [lget_nat, List.getElem?_eq_getElem hi]
    simp only [Option.bind_some, g20_val a _ ha, b22_r9, b22_r10, hw]
    have put : getL a.Rules L[i].ID ≠ some L[i] → (lapp out [L[i]]).bind (fun a1 => g22_l5 L (L.length : Int) ((i + 1 : Nat) : Int) a b n1 n2 n3 n4 a1 []) = some r := by
      intro hne
      rw [lapp_one _ _ (by omega)]
      refine ih (i + 1) _ (by omega) (by simp; omega) ?_
      rw [List.filter_cons_of_pos (notSame_t hne)] at hr
      rw [List.append_assoc, List.singleton_append]
      exact hr
    cases hg : getL a.Rules L[i].ID with
    | none =>
      simp only [Bool.not_false, if_true]
      exact put (by rw [hg]; simp)
    | some x =>
      simp only [Bool.not_true, Bool.false_eq_true, if_false]
      by_cases hx : x = L[i]
      · have := eqR_iff.2 hx
        unfold eqR at this
        rw [this]
        simp only [Bool.not_true, Bool.false_eq_true, if_false]
        refine ih (i + 1) _ (by omega) (by omega) ?_
        rw [List.filter_cons_of_neg (by rw [notSame_f (by rw [hg, hx])]; simp)] at hr
        exact hr
      · have : eqR x L[i] = false := by
          cases hq : eqR x L[i] with
          | false => rfl
          | true => exact absurd (eqR_iff.1 hq) hx
        unfold eqR at this
        rw [this]
        simp only [Bool.not_false, if_true]
        exact put (by rw [hg]; simpa using hx)

theorem g22_val (a b : Srule_Set) : g22 a b = some (if okS a = true ∧ okS b = true then (diffL a b, 0) else (⟨0, 0, 0, 0, [], []⟩, 10)) := by
  apply g22_of
  unfold b22
  simp only [g16_val, Option.bind_some, b22_r2]
  cases ha : okS a with
  | false => simp
  | true =>
    cases hb : okS b with
    | false => simp
    | true =>
      simp only [Bool.not_true, Bool.false_eq_true, if_false, and_self, if_true]
      have la := okS_len ha
      have lb := okS_len hb
      unfold b22_r3
      simp only [g38_val, Option.bind_some]
      refine g22_l5_run a b (by omega) _ _ _ _ b.Rules (by omega) b.Rules.length 0 [] (by omega) (by simp) ?_
      unfold b22_r11
      exact g22_l12_run b (by omega) _ _ _ _ _ a.Rules (by omega) a.Rules.length 0 [] (by omega) (by simp)
end N2
end Go.Proofs.Ytbmmhbpalkepeaa
end

section
set_option linter.unusedSimpArgs false
set_option linter.unusedVariables false
/- Layer 7 in plain terms: RuleDiffs. Conditions: none. -/
namespace Go.Proofs.Ytbmmhbpalkepeaa
open Go Go.Abs
namespace N2
theorem hw1 {i : Nat} (h : i ≤ 1000000) : IntKind.i64.wrap ((i : Int) + 1) = ((i + 1 : Nat) : Int) := by rw [wrap1 (by omega) (by omega)]; omega

theorem g8_l13_run (a b : Srule_Set) (ha : a.Rules.length ≤ 1000000) (d : Srule_Delta) (L : List Srule_Rule) (hl : L.length ≤ 1000000) (hs : Sorted L) (hn : ∀ r ∈ L, getL a.Rules r.ID ≠ some r) {r : Bool} (hr : b8_r20 a b d = some r) :
    ∀ (k i : Nat) (n : Int), i + k = L.length → (∀ r ∈ L.drop i, n < r.ID) → g8_l13 n L (L.length : Int) (i : Int) a b d = some r := by
  intro k
  induction k with
  | zero =>
    intro i n h _
    apply g8_l13_of
    unfold b8_l13
    rw [if_neg (by simp; omega)]
    exact hr
  | succ k ih =>
    intro i n h hlt
    have hi : i < L.length := by omega
    have hd := List.drop_eq_getElem_cons hi
    have hlt' := hlt L[i] (hd ▸ List.mem_cons_self)
    have hnx : ∀ r ∈ L.drop (i + 1), L[i].ID < r.ID := by
      have := hs.drop (i := i)
      rw [hd] at this
      exact (List.pairwise_cons.1 this).1
    apply g8_l13_of
    unfold b8_l13
    rw [if_pos (by simp; omega)]
    unfold b8_r14
    rw [lget_nat, List.getElem?_eq_getElem hi]
    simp only [Option.bind_some, g20_val a _ ha, b8_r17, b8_r18, b8_r19, hw1 (show i ≤ 1000000 by omega)]
    have next := ih (i + 1) L[i].ID (by omega) hnx
    have hle : ¬ L[i].ID ≤ n := by omega
    cases hg : getL a.Rules L[i].ID with
    | none =>
      simp only [Bool.false_eq_true, if_false, hle, decide_false]
      exact next
    | some x =>
      have : eqR x L[i] = false := by
        cases hq : eqR x L[i] with
        | false => rfl
        | true => exact absurd (hg.trans (congrArg some (eqR_iff.1 hq))) (hn L[i] (List.getElem_mem hi))
      unfold eqR at this
      simp only [if_true, this, Bool.false_eq_true, if_false, hle, decide_false]
      exact next

theorem g8_l22_run (a b : Srule_Set) (d : Srule_Delta) (L : List Int) (hl : L.length ≤ 1000000) (hs : L.Pairwise (· < ·)) {r : Bool} (hr : b8_r28 a b d = some r) :
    ∀ (k i : Nat) (n : Int), i + k = L.length → (∀ r ∈ L.drop i, n < r) → g8_l22 n L (L.length : Int) (i : Int) a b d = some r := by
  intro k
  induction k with
  | zero =>
    intro i n h _
    apply g8_l22_of
    unfold b8_l22
    rw [if_neg (by simp; omega)]
    exact hr
  | succ k ih =>
    intro i n h hlt
    have hi : i < L.length := by omega
    have hd := List.drop_eq_getElem_cons hi
    have hlt' := hlt L[i] (hd ▸ List.mem_cons_self)
    have hnx : ∀ r ∈ L.drop (i + 1), L[i] < r := by
      have := hs.drop (i := i)
      rw [hd] at this
      exact (List.pairwise_cons.1 this).1
    apply g8_l22_of
    unfold b8_l22
    rw [if_pos (by simp; omega)]
    unfold b8_r23
    rw [lget_nat, List.getElem?_eq_getElem hi]
    have hle : ¬ L[i] ≤ n := by omega
    simp only [Option.bind_some, b8_r26, b8_r27, hw1 (show i ≤ 1000000 by omega), hle, decide_false, Bool.false_eq_true, if_false]
    exact ih (i + 1) L[i] (by omega) hnx

theorem unl_keep {a b : Int} (hb : 0 ≤ b) : ((unl a b == -1) == (a == b)) = true := by
  unfold unl
  by_cases h : a = b
  · simp [h]
  · have : b ≠ -1 := by omega
    rw [if_neg h, beq_false_of_ne this, beq_false_of_ne h]
    rfl

theorem g8_val (a b : Srule_Set) : g8 a b = some true := by
  apply g8_of
  unfold b8
  rw [g10_val]
  simp only [Option.bind_some, Bool.not_true, Bool.false_eq_true, if_false]
  unfold b8_r3 b8_r4
  simp only [g11_val, Option.bind_some, List.length_nil]
  by_cases la : a.Rules.length ≤ 40
  case neg => simp [la]
  by_cases lb : b.Rules.length ≤ 40
  case neg => simp [la, lb]
  simp only [la, lb, Nat.zero_le, and_self, decide_true, Bool.not_true, Bool.false_eq_true, if_false]
  unfold b8_r5
  simp only [g22_val, Option.bind_some, g14_val a (by omega), g14_val b (by omega), g19_val]
  cases ha : okS a with
  | false => rfl
  | true =>
    cases hb : okS b with
    | false => rfl
    | true =>
      simp only [Bool.not_true, Bool.false_eq_true, if_false, and_self, if_true]
      obtain ⟨a1, a2, a3⟩ := okS_sorted ha
      obtain ⟨b1, b2, b3⟩ := okS_sorted hb
      obtain ⟨p1, p2, p3, p4⟩ := okN_nonneg (okS_okN hb)
      have lP : (diffP a b).length ≤ 40 := Nat.le_trans (List.length_filter_le _ _) lb
      have lD : (diffD a b).length ≤ 40 := by unfold diffD; rw [List.length_map]; exact Nat.le_trans (List.length_filter_le _ _) la
      unfold b8_r8
      rw [apply_val _ _ (show (diffP a b).length ≤ _ by omega) (show (diffD a b).length ≤ _ by omega), apply_diff ha hb]
      simp only [Option.bind_some, bne_self_eq_false, Bool.false_eq_true, if_false]
      rw [g14_val b (by omega)]
      simp only [Option.bind_some]
      rw [g13_self _ (show b.Rules.length ≤ _ by omega)]
      simp only [Option.bind_some, Bool.not_true, Bool.false_eq_true, if_false]
      unfold b8_r11
      have hP : Sorted (diffP a b) := b1.filter _
      refine g8_l13_run a b (by omega) (diffL a b) (diffP a b) (by omega) hP (fun r hr => ?_) ?_ (diffP a b).length 0 0 (by omega) (fun r hr => ?_)
      · intro e
        have := (List.mem_filter.1 hr).2
        rw [notSame_f e] at this
        simp at this
      · unfold b8_r20
        have hD : (diffD a b).Pairwise (· < ·) := by
          unfold diffD
          rw [List.pairwise_map]
          exact a1.filter _
        refine g8_l22_run a b (diffL a b) (diffD a b) (by omega) hD ?_ (diffD a b).length 0 0 (by omega) (fun r hr => ?_)
        · unfold b8_r28
          rw [g14_val a (by omega), g14_val b (by omega)]
          simp only [Option.bind_some]
          obtain ⟨q, e1, e2⟩ := g13_val (rS a) (rS b) (show a.Rules.length ≤ _ by omega)
          rw [e1]
          simp only [Option.bind_some]
          have k1 : (((diffL a b).Default == -1) == (a.Default == b.Default)) = true := unl_keep p1
          have k2 : (((diffL a b).Fuel == -1) == (a.Fuel == b.Fuel)) = true := unl_keep p3
          rw [if_pos k1, if_pos k2]
          cases q with
          | false => rfl
          | true =>
            have hab : rS a = rS b := e2.1 rfl
            have hR : a.Rules = b.Rules := congrArg Scolanderref07_Set.Rules hab
            have hP0 : diffP a b = [] := by
              have := (diff_self a1).1
              unfold diffP at *
              rw [← hR]
              exact this
            have hD0 : diffD a b = [] := by
              have := (diff_self a1).2
              unfold diffD at *
              rw [← hR]
              exact this
            show (if (!true) = true then some true else some (IntKind.i64.wrap (((diffP a b).length : Int) + ((diffD a b).length : Int)) == 0)) = some true
            rw [hP0, hD0]
            rfl
        · rw [List.drop_zero] at hr
          obtain ⟨x, hx, rfl⟩ := List.mem_map.1 hr
          exact a2 x (List.mem_filter.1 hx).1
      · rw [List.drop_zero] at hr
        exact b2 r (List.mem_filter.1 hr).1
end N2
end Go.Proofs.Ytbmmhbpalkepeaa
end
