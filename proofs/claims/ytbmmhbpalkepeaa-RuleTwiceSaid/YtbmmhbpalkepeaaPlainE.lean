/- Layer 7 in plain words: RuleTwice. No condition. -/
import Derived.Test.YtbmmhbpalkepeaaPlainD

section
set_option linter.unusedSimpArgs false
set_option linter.unusedVariables false
/- Layer 7 in plain terms: RuleTwice. Conditions: none. -/
namespace Go.Proofs.Ytbmmhbpalkepeaa
open Go Go.Abs

theorem orI_twice (a b : Int) : orI a (orI a b) = orI a b := by
  unfold orI
  split <;> rfl
theorem orI_swap {a b : Int} (h : a = -1 ∨ b = -1) (c : Int) : orI a (orI b c) = orI b (orI a c) := by
  unfold orI
  rcases h with h | h <;> subst h <;> simp

/-- What the rules are that come of Apply. -/
theorem getL_apply {s t : N2.Srule_Set} {d : N2.Srule_Delta} (h : applyL s d = (t, 0)) (n : Int) : getL t.Rules n = match getL d.Put n with | some r => some r | none => if n ∈ d.Drop then none else getL s.Rules n := by
  obtain ⟨h1, _, _, h4, _, _, rfl⟩ := applyL_ok h
  obtain ⟨o1, _, _⟩ := okS_sorted h1
  rw [getL_fold _ _ (List.nodup_append.1 h4).1, getL_filter o1]
  cases getL d.Put n with
  | some r => rfl
  | none =>
    simp only
    cases hg : getL s.Rules n with
    | none => simp
    | some x =>
      obtain ⟨_, rfl⟩ := getL_self' hg
      by_cases hm : x.ID ∈ d.Drop
      · simp [hm]
      · simp [hm]

theorem apply_sorted {s t : N2.Srule_Set} {d : N2.Srule_Delta} (h : applyL s d = (t, 0)) : Sorted t.Rules := (okS_sorted (applyL_right h)).1

theorem set_ext {x y : N2.Srule_Set} (h1 : x.Default = y.Default) (h2 : x.Closed = y.Closed) (h3 : x.Fuel = y.Fuel) (h4 : x.Stack = y.Stack) (h5 : x.Rules = y.Rules) : x = y := by
  cases x; cases y
  simp only at h1 h2 h3 h4 h5
  subst h1; subst h2; subst h3; subst h4; subst h5
  rfl

/-- A delta without Drop, once more. -/
theorem apply_again {s t : N2.Srule_Set} {d : N2.Srule_Delta} (h : applyL s d = (t, 0)) (hd : d.Drop = []) : applyL t d = (t, 0) := by
  have hr := applyL_right h
  have hs := apply_sorted h
  obtain ⟨h1, h2, h3, h4, h5, h6, e⟩ := applyL_ok h
  have hrules : d.Put.foldl putL (t.Rules.filter fun y => !d.Drop.contains y.ID) = t.Rules := by
    refine sorted_ext (sorted_fold (hs.filter _) _) hs fun n => ?_
    rw [getL_fold _ _ (List.nodup_append.1 h4).1, getL_filter hs, getL_apply h]
    cases getL d.Put n with
    | some r => rfl
    | none =>
      simp only [hd, List.not_mem_nil, if_false, List.contains_nil, Bool.not_false, if_true]
      cases getL s.Rules n <;> rfl
  have q1 : orI d.Default t.Default = t.Default := by rw [e]; exact orI_twice _ _
  have q2 : orI d.Closed t.Closed = t.Closed := by rw [e]; exact orI_twice _ _
  have q3 : orI d.Fuel t.Fuel = t.Fuel := by rw [e]; exact orI_twice _ _
  have q4 : orI d.Stack t.Stack = t.Stack := by rw [e]; exact orI_twice _ _
  rw [applyL_of hr (by rw [q1, q2, q3, q4]; exact N2.okS_okN hr) h3 h4 (by rw [hd]; simp) (by rw [hrules]; exact N2.okS_len hr), hrules, q1, q2, q3, q4]

def touched (d : N2.Srule_Delta) : List Int := d.Drop ++ ids d.Put

theorem getL_none_of {P : List N2.Srule_Rule} {n : Int} (h : n ∉ ids P) : getL P n = none := by
  cases hg : getL P n with
  | none => rfl
  | some x => exact absurd (getL_mem.1 (by rw [hg]; rfl)) h

/-- Two deltas that touch nothing in common. -/
theorem apply_swap {s t q p r : N2.Srule_Set} {d o : N2.Srule_Delta} (ht : applyL s d = (t, 0)) (hp : applyL t o = (p, 0)) (hq : applyL s o = (q, 0)) (hr : applyL q d = (r, 0))
    (n1 : d.Default = -1 ∨ o.Default = -1) (n2 : d.Closed = -1 ∨ o.Closed = -1) (n3 : d.Fuel = -1 ∨ o.Fuel = -1) (n4 : d.Stack = -1 ∨ o.Stack = -1) (hn : ∀ n, n ∈ touched d → n ∉ touched o) : p = r := by
  obtain ⟨_, _, _, _, _, _, et⟩ := applyL_ok ht
  obtain ⟨_, _, _, _, _, _, ep⟩ := applyL_ok hp
  obtain ⟨_, _, _, _, _, _, eq⟩ := applyL_ok hq
  obtain ⟨_, _, _, _, _, _, er⟩ := applyL_ok hr
  refine set_ext ?_ ?_ ?_ ?_ ?_
  · rw [ep, er, et, eq]; exact orI_swap (n1.symm) _
  · rw [ep, er, et, eq]; exact orI_swap (n2.symm) _
  · rw [ep, er, et, eq]; exact orI_swap (n3.symm) _
  · rw [ep, er, et, eq]; exact orI_swap (n4.symm) _
  · refine sorted_ext (apply_sorted hp) (apply_sorted hr) fun n => ?_
    rw [getL_apply hp, getL_apply ht, getL_apply hr, getL_apply hq]
    have key : (n ∉ ids d.Put ∧ n ∉ d.Drop) ∨ (n ∉ ids o.Put ∧ n ∉ o.Drop) := by
      by_cases h : n ∈ touched d
      · have := hn n h
        unfold touched at this
        simp only [List.mem_append, not_or] at this
        exact .inr ⟨this.2, this.1⟩
      · unfold touched at h
        simp only [List.mem_append, not_or] at h
        exact .inl ⟨h.2, h.1⟩
    rcases key with ⟨a, b⟩ | ⟨a, b⟩
    · rw [getL_none_of a]
      simp only [if_neg b]
    · rw [getL_none_of a]
      simp only [if_neg b]

namespace N2
theorem g15_loop (L : List Srule_Rule) (hl : L.length ≤ 1000000) : ∀ (k i : Nat) (out : List Int), i + k = L.length → out.length ≤ 1000000 + i →
    g15_l3 out L (L.length : Int) (i : Int) = some (out ++ ids (L.drop i)) := by
  intro k
  induction k with
  | zero =>
    intro i out h ho
    rw [List.drop_of_length_le (by omega)]
    apply g15_l3_of
    unfold b15_l3
    rw [if_neg (by simp; omega)]
    simp [b15_r7, ids]
  | succ k ih =>
    intro i out h ho
    have hi : i < L.length := by omega
    rw [List.drop_eq_getElem_cons hi]
    apply g15_l3_of
    unfold b15_l3
    rw [if_pos (by simp; omega)]
    unfold b15_r4
    rw [lget_nat, List.getElem?_eq_getElem hi]
    simp only [Option.bind_some]
    rw [lapp_one _ _ (by omega)]
    simp only [Option.bind_some]
    rw [hw1 (by omega), ih (i + 1) _ (by omega) (by simp; omega)]
    simp only [ids, List.map_cons, List.append_assoc, List.singleton_append, List.cons_append, List.nil_append]
theorem g15_val (d : Srule_Delta) (h1 : d.Put.length ≤ 1000000) (h2 : d.Drop.length ≤ 1000000) : g15 d = some (touched d) := by
  apply g15_of
  unfold b15
  rw [lapp_le _ _ (by simp; omega)]
  simp only [Option.bind_some, List.nil_append]
  have := g15_loop d.Put h1 d.Put.length 0 d.Drop (by omega) (by omega)
  rw [List.drop_zero] at this
  exact this

/-- The end: both ways round. -/
theorem b3_r27_val (s : Srule_Set) (d o : Srule_Delta) (t : Srule_Set) (ht : applyL s d = (t, 0)) (ld : d.Put.length ≤ 40 ∧ d.Drop.length ≤ 40) (lo : o.Put.length ≤ 40 ∧ o.Drop.length ≤ 40)
    (n1 : d.Default = -1 ∨ o.Default = -1) (n2 : d.Closed = -1 ∨ o.Closed = -1) (n3 : d.Fuel = -1 ∨ o.Fuel = -1) (n4 : d.Stack = -1 ∨ o.Stack = -1) (hn : ∀ n, n ∈ touched d → n ∉ touched o) : b3_r27 s d o t = some true := by
  unfold b3_r27
  rw [apply_val t o (by omega) (by omega), apply_val s o (by omega) (by omega)]
  simp only [Option.bind_some]
  by_cases hp : (applyL t o).2 = 0
  case neg => rw [if_pos (by simpa using hp)]; rfl
  rw [if_neg (by simpa using hp)]
  by_cases hq : (applyL s o).2 = 0
  case neg => rw [if_pos (by simpa using hq)]; rfl
  rw [if_neg (by simpa using hq)]
  unfold b3_r31
  rw [apply_val _ d (by omega) (by omega)]
  simp only [Option.bind_some]
  by_cases hr : (applyL (applyL s o).1 d).2 = 0
  case neg => rw [if_pos (by simpa using hr)]
  rw [if_neg (by simpa using hr)]
  have ep : applyL t o = ((applyL t o).1, 0) := by rw [← hp]
  have eq : applyL s o = ((applyL s o).1, 0) := by rw [← hq]
  have er : applyL (applyL s o).1 d = ((applyL (applyL s o).1 d).1, 0) := by rw [← hr]
  have e := apply_swap ht ep eq er n1 n2 n3 n4 hn
  rw [← e]
  have hl := okS_len (applyL_right ep)
  rw [g14_val _ (by omega)]
  simp only [Option.bind_some]
  rw [g13_self _ (show (applyL t o).1.Rules.length ≤ _ by omega)]
  rfl

theorem g3_l21_run (s : Srule_Set) (d o : Srule_Delta) (t : Srule_Set) (x : Int) (L : List Int) (l : Nat) (hll : l < L.length) (hL : L.length ≤ 1000000) (M : List Int) (hM : M.length ≤ 1000000) : ∀ (k i : Nat), i + k = M.length →
    (x ∈ M.drop i ∨ g3_l18 L (L.length : Int) ((l + 1 : Nat) : Int) s d o t = some true) → g3_l21 x L (L.length : Int) (l : Int) M (M.length : Int) (i : Int) s d o t = some true := by
  intro k
  induction k with
  | zero =>
    intro i h hr
    rw [List.drop_of_length_le (by omega)] at hr
    apply g3_l21_of
    unfold b3_l21
    rw [if_neg (by simp; omega)]
    unfold b3_r26
    rw [hw1 (by omega)]
    exact hr.resolve_left (by simp)
  | succ k ih =>
    intro i h hr
    have hi : i < M.length := by omega
    rw [List.drop_eq_getElem_cons hi] at hr
    apply g3_l21_of
    unfold b3_l21
    rw [if_pos (by simp; omega)]
    unfold b3_r22
    rw [lget_nat, List.getElem?_eq_getElem hi]
    simp only [Option.bind_some]
    by_cases he : x = M[i]
    · rw [if_pos (by simpa using he)]
    · rw [if_neg (by simpa using he)]
      unfold b3_r25
      rw [hw1 (by omega)]
      refine ih (i + 1) (by omega) ?_
      rcases hr with hr | hr
      · rcases List.mem_cons.1 hr with hr | hr
        · exact absurd hr he
        · exact .inl hr
      · exact .inr hr

theorem g3_l18_run (s : Srule_Set) (d o : Srule_Delta) (t : Srule_Set) (lo : o.Put.length ≤ 40 ∧ o.Drop.length ≤ 40) (L : List Int) (hL : L.length ≤ 1000000) : ∀ (k i : Nat), i + k = L.length →
    ((∀ n ∈ L.drop i, n ∉ touched o) → b3_r27 s d o t = some true) → g3_l18 L (L.length : Int) (i : Int) s d o t = some true := by
  intro k
  induction k with
  | zero =>
    intro i h hr
    rw [List.drop_of_length_le (by omega)] at hr
    apply g3_l18_of
    unfold b3_l18
    rw [if_neg (by simp; omega)]
    exact hr (by simp)
  | succ k ih =>
    intro i h hr
    have hi : i < L.length := by omega
    rw [List.drop_eq_getElem_cons hi] at hr
    apply g3_l18_of
    unfold b3_l18
    rw [if_pos (by simp; omega)]
    unfold b3_r19
    rw [lget_nat, List.getElem?_eq_getElem hi]
    simp only [Option.bind_some]
    rw [g15_val o (by omega) (by omega)]
    simp only [Option.bind_some]
    have hto : (touched o).length ≤ 1000000 := by unfold touched ids; simp; omega
    refine g3_l21_run s d o t L[i] L i hi hL (touched o) hto (touched o).length 0 (by omega) ?_
    rw [List.drop_zero]
    by_cases hm : L[i] ∈ touched o
    · exact .inl hm
    · refine .inr (ih (i + 1) (by omega) fun hh => hr fun n hn => ?_)
      rcases List.mem_cons.1 hn with rfl | hn
      · exact hm
      · exact hh n hn

theorem b3_r17_val (s : Srule_Set) (d o : Srule_Delta) (t : Srule_Set) (ht : applyL s d = (t, 0)) (ld : d.Put.length ≤ 40 ∧ d.Drop.length ≤ 40) (lo : o.Put.length ≤ 40 ∧ o.Drop.length ≤ 40)
    (n1 : d.Default = -1 ∨ o.Default = -1) (n2 : d.Closed = -1 ∨ o.Closed = -1) (n3 : d.Fuel = -1 ∨ o.Fuel = -1) (n4 : d.Stack = -1 ∨ o.Stack = -1) : b3_r17 s d o t = some true := by
  unfold b3_r17
  rw [g15_val d (by omega) (by omega)]
  simp only [Option.bind_some]
  have htd : (touched d).length ≤ 1000000 := by unfold touched ids; simp; omega
  refine g3_l18_run s d o t lo (touched d) htd (touched d).length 0 (by omega) fun hn => ?_
  rw [List.drop_zero] at hn
  exact b3_r27_val s d o t ht ld lo n1 n2 n3 n4 hn

/-- The four pairs of numbers. -/
theorem g3_l12_step (x : S39) (i : Nat) (hi : i < 4) (a : S38) (s : Srule_Set) (d o : Srule_Delta) (t : Srule_Set)
    (ha : ([(S38.mk x.c0.c0 x.c0.c1), (S38.mk x.c1.c0 x.c1.c1), (S38.mk x.c2.c0 x.c2.c1), (S38.mk x.c3.c0 x.c3.c1)] : List S38)[i]? = some a) (hr : (a.c0 = -1 ∨ a.c1 = -1) → g3_l12 x ((i + 1 : Nat) : Int) s d o t = some true) : g3_l12 x (i : Int) s d o t = some true := by
  apply g3_l12_of
  unfold b3_l12
  rw [if_pos (by simp; omega)]
  unfold b3_r13 b3_r16
  rw [lget_nat, ha]
  simp only [Option.bind_some]
  rw [hw1 (by omega)]
  by_cases h0 : a.c0 = -1
  · rw [if_neg (by simpa using h0)]
    exact hr (.inl h0)
  · rw [if_pos (by simpa using h0)]
    by_cases h1 : a.c1 = -1
    · rw [if_neg (by simpa using h1)]
      exact hr (.inr h1)
    · rw [if_pos (by simpa using h1)]
      rfl

theorem g3_val (s : Srule_Set) (d o : Srule_Delta) : g3 s d o = some true := by
  apply g3_of
  unfold b3
  rw [g10_val]
  simp only [Option.bind_some, Bool.not_true, Bool.false_eq_true, if_false]
  unfold b3_r3
  simp only [g11_val, Option.bind_some]
  by_cases h1 : s.Rules.length ≤ 40 ∧ d.Put.length ≤ 40 ∧ d.Drop.length ≤ 40
  case neg => rw [decide_eq_false h1]; rfl
  by_cases h2 : s.Rules.length ≤ 40 ∧ o.Put.length ≤ 40 ∧ o.Drop.length ≤ 40
  case neg => rw [decide_eq_true h1, decide_eq_false h2]; rfl
  rw [decide_eq_true h1, decide_eq_true h2]
  simp only [Bool.not_true, Bool.false_eq_true, if_false]
  unfold b3_r5
  rw [apply_val s d (by omega) (by omega)]
  simp only [Option.bind_some]
  by_cases h0 : (applyL s d).2 = 0
  case neg => rw [if_pos (by simpa using h0)]
  rw [if_neg (by simpa using h0)]
  have et : applyL s d = ((applyL s d).1, 0) := by rw [← h0]
  have hlen := okS_len (applyL_right et)
  have fin : b3_r11 s d o (applyL s d).1 = some true := by
    unfold b3_r11
    refine g3_l12_step _ 0 (by omega) _ s d o _ rfl fun n1 => ?_
    refine g3_l12_step _ 1 (by omega) _ s d o _ rfl fun n2 => ?_
    refine g3_l12_step _ 2 (by omega) _ s d o _ rfl fun n3 => ?_
    refine g3_l12_step _ 3 (by omega) _ s d o _ rfl fun n4 => ?_
    apply g3_l12_of
    unfold b3_l12
    rw [if_neg (by simp)]
    exact b3_r17_val s d o _ et h1.2 h2.2 n1 n2 n3 n4
  unfold b3_r8
  rw [apply_val _ d (by omega) (by omega)]
  simp only [Option.bind_some]
  by_cases hd : d.Drop = []
  · rw [if_pos (by rw [hd]; rfl), apply_again et hd]
    simp only [bne_self_eq_false, Bool.false_eq_true, if_false]
    rw [g14_val _ (by omega)]
    simp only [Option.bind_some]
    rw [g13_self _ (show (applyL s d).1.Rules.length ≤ _ by omega)]
    simp only [Option.bind_some, Bool.not_true, Bool.false_eq_true, if_false]
    exact fin
  · have : ¬ ((d.Drop.length : Int) == 0) = true := by
      have : d.Drop.length ≠ 0 := fun e => hd (List.eq_nil_of_length_eq_zero e)
      simp
      exact hd
    rw [if_neg this]
    exact fin
end N2
end Go.Proofs.Ytbmmhbpalkepeaa
end
