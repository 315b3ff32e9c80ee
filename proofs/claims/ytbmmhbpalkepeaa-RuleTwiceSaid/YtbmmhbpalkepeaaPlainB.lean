/- Layer 7 in plain words: what comes of Apply is right; RuleDrops. No condition. -/
import Derived.Test.YtbmmhbpalkepeaaPlain

section
set_option linter.unusedSimpArgs false
set_option linter.unusedVariables false
/- Layer 7 in plain terms: what comes of Apply is right; RuleDrops. Conditions: none. -/
namespace Go.Proofs.Ytbmmhbpalkepeaa
open Go Go.Abs

theorem sorted_fold {l : List N2.Srule_Rule} (h : Sorted l) : ∀ (P : List N2.Srule_Rule), Sorted (P.foldl putL l)
  | [] => h
  | r :: P => sorted_fold (sorted_putL h r) P
theorem all_putL {l : List N2.Srule_Rule} {r : N2.Srule_Rule} (h : l.all okR = true) (hr : okR r = true) : (putL l r).all okR = true := by
  rw [List.all_eq_true] at *
  intro y hy
  rcases mem_putL hy with rfl | hy
  · exact hr
  · exact h y hy
theorem all_fold {l : List N2.Srule_Rule} (h : l.all okR = true) : ∀ {P : List N2.Srule_Rule}, P.all okR = true → (P.foldl putL l).all okR = true
  | [], _ => h
  | r :: P, hp => by
    simp only [List.all_cons, Bool.and_eq_true] at hp
    exact all_fold (l := putL l r) (all_putL h hp.1) (P := P) hp.2
theorem okS_of {a b c d : Int} {l : List N2.Srule_Rule} (hn : okN a b c d = true) (hl : l.length ≤ 16) (hs : Sorted l) (ha : l.all okR = true) : okS ⟨a, b, c, d, l⟩ = true := by
  unfold okS
  simp only [hn, hl, decide_true, Bool.and_self, Bool.true_and]
  refine asc_of hs (fun r hr => ?_) ha
  have := okR_id (List.all_eq_true.1 ha r hr)
  omega

/-- What Apply comes to where it doesn't refuse. -/
theorem applyL_ok {s : N2.Srule_Set} {d : N2.Srule_Delta} {t : N2.Srule_Set} (h : applyL s d = (t, 0)) : okS s = true ∧ okN (orI d.Default s.Default) (orI d.Closed s.Closed) (orI d.Fuel s.Fuel) (orI d.Stack s.Stack) = true ∧ d.Put.all okR = true ∧
    (ids d.Put ++ d.Drop).Nodup ∧ (∀ n ∈ d.Drop, n ∈ ids s.Rules) ∧ (d.Put.foldl putL (s.Rules.filter fun y => !d.Drop.contains y.ID)).length ≤ 16 ∧
    t = ⟨orI d.Default s.Default, orI d.Closed s.Closed, orI d.Fuel s.Fuel, orI d.Stack s.Stack, d.Put.foldl putL (s.Rules.filter fun y => !d.Drop.contains y.ID)⟩ := by
  unfold applyL at h
  split at h
  · simp at h
  rename_i h1
  split at h
  · simp at h
  rename_i h2
  split at h
  · simp at h
  rename_i h3
  split at h
  · simp at h
  rename_i h4
  split at h
  · simp at h
  rename_i h5
  simp only [Prod.mk.injEq, and_true] at h
  simp only [not_or, Bool.not_eq_false] at h2
  exact ⟨by simpa using h1, h2.1, h2.2, Classical.not_not.1 h3, Classical.not_not.1 h4, by omega, h.symm⟩
theorem applyL_right {s : N2.Srule_Set} {d : N2.Srule_Delta} {t : N2.Srule_Set} (h : applyL s d = (t, 0)) : okS t = true := by
  obtain ⟨h1, h2, h3, _, _, h6, rfl⟩ := applyL_ok h
  obtain ⟨o1, _, o3⟩ := okS_sorted h1
  refine okS_of h2 h6 (sorted_fold (o1.filter _) _) (all_fold ?_ h3)
  rw [List.all_eq_true] at *
  intro r hr
  exact o3 r (List.mem_filter.1 hr).1
theorem applyL_of {s : N2.Srule_Set} {d : N2.Srule_Delta} (h1 : okS s = true) (h2 : okN (orI d.Default s.Default) (orI d.Closed s.Closed) (orI d.Fuel s.Fuel) (orI d.Stack s.Stack) = true) (h3 : d.Put.all okR = true)
    (h4 : (ids d.Put ++ d.Drop).Nodup) (h5 : ∀ n ∈ d.Drop, n ∈ ids s.Rules) (h6 : (d.Put.foldl putL (s.Rules.filter fun y => !d.Drop.contains y.ID)).length ≤ 16) :
    applyL s d = (⟨orI d.Default s.Default, orI d.Closed s.Closed, orI d.Fuel s.Fuel, orI d.Stack s.Stack, d.Put.foldl putL (s.Rules.filter fun y => !d.Drop.contains y.ID)⟩, 0) := by
  unfold applyL
  rw [if_neg (by simp [h1]), if_neg (by simp [h2, h3]), if_neg (by simpa using h4), if_neg (by simpa using h5), if_neg (by omega)]

theorem filter_len {l : List N2.Srule_Rule} (hs : Sorted l) (n : Int) : (l.filter fun y => y.ID != n).length + (if (getL l n).isSome = true then 1 else 0) = l.length := by
  induction l with
  | nil => simp [getL]
  | cons x t ih =>
    obtain ⟨h1, h2⟩ := List.pairwise_cons.1 hs
    rw [getL_cons]
    by_cases hx : x.ID = n
    · rw [if_pos hx, List.filter_cons_of_neg (by simp [hx])]
      have e : t.filter (fun y => y.ID != n) = t := List.filter_eq_self.2 fun y hy => by have := h1 y hy; simp; omega
      rw [e]
      simp
    · rw [if_neg hx, List.filter_cons_of_pos (by simp [hx])]
      have := ih h2
      simp only [List.length_cons]
      omega
theorem putL_len {l : List N2.Srule_Rule} (hs : Sorted l) (r : N2.Srule_Rule) : (putL l r).length = l.length + 1 - (if (getL l r.ID).isSome = true then 1 else 0) := by
  induction l with
  | nil => simp [putL, getL]
  | cons x t ih =>
    obtain ⟨h1, h2⟩ := List.pairwise_cons.1 hs
    rw [putL]
    split
    · rename_i hx
      have hne : ¬ x.ID = r.ID := by omega
      rw [getL_cons, if_neg hne, List.length_cons, ih h2, List.length_cons]
      split
      · rename_i hh
        have : 0 < t.length := by
          cases t with
          | nil => simp [getL] at hh
          | cons a b => simp
        omega
      · omega
    · have := filter_len hs r.ID
      rw [List.length_cons]
      omega

namespace N2
theorem look_some {s : N2.Srule_Set} {n : Int} {r : N2.Srule_Rule} (hl : s.Rules.length ≤ 1000000) (h : getL s.Rules n = some r) : g20 s n = some (r, true) := by rw [g20_val s n hl, h]
theorem look_none {s : N2.Srule_Set} {n : Int} (hl : s.Rules.length ≤ 1000000) (h : getL s.Rules n = none) : g20 s n = some (zR, false) := by rw [g20_val s n hl, h]

theorem filter_one (l : List N2.Srule_Rule) (n : Int) : (l.filter fun y => !([n] : List Int).contains y.ID) = l.filter fun y => y.ID != n := by
  apply List.filter_congr
  intro y _
  simp only [List.contains_cons, List.contains_nil, Bool.or_false]
  rfl

theorem g7_val (s : N2.Srule_Set) (x : N2.Srule_Rule) : g7 s x = some true := by
  apply g7_of
  unfold b7
  rw [g10_val]
  simp only [Option.bind_some, Bool.not_true, Bool.false_eq_true, if_false]
  unfold b7_r3 b7_r4
  by_cases h40 : 40 < (s.Rules.length : Int)
  · rw [if_pos (by simpa using h40)]
  rw [if_neg (by simpa using h40), g16_val, g21_val]
  simp only [Option.bind_some]
  cases hs : okS s with
  | false => rfl
  | true =>
    cases hx : okR x with
    | false => rfl
    | true =>
      simp only [Bool.not_true, Bool.false_eq_true, if_false]
      obtain ⟨o1, _, o3⟩ := okS_sorted hs
      have hlen := okS_len hs
      unfold b7_r5
      rw [apply_val _ _ (by simp) (by simp)]
      have pl := putL_len o1 x
      by_cases hfull : 16 < (putL s.Rules x).length
      · -- no room
        have hnone : getL s.Rules x.ID = none := by
          cases hg : getL s.Rules x.ID with
          | none => rfl
          | some y => rw [hg] at pl; simp at pl; omega
        have e : applyL s ⟨-1, -1, -1, -1, [x], []⟩ = (zS, 33) := by
          unfold applyL
          simp only [hs, orI_keep, okS_okN hs, Bool.true_eq_false, false_or, if_false, filter_self, List.foldl_cons, List.foldl_nil]
          rw [if_neg (by simp [hx]), if_neg (by simp [ids]), if_neg (by simp), if_pos hfull]
        have hl16 : s.Rules.length = 16 := by rw [hnone] at pl; simp at pl; omega
        simp only [e, Option.bind_some]
        rw [look_none (by omega) hnone]
        simp [hl16]
      · have e : applyL s ⟨-1, -1, -1, -1, [x], []⟩ = (⟨s.Default, s.Closed, s.Fuel, s.Stack, putL s.Rules x⟩, 0) := by
          have := applyL_of (s := s) (d := ⟨-1, -1, -1, -1, [x], []⟩) hs (by simp only [orI_keep]; exact okS_okN hs) (by simp [hx]) (by simp [ids]) (by simp) (by simp only [filter_self, List.foldl_cons, List.foldl_nil]; omega)
          simpa only [filter_self, List.foldl_cons, List.foldl_nil, orI_keep] using this
        have hr := applyL_right e
        have hpn : okN s.Default s.Closed s.Fuel s.Stack = true := okS_okN hs
        have hps : Sorted (putL s.Rules x) := sorted_putL o1 x
        have hpa : (putL s.Rules x).all okR = true := all_putL o3 hx
        have hfl := filter_len hps x.ID
        have hget : getL (putL s.Rules x) x.ID = some x := by rw [getL_putL, if_pos rfl]
        rw [hget] at hfl
        simp only [Option.isSome_some, if_true] at hfl
        have hgf : getL ((putL s.Rules x).filter fun y => y.ID != x.ID) x.ID = none := by rw [getL_filter_ne, if_pos rfl]
        have e2 : applyL ⟨s.Default, s.Closed, s.Fuel, s.Stack, putL s.Rules x⟩ ⟨-1, -1, -1, -1, [], [x.ID]⟩ = (⟨s.Default, s.Closed, s.Fuel, s.Stack, (putL s.Rules x).filter fun y => y.ID != x.ID⟩, 0) := by
          have := applyL_of (s := ⟨s.Default, s.Closed, s.Fuel, s.Stack, putL s.Rules x⟩) (d := ⟨-1, -1, -1, -1, [], [x.ID]⟩) hr (by simp only [orI_keep]; exact hpn) (by simp) (by simp [ids]) (by
            intro n hn
            simp at hn
            subst hn
            rw [← getL_mem, hget]; rfl) (by simp only [filter_one, List.foldl_nil]; omega)
          simpa only [filter_one, List.foldl_nil, orI_keep] using this
        have e3 : ∀ t : N2.Srule_Set, applyL ⟨s.Default, s.Closed, s.Fuel, s.Stack, (putL s.Rules x).filter fun y => y.ID != x.ID⟩ ⟨-1, -1, -1, -1, [], [x.ID]⟩ = (zS, 32) := by
          intro _
          unfold applyL
          rw [if_neg (by simp [applyL_right e2]), if_neg (by simp [orI_keep, hpn]), if_neg (by simp [ids]), if_pos]
          intro hh
          have := hh x.ID (by simp)
          rw [← getL_mem, hgf] at this
          simp at this
        simp only [e, Option.bind_some]
        rw [show g20 s x.ID = some (match getL s.Rules x.ID with | some r => (r, true) | none => (zR, false)) from g20_val s x.ID (by omega)]
        simp only [Option.bind_some, bne_self_eq_false, Bool.false_eq_true, if_false]
        unfold b7_r10
        rw [look_some (s := ⟨s.Default, s.Closed, s.Fuel, s.Stack, putL s.Rules x⟩) (by simp only; omega) hget]
        simp only [Option.bind_some]
        rw [apply_val _ _ (by simp) (by simp), e2]
        simp only [Option.bind_some]
        rw [look_none (s := ⟨s.Default, s.Closed, s.Fuel, s.Stack, (putL s.Rules x).filter fun y => y.ID != x.ID⟩) (by simp only; omega) hgf]
        simp only [Option.bind_some]
        rw [apply_val _ _ (by simp) (by simp), e3 s]
        simp only [Option.bind_some]
        have hxx := eqR_iff.2 (rfl : x = x)
        unfold eqR at hxx
        cases hg : getL s.Rules x.ID with
        | none =>
          rw [hg] at pl
          simp only [Option.isSome_none, Bool.false_eq_true, if_false, Nat.sub_zero] at pl
          simp only [Bool.false_eq_true, if_false]
          unfold b7_r18
          simp only [hxx, if_true, beq_self_eq_true, Bool.not_false]
          have : ((putL s.Rules x).filter fun y => y.ID != x.ID).length = s.Rules.length := by omega
          simp [this, seq_eq]
        | some y =>
          rw [hg] at pl
          simp only [Option.isSome_some, if_true, Nat.add_sub_cancel] at pl
          simp only [if_true]
          unfold b7_r18
          simp only [hxx, if_true, beq_self_eq_true, Bool.not_false]
          have hpos : 0 < s.Rules.length := by
            cases hr : s.Rules with
            | nil => rw [hr] at hg; simp [getL] at hg
            | cons a b => simp
          have h1 : (((putL s.Rules x).filter fun y => y.ID != x.ID).length : Int) = (s.Rules.length : Int) - 1 := by omega
          rw [wrap_i64 (by omega) (by omega)]
          simp [h1, seq_eq]
end N2
end Go.Proofs.Ytbmmhbpalkepeaa
end
