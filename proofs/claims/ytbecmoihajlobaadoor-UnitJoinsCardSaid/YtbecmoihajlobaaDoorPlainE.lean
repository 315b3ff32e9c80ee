/- UnitJoins in the evaluator. -/
import Derived.Test.YtbecmoihajlobaaDoorPlainD

section
set_option linter.unusedSimpArgs false
set_option linter.unusedVariables false
/- The law UnitJoins. -/
namespace Go.Proofs.YtbecmoihajlobaaDoor
open Go Go.Abs Go.RowKit

theorem units_chars : ∀ (l : List Int), (∀ u ∈ l, isC u) → units (l.flatMap encU) = l := by
  intro l
  induction l with
  | nil => intro _; rfl
  | cons u r ih =>
    intro h
    have hc := h u (List.mem_cons_self ..)
    unfold isC at hc
    obtain ⟨n, rfl⟩ : ∃ n : Nat, u = n := ⟨u.toNat, by omega⟩
    have hn : n < 55296 ∨ (57343 < n ∧ n ≤ 1114111) := by omega
    rw [List.flatMap_cons, encU_char hn, units_char hn, ih fun v hv => h v (List.mem_cons_of_mem _ hv)]

theorem isChar_eq (u : Int) : N2.isChar u = decide (isC u) := rfl

theorem stray_right {u : Int} (h : strayB u = true) : rightB u = true := by unfold rightB; rw [h, Bool.or_true]

theorem right_cases {u : Int} (h : rightB u = true) : (strayB u = true ∧ 1114112 ≤ u ∧ u ≤ 1114367) ∨ (strayB u = false ∧ isC u ∧ ¬ 1114112 ≤ u) := by
  cases hs : strayB u with
  | true =>
    have hs' : 1114240 ≤ u ∧ u ≤ 1114367 := by unfold strayB at hs; exact of_decide_eq_true hs
    exact .inl ⟨rfl, by omega, by omega⟩
  | false =>
    unfold rightB at h
    rw [hs, Bool.or_false] at h
    have hc := of_decide_eq_true h
    exact .inr ⟨rfl, hc, by unfold isC at hc; omega⟩

theorem encU_length (l : List Int) : (l.flatMap encU).length ≤ 4 * l.length := by
  induction l with
  | nil => simp
  | cons u r ih =>
    have := encU_len u
    rw [List.flatMap_cons, List.length_append, List.length_cons]
    omega

namespace N2
theorem rright_val (u : Int) : EE 20 [.p (.v (.int .i64 u))] [] = some (.p (.v (.bool (rightB u))), []) := by
  rw [f20_eq]
  simp only [mk_eq, shr_v, callChar, asB_b, isChar_eq, iv]
  by_cases h : isC u
  · have e : rightB u = true := by unfold rightB; rw [decide_eq_true h, Bool.true_or]
    rw [decide_eq_true h, br_t, e]
    rfl
  · have e : rightB u = strayB u := by unfold rightB; rw [decide_eq_false h, Bool.false_or]
    rw [decide_eq_false h, br_f, e]
    unfold strayB
    by_cases h1 : 1114240 ≤ u
    · simp only [x_geq, ob_sm, shr_v, asB_b, h1, decide_true, br_t, x_leq, true_and]
      rfl
    · simp only [x_geq, ob_sm, shr_v, asB_b, h1, decide_false, br_f, false_and]
      rfl

theorem callRRight (u : Int) : callS false EE 20 [.p (.v (.int .i64 u))] [] = fun k => k (.p (.v (.bool (rightB u)))) [] := callS_f [.v (.int .i64 u)] (rright_val u)

theorem joins_end {l : List Int} (hl : l.length ≤ 300) (hr : l.all rightB = true) (m0 : Nat) :
    f8_r20 m0 (.p (.lst .sh (il l))) (.p (.lst (accB (l.flatMap encU)) (bl (l.flatMap encU)))) (.p (.v (.bool (l.all fun u => decide (isC u))))) [] = some (.p (.v (.bool true)), []) := by
  have hn := encU_length l
  have hj : joinR [] l = .tup [.lst .sh (bl (l.flatMap encU)), .v (.int .i64 0)] := by
    unfold joinR
    rw [if_pos hr]
    rfl
  obtain ⟨o2, e2⟩ := shr_lst (accB (l.flatMap encU)) (bl (l.flatMap encU))
  rw [f8_r20_eq]
  simp only [mk_eq, shr_sh, callJoin .sh (show l.length ≤ 100000 by omega), hj, shr_tup, List.map_cons, List.map_nil, shrP_v, shrP_sh, x_ext0, x_ext1, ob_sm, shr_v, iv, x_eql, beq_self_eq_true, asB_b, br_t, str_bl, e2, x_seql, x_not]
  cases hp : l.all fun u => decide (isC u) with
  | false => rfl
  | true =>
    have hu : units (l.flatMap encU) = l := units_chars l fun u hu => of_decide_eq_true (List.all_eq_true.1 hp u hu)
    simp only [Bool.not_true, br_f, callSplit (show (l.flatMap encU).length ≤ 1099511627776 by omega), hu, callSame (show l.length ≤ 1099511627776 by omega), decide_true]
    rfl

theorem joins_loop {l : List Int} (hl : l.length ≤ 300) (m0 : Nat) : ∀ d i, i + d = l.length → (l.take i).all rightB = true →
    f8_l8 m0 (.p (.lst .sh (il l))) (.p (.lst (accB ((l.take i).flatMap encU)) (bl ((l.take i).flatMap encU)))) (.p (.v (.bool ((l.take i).all fun u => decide (isC u))))) (.p (.lst .sh (il l))) (.p (.v (.int .i64 l.length))) (.p (.v (.int .i64 (i : Nat)))) [] = some (.p (.v (.bool true)), []) := by
  intro d
  induction d with
  | zero =>
    intro i h hr
    have h0 : ¬ (i : Int) < l.length := by omega
    rw [f8_l8_eq]
    simp only [mk_eq, x_lss, ob_sm, asB_b, h0, decide_false, br_f, gcB_nil]
    rw [List.take_of_length_le (by omega)] at hr ⊢
    exact joins_end hl hr _
  | succ d ih =>
    intro i h hr
    have h0 : (i : Int) < l.length := by omega
    have hi : i < l.length := by omega
    have hacc := encU_length (l.take i)
    rw [List.length_take, Nat.min_eq_left (by omega)] at hacc
    have ht : l.take (i + 1) = l.take i ++ [l[i]] := by rw [List.take_succ_eq_append_getElem hi]
    rw [f8_l8_eq]
    simp only [mk_eq, x_lss, ob_sm, asB_b, h0, decide_true, br_t, gcB_nil]
    have hmem : l[i] ∈ l := List.getElem_mem hi
    rw [f8_r9_eq]
    simp only [mk_eq, xidx_il hi, ob_sm, ldN_one]
    have ih' := ih (i + 1) (by omega)
    rw [ht] at ih'
    generalize hu : l[i] = u at *
    have e4 := encU_len u
    -- what is behind the tests
    have r12 : f8_r12 m0 (.p (.lst .sh (il l))) (.p (.lst (accB ((l.take i).flatMap encU)) (bl ((l.take i).flatMap encU)))) (.p (.v (.bool ((l.take i).all fun u => decide (isC u))))) (.p (.v (.int .i64 u))) (.p (.lst .sh (il l))) (.p (.v (.int .i64 l.length))) (.p (.v (.int .i64 (i : Nat)))) [] = some (.p (.v (.bool true)), []) := by
      rw [f8_r12_eq]
      simp only [mk_eq, shr_v, callRRight, x_not, ob_sm, asB_b]
      cases hru : rightB u with
      | false =>
        have hall : ¬ l.all rightB = true := fun e => by
          have := List.all_eq_true.1 e u hmem
          rw [hru] at this
          cases this
        have hj : joinR [] l = .tup [.lst .sh [], .v (.int .i64 10)] := by
          unfold joinR
          rw [if_neg hall]
        rw [show (!false) = true from rfl, br_t]
        simp only [shr_sh, callJoin .sh (show l.length ≤ 100000 by omega), hj, shr_tup, List.map_cons, List.map_nil, shrP_v, shrP_sh, x_ext0, x_ext1, ob_sm, shr_v, iv, x_eql, beq_self_eq_true, asB_b, br_t, x_len Tryd.underlying22, List.length_nil]
        rfl
      | true =>
        have hall : (l.take i ++ [u]).all rightB = true := by
          rw [List.all_append, hr]
          simp [hru]
        have ih2 := ih' hall
        rw [show (!true) = false from rfl, br_f, gcB_nil, f8_r15_eq]
        simp only [mk_eq, shr_v, iv, x_geq, ob_sm, asB_b]
        rcases right_cases hru with ⟨hs, h1, h2⟩ | ⟨hs, hc, h1⟩
        · have e1 : [PV.v (.int .u8 (u - 1114112))] = bl (encU u) := by
            unfold encU
            have hs' : 1114240 ≤ u ∧ u ≤ 1114367 := by unfold strayB at hs; exact of_decide_eq_true hs
            rw [if_pos hs]
            simp only [bl, List.map_cons, List.map_nil, u8_toNat (show (u - 1114112).toNat < 256 by omega)]
            rw [show ((u - 1114112).toNat : Int) = u - 1114112 by omega]
          have ef : ((l.take i ++ [u]).all fun u => decide (isC u)) = false := by
            rw [List.all_append]
            have : ¬ isC u := by unfold isC; omega
            simp only [List.all_cons, List.all_nil, Bool.and_true, decide_eq_false this, Bool.and_false]
          rw [decide_eq_true h1, br_t, x_sub, wrap_i64 (by omega) (by omega), ob_sm, c8 _ (by omega) (by omega), ob_sm, lit1, ob_sm, e1, xapp_acc (encU_ne u) (by omega), ob_sm, gcB_nil, f8_r19_eq]
          simp only [mk_eq, x_add, iv, ob_sm, shr_v, gcB_nil]
          rw [wrap_i64 (by omega) (by omega), show (i : Int) + 1 = ((i + 1 : Nat) : Int) by omega]
          rw [ef, List.flatMap_append, List.flatMap_cons, List.flatMap_nil, List.append_nil] at ih2
          exact ih2
        · have hc' := hc
          unfold isC at hc'
          obtain ⟨n, rfl⟩ : ∃ n : Nat, u = n := ⟨u.toNat, by omega⟩
          have hn : n < 55296 ∨ (57343 < n ∧ n ≤ 1114111) := by omega
          have e1 := encU_char hn
          have ef : ((l.take i ++ [(n : Int)]).all fun u => decide (isC u)) = (l.take i).all fun u => decide (isC u) := by
            rw [List.all_append]
            simp only [List.all_cons, List.all_nil, Bool.and_true, decide_eq_true hc]
          have en := encB_len n
          rw [decide_eq_false h1, br_f, callBytes (show n ≤ 1114111 by omega)]
          simp only []
          rw [xapp_acc (encB_ne n) (by omega), ob_sm, gcB_nil, f8_r19_eq]
          simp only [mk_eq, x_add, iv, ob_sm, shr_v, gcB_nil]
          rw [wrap_i64 (by omega) (by omega), show (i : Int) + 1 = ((i + 1 : Nat) : Int) by omega]
          rw [ef, List.flatMap_append, List.flatMap_cons, List.flatMap_nil, List.append_nil, e1] at ih2
          exact ih2
    simp only [shr_v, callRight, callRRight, callStray, x_bneq, ob_sm, asB_b, bne_self_eq_false, br_f]
    cases hru : rightB u with
    | true =>
      have eb : (strayB u != decide (1114112 ≤ u)) = false := by
        rcases right_cases hru with ⟨hs, h1, h2⟩ | ⟨hs, hc, h1⟩
        · rw [hs, decide_eq_true h1]; rfl
        · rw [hs, decide_eq_false h1]; rfl
      rw [br_t]
      simp only [x_geq, iv, ob_sm, shr_v, x_bneq, eb, asB_b, br_f, gcB_nil]
      exact r12
    | false =>
      have hs : strayB u = false := by
        cases h : strayB u with
        | false => rfl
        | true => rw [stray_right h] at hru; cases hru
      rw [br_f]
      simp only [hs, bv, x_bneq, ob_sm, shr_v, asB_b, bne_self_eq_false, br_f, gcB_nil]
      exact r12

theorem joins_val (l : List Int) : EE 8 [.p (.lst .sh (il l))] [] = some (.p (.v (.bool true)), []) := by
  rw [f8_eq]
  simp only [mk_eq, callAnchor, x_not, ob_sm, asB_b, Bool.not_true, br_f, gcB_nil, f8_r3_eq, shr_sh, x_len Tryd.underlying27, il_len, iv, x_gtr]
  by_cases hl : (300 : Int) < l.length
  · simp only [hl, decide_true, br_t]
    rfl
  · simp only [hl, decide_false, br_f]
    rw [f8_r5_eq]
    simp only [mk_eq, shr_sh, x_len Tryd.underlying27, il_len, ob_sm, gcB_nil, iv]
    exact joins_loop (l := l) (by omega) _ l.length 0 (by omega) rfl
end N2
end Go.Proofs.YtbecmoihajlobaaDoor
end
