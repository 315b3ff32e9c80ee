/- Units of bytes one behind the other; Right and Stray; UnitCounts in the evaluator. -/
import Derived.Test.YtbecmoihajlobaaDoorPlain

section
set_option linter.unusedSimpArgs false
set_option linter.unusedVariables false
/- Units of bytes one behind the other. -/
namespace Go.Proofs.YtbecmoihajlobaaDoor
open Go Go.Abs Go.RowKit

/-- The first unit of bytes, and its size. -/
def U (s : List UInt8) : Int × Nat := strayed (nth s 0) (dec s.length (nth s 0) (nth s 1) (nth s 2) (nth s 3))

theorem unitAt_U {l : List UInt8} {i : Nat} (h : i < l.length) : unitAt l i = U (l.drop i) := by
  have hne : l.drop i ≠ [] := by
    intro e
    have := congrArg List.length e
    simp at this
    omega
  have h0 : (l.drop i).getD 0 0 = l.getD i 0 := by simp
  unfold unitAt U strayed
  simp only [dec_eq hne]
  unfold nth
  rw [h0]

theorem from_shift {F F' : Nat → Int} {N N' : Nat → Nat} {i n n' : Nat} (hn : n = i + n') (hF : ∀ j, j < n' → F (i + j) = F' j) (hN : ∀ j, j < n' → N (i + j) = N' j) : ∀ k j, Tryd.from F N n k (i + j) = Tryd.from F' N' n' k j := by
  intro k
  induction k with
  | zero => intro j; rfl
  | succ k ih =>
    intro j
    unfold Tryd.from
    by_cases hj : j < n'
    · rw [if_pos (by omega), if_pos hj, hF j hj, hN j hj, Nat.add_assoc, ih]
    · rw [if_neg (by omega), if_neg hj]

theorem unitAt_size {l : List UInt8} {i : Nat} (h : i < l.length) : 1 ≤ (unitAt l i).2 := by
  have hb := decode_bounds ⟨(l.drop i).toArray⟩
  have hs : (⟨(l.drop i).toArray⟩ : ByteArray).size ≠ 0 := by
    show (l.drop i).toArray.size ≠ 0
    simp
    omega
  unfold unitAt
  simp only
  split
  · simp
  · exact hb.2.1 hs

theorem units_nil : units [] = [] := rfl

theorem units_step {l : List UInt8} (h : l ≠ []) : units l = (U l).1 :: units (l.drop (U l).2) := by
  have h0 : 0 < l.length := by cases l with | nil => exact absurd rfl h | cons a r => simp
  have e : U l = unitAt l 0 := by rw [unitAt_U h0]; rfl
  unfold units
  rw [Tryd.from_step (fun j hj => unitAt_size hj) h0, ← e, Nat.zero_add]
  congr 1
  by_cases hk : (U l).2 ≤ l.length
  · have hs : ∀ j, j < (l.drop (U l).2).length → unitAt l ((U l).2 + j) = unitAt (l.drop (U l).2) j := by
      intro j hj
      rw [List.length_drop] at hj
      rw [unitAt_U (by omega), unitAt_U (by rw [List.length_drop]; omega), List.drop_drop]
    have := from_shift (F := fun i => (unitAt l i).1) (N := fun i => (unitAt l i).2) (i := (U l).2) (n := l.length) (n' := (l.drop (U l).2).length) (by rw [List.length_drop]; omega) (fun j hj => by rw [hs j hj]) (fun j hj => by rw [hs j hj]) l.length 0
    rw [Nat.add_zero] at this
    rw [this]
    exact Tryd.from_fuel (fun j hj => unitAt_size hj) _ _ _ (by rw [List.length_drop]; omega) (by omega)
  · rw [Tryd.from_end (by omega), List.drop_of_length_le (by omega)]
    rfl

/-- Is there a further byte of a character at a place? -/
def more (n j b : Nat) : Prop := j < n ∧ b / 64 = 2

theorem dec_alike {n n' a b c d b' c' d' : Nat} (hb : (more n 1 b ↔ more n' 1 b') ∧ (more n 1 b → b = b')) (hc : more n 1 b → (more n 2 c ↔ more n' 2 c') ∧ (more n 2 c → c = c'))
    (hd : more n 1 b → more n 2 c → (more n 3 d ↔ more n' 3 d') ∧ (more n 3 d → d = d')) : dec n a b c d = dec n' a b' c' d' := by
  unfold more at hb hc hd
  unfold dec
  by_cases h1 : 1 < n ∧ b / 64 = 2
  · have h1' := hb.1.1 h1
    have e1 := hb.2 h1
    subst e1
    by_cases h2 : 2 < n ∧ c / 64 = 2
    · have h2' := (hc h1).1.1 h2
      have e2 := (hc h1).2 h2
      subst e2
      by_cases h3 : 3 < n ∧ d / 64 = 2
      · have h3' := (hd h1 h2).1.1 h3
        have e3 := (hd h1 h2).2 h3
        subst e3
        simp only [h1, h1', h2, h2', h3, h3', true_and, and_true]
      · have h3' : ¬ (3 < n' ∧ d' / 64 = 2) := fun h => h3 ((hd h1 h2).1.2 h)
        simp only [h1, h1', h2, h2', true_and, and_true, h3, h3', and_false, if_false]
    · have h2' : ¬ (2 < n' ∧ c' / 64 = 2) := fun h => h2 ((hc h1).1.2 h)
      simp only [h1, h1', true_and, and_true, h2, h2', false_and, and_false, if_false]
  · have h1' : ¬ (1 < n' ∧ b' / 64 = 2) := fun h => h1 (hb.1.2 h)
    simp only [h1, h1', false_and, and_false, if_false]

theorem dec_size {n a b c d : Nat} (h : 1 ≤ n) : (dec n a b c d).2 ≤ n := by
  unfold dec
  refine ite_le (P := fun r => r.2 ≤ n) (fun _ => h) fun _ => ?_
  refine ite_le (P := fun r => r.2 ≤ n) (fun h1 => ite_le (P := fun r => r.2 ≤ n) (fun _ => h1.2.1) fun _ => h) fun _ => ?_
  refine ite_le (P := fun r => r.2 ≤ n) (fun h1 => ite_le (P := fun r => r.2 ≤ n) (fun _ => h1.2.2.1) fun _ => h) fun _ => ?_
  exact ite_le (P := fun r => r.2 ≤ n) (fun h1 => ite_le (P := fun r => r.2 ≤ n) (fun _ => h1.2.2.2.1) fun _ => h) fun _ => h

theorem strayed_size {a n : Nat} {r : Nat × Nat} (h : r.2 ≤ n) : (strayed a r).2 ≤ n := by
  unfold strayed
  split
  · rename_i h1; simpa [h1.2] using h
  · exact h

theorem U_size {l : List UInt8} (h : l ≠ []) : (U l).2 ≤ l.length :=
  strayed_size (dec_size (by cases l with | nil => exact absurd rfl h | cons a r => simp))

/-- No character's further byte is first. -/
def fresh (s : List UInt8) : Prop := nth s 0 / 64 ≠ 2 ∨ s = []

theorem nth_app_l {a s : List UInt8} {j : Nat} (h : j < a.length) : nth (a ++ s) j = nth a j := by
  unfold nth
  rw [List.getD_eq_getElem?_getD, List.getD_eq_getElem?_getD, List.getElem?_append_left h]
theorem nth_app_r {a s : List UInt8} {j : Nat} (h : a.length = j) : nth (a ++ s) j = nth s 0 := by
  unfold nth
  rw [List.getD_eq_getElem?_getD, List.getD_eq_getElem?_getD, List.getElem?_append_right (by omega), show j - a.length = 0 by omega]

theorem more_app {a s : List UInt8} (hs : fresh s) {j : Nat} (hj : j ≤ a.length) : (more a.length j (nth a j) ↔ more (a ++ s).length j (nth (a ++ s) j)) ∧ (more a.length j (nth a j) → nth a j = nth (a ++ s) j) := by
  by_cases h : j < a.length
  · rw [nth_app_l h]
    unfold more
    simp only [List.length_append]
    exact ⟨⟨fun h => ⟨by omega, h.2⟩, fun h' => ⟨h, h'.2⟩⟩, fun _ => trivial⟩
  · have e : a.length = j := by omega
    rw [nth_app_r e]
    refine ⟨⟨fun h' => absurd h'.1 h, fun h' => ?_⟩, fun h' => absurd h'.1 h⟩
    unfold more at h'
    rcases hs with h1 | h1
    · exact absurd h'.2 h1
    · subst h1; simp at h'; omega

theorem U_app {a s : List UInt8} (ha : a ≠ []) (hs : fresh s) : U (a ++ s) = U a := by
  have h0 : 0 < a.length := by cases a with | nil => exact absurd rfl ha | cons x r => simp
  unfold U
  rw [nth_app_l h0]
  congr 1
  refine (dec_alike (more_app hs (by omega)) (fun h1 => more_app hs (by have := h1.1; omega)) (fun _ h2 => more_app hs (by have := h2.1; omega))).symm

theorem units_app {s : List UInt8} (hs : fresh s) : ∀ n (a : List UInt8), a.length ≤ n → units (a ++ s) = units a ++ units s := by
  intro n
  induction n with
  | zero =>
    intro a h
    have : a = [] := List.length_eq_zero_iff.1 (by omega)
    subst this
    rfl
  | succ n ih =>
    intro a h
    by_cases ha : a = []
    · subst ha; rfl
    · have h1 := unitAt_size (l := a) (i := 0) (by cases a with | nil => exact absurd rfl ha | cons x r => simp)
      rw [unitAt_U (by cases a with | nil => exact absurd rfl ha | cons x r => simp)] at h1
      have h1' : 1 ≤ (U a).2 := h1
      rw [units_step (l := a ++ s) (by simp [ha]), units_step ha, U_app ha hs, List.drop_append_of_le_length (U_size ha), ih _ (by rw [List.length_drop]; omega)]
      rfl

theorem units_byte {c : UInt8} {b : List UInt8} (h : c.toNat < 128) : units (c :: b) = (c.toNat : Int) :: units b := by
  have hU : U (c :: b) = ((c.toNat : Int), 1) := by
    unfold U
    have e : nth (c :: b) 0 = c.toNat := rfl
    rw [e]
    unfold dec
    rw [if_pos h, strayed_good (.inr (by omega))]
  rw [units_step (by simp), hU]
  rfl

theorem fresh_byte {c : UInt8} {b : List UInt8} (h : c.toNat < 128) : fresh (c :: b) := by
  refine .inl ?_
  have e : nth (c :: b) 0 = c.toNat := rfl
  rw [e]
  omega

theorem units_turned (a : List UInt8) (c : UInt8) (b : List UInt8) (h : c.toNat < 128) : units (a ++ [c] ++ b) = units a ++ [(c.toNat : Int)] ++ units b := by
  rw [List.append_assoc, List.singleton_append, units_app (fresh_byte h) _ a (Nat.le_refl _), units_byte h, List.append_assoc]
  rfl
end Go.Proofs.YtbecmoihajlobaaDoor
end

section
set_option linter.unusedSimpArgs false
set_option linter.unusedVariables false
/- Right, Stray; the law UnitCounts. -/
namespace Go.Proofs.YtbecmoihajlobaaDoor
open Go Go.Abs Go.RowKit

/-- What a unit is. -/
def Kind (r : Int × Nat) : Prop :=
  (∃ x : Nat, 128 ≤ x ∧ x < 256 ∧ r = (1114112 + (x : Int), 1)) ∨ (∃ m k : Nat, r = ((m : Int), k) ∧ (m < 55296 ∨ (57343 < m ∧ m ≤ 1114111)) ∧ (k = 1 ↔ m < 128) ∧ 1 ≤ k ∧ k ≤ 4)

theorem kind_dec {n a b c d : Nat} (ha : a < 256) : Kind (strayed a (dec n a b c d)) := by
  have bad : ∀ _ : ¬ a < 128, Kind (strayed a (65533, 1)) := fun h => .inl ⟨a, by omega, ha, strayed_bad a⟩
  unfold dec
  refine ite_le (P := fun r => Kind (strayed a r)) (fun h => .inr ⟨a, 1, strayed_good (.inr (by omega)), by omega, by omega, by omega, by omega⟩) fun h0 => ?_
  refine ite_le (P := fun r => Kind (strayed a r)) (fun h1 => ite_le (P := fun r => Kind (strayed a r)) (fun h => .inr ⟨_, 2, strayed_good (.inl (by omega)), by omega, by omega, by omega, by omega⟩) fun _ => bad h0) fun _ => ?_
  refine ite_le (P := fun r => Kind (strayed a r)) (fun h1 => ite_le (P := fun r => Kind (strayed a r)) (fun h => .inr ⟨_, 3, strayed_good (.inl (by omega)), by have := (valid_iff _).1 h.2; omega, by omega, by omega, by omega⟩) fun _ => bad h0) fun _ => ?_
  refine ite_le (P := fun r => Kind (strayed a r)) (fun h1 => ite_le (P := fun r => Kind (strayed a r)) (fun h => .inr ⟨_, 4, strayed_good (.inl (by omega)), by have := (valid_iff _).1 h.2; omega, by omega, by omega, by omega⟩) fun _ => bad h0) fun _ => bad h0

theorem kind_unit {l : List UInt8} {i : Nat} (h : i < l.length) : Kind (unitAt l i) ∧ i + (unitAt l i).2 ≤ l.length := by
  rw [unitAt_U h]
  refine ⟨kind_dec (nth_lt _ _), ?_⟩
  have := U_size (l := l.drop i) (fun e => by have := congrArg List.length e; simp at this; omega)
  rw [List.length_drop] at this
  omega

/-- Is a number a unit? A stray one? -/
def strayB (u : Int) : Bool := decide (1114240 ≤ u ∧ u ≤ 1114367)
def rightB (u : Int) : Bool := decide (isC u) || strayB u

theorem kind_right {r : Int × Nat} (h : Kind r) : rightB r.1 = true ∧ 1 ≤ r.2 ∧ r.2 ≤ 4 ∧ (strayB r.1 = true → r.2 = 1) ∧ (strayB r.1 = false → (r.2 = 1 ↔ r.1 < 128)) := by
  rcases h with ⟨x, h1, h2, rfl⟩ | ⟨m, k, rfl, h1, h2, h3, h4⟩
  · have e : strayB (1114112 + (x : Int)) = true := by unfold strayB; exact decide_eq_true (by omega)
    refine ⟨by unfold rightB; rw [e, Bool.or_true], Nat.le_refl _, by show 1 ≤ 4; omega, fun _ => rfl, fun h => ?_⟩
    rw [e] at h
    cases h
  · have e : strayB (m : Int) = false := by unfold strayB; exact decide_eq_false (by omega)
    have e2 : isC (m : Int) := by unfold isC; omega
    refine ⟨by unfold rightB; rw [decide_eq_true e2, Bool.true_or], h3, h4, fun h => ?_, fun _ => ?_⟩
    · rw [e] at h
      cases h
    · show k = 1 ↔ (m : Int) < 128
      omega

namespace N2
theorem x_bneq (a b : Bool) : xbin PP .neq 4 (.p (.v (.bool a))) (.p (.v (.bool b))) = some (.p (.v (.bool (a != b)))) := by cases a <;> cases b <;> kernel_rfl
theorem stray_val (u : Int) : EE 18 [.p (.v (.int .i64 u))] [] = some (.p (.v (.bool (strayB u))), []) := by
  rw [f18_eq]
  unfold strayB
  by_cases h1 : 1114240 ≤ u
  · simp only [mk_eq, lp_eq, iv, kv, bv, shr_v, shr_sh, shr_un, shr_ex, shr_nl, shr_tup, shr_agg, List.map_cons, List.map_nil, shrP_v, shrP_sh, nrm_v, nrm_lst, x_ext0, x_ext1, x_ext2, ob_sm, asB_b, gcB_nil, x_lss, x_leq, x_gtr, x_geq, x_eql, x_neq, x_add, x_sub, x_mul, x_not, x_seql, x_sneq, decide_true, decide_false, br_t, br_f, h1, true_and]
    rfl
  · simp only [mk_eq, lp_eq, iv, kv, bv, shr_v, shr_sh, shr_un, shr_ex, shr_nl, shr_tup, shr_agg, List.map_cons, List.map_nil, shrP_v, shrP_sh, nrm_v, nrm_lst, x_ext0, x_ext1, x_ext2, ob_sm, asB_b, gcB_nil, x_lss, x_leq, x_gtr, x_geq, x_eql, x_neq, x_add, x_sub, x_mul, x_not, x_seql, x_sneq, decide_true, decide_false, br_t, br_f, h1, false_and]
    rfl

theorem valid_val {u : Int} : EE 24 [.p (.v (.int .i32 u))] [] = some (.p (.v (.bool (decide (isC u)))), []) := by
  rw [f24_eq]
  unfold isC
  by_cases h1 : 0 ≤ u
  · by_cases h2 : u < 55296
    · have h3 : 0 ≤ u ∧ u ≤ 1114111 ∧ (u < 55296 ∨ 57343 < u) := by omega
      simp only [mk_eq, lp_eq, iv, kv, bv, shr_v, shr_sh, shr_un, shr_ex, shr_nl, shr_tup, shr_agg, List.map_cons, List.map_nil, shrP_v, shrP_sh, nrm_v, nrm_lst, x_ext0, x_ext1, x_ext2, ob_sm, asB_b, gcB_nil, x_lss, x_leq, x_gtr, x_geq, x_eql, x_neq, x_add, x_sub, x_mul, x_not, x_seql, x_sneq, decide_true, decide_false, br_t, br_f, h1, h2, f24_r2_eq, decide_eq_true h3]
      simp only [h3, decide_true]
      rfl
    · by_cases h3 : 57343 < u
      · by_cases h4 : u ≤ 1114111
        · have h5 : 0 ≤ u ∧ u ≤ 1114111 ∧ (u < 55296 ∨ 57343 < u) := by omega
          simp only [mk_eq, lp_eq, iv, kv, bv, shr_v, shr_sh, shr_un, shr_ex, shr_nl, shr_tup, shr_agg, List.map_cons, List.map_nil, shrP_v, shrP_sh, nrm_v, nrm_lst, x_ext0, x_ext1, x_ext2, ob_sm, asB_b, gcB_nil, x_lss, x_leq, x_gtr, x_geq, x_eql, x_neq, x_add, x_sub, x_mul, x_not, x_seql, x_sneq, decide_true, decide_false, br_t, br_f, h1, h2, h3, h4, f24_r3_eq, f24_r4_eq, true_and, or_true]
          rfl
        · simp only [mk_eq, lp_eq, iv, kv, bv, shr_v, shr_sh, shr_un, shr_ex, shr_nl, shr_tup, shr_agg, List.map_cons, List.map_nil, shrP_v, shrP_sh, nrm_v, nrm_lst, x_ext0, x_ext1, x_ext2, ob_sm, asB_b, gcB_nil, x_lss, x_leq, x_gtr, x_geq, x_eql, x_neq, x_add, x_sub, x_mul, x_not, x_seql, x_sneq, decide_true, decide_false, br_t, br_f, h1, h2, h3, h4, f24_r3_eq, f24_r5_eq, false_and, and_false]
          rfl
      · simp only [mk_eq, lp_eq, iv, kv, bv, shr_v, shr_sh, shr_un, shr_ex, shr_nl, shr_tup, shr_agg, List.map_cons, List.map_nil, shrP_v, shrP_sh, nrm_v, nrm_lst, x_ext0, x_ext1, x_ext2, ob_sm, asB_b, gcB_nil, x_lss, x_leq, x_gtr, x_geq, x_eql, x_neq, x_add, x_sub, x_mul, x_not, x_seql, x_sneq, decide_true, decide_false, br_t, br_f, h1, h2, h3, f24_r3_eq, f24_r5_eq, or_self, and_false]
        rfl
  · have h2 : ¬ 57343 < u := by omega
    simp only [mk_eq, lp_eq, iv, kv, bv, shr_v, shr_sh, shr_un, shr_ex, shr_nl, shr_tup, shr_agg, List.map_cons, List.map_nil, shrP_v, shrP_sh, nrm_v, nrm_lst, x_ext0, x_ext1, x_ext2, ob_sm, asB_b, gcB_nil, x_lss, x_leq, x_gtr, x_geq, x_eql, x_neq, x_add, x_sub, x_mul, x_not, x_seql, x_sneq, decide_true, decide_false, br_t, br_f, h1, h2, f24_r3_eq, f24_r5_eq, false_and]
    rfl

theorem callStray (u : Int) : callS false EE 18 [.p (.v (.int .i64 u))] [] = fun k => k (.p (.v (.bool (strayB u)))) [] := callS_f [.v (.int .i64 u)] (stray_val u)
theorem callValid (u : Int) : callS false EE 24 [.p (.v (.int .i32 u))] [] = fun k => k (.p (.v (.bool (decide (isC u))))) [] := callS_f [.v (.int .i32 u)] valid_val

theorem right_val (u : Int) : EE 17 [.p (.v (.int .i64 u))] [] = some (.p (.v (.bool (rightB u))), []) := by
  rw [f17_eq]
  unfold rightB
  by_cases h1 : 0 ≤ u
  · by_cases h2 : u < 1114112
    · simp only [mk_eq, lp_eq, iv, kv, bv, shr_v, shr_sh, shr_un, shr_ex, shr_nl, shr_tup, shr_agg, List.map_cons, List.map_nil, shrP_v, shrP_sh, nrm_v, nrm_lst, x_ext0, x_ext1, x_ext2, ob_sm, asB_b, gcB_nil, x_lss, x_leq, x_gtr, x_geq, x_eql, x_neq, x_add, x_sub, x_mul, x_not, x_seql, x_sneq, decide_true, decide_false, br_t, br_f, h1, h2]
      rw [x_cnv Tryd.underlying3 Tryd.underlying21, wrap_i32 (by omega) (by omega)]
      simp only [ob_sm, callValid, shr_v, asB_b]
      by_cases h3 : isC u
      · simp only [decide_eq_true h3, br_t, Bool.true_or]
        rfl
      · simp only [decide_eq_false h3, br_f, Bool.false_or, callStray, shr_v]
        rfl
    · have h3 : ¬ isC u := by unfold isC; omega
      simp only [mk_eq, lp_eq, iv, kv, bv, shr_v, shr_sh, shr_un, shr_ex, shr_nl, shr_tup, shr_agg, List.map_cons, List.map_nil, shrP_v, shrP_sh, nrm_v, nrm_lst, x_ext0, x_ext1, x_ext2, ob_sm, asB_b, gcB_nil, x_lss, x_leq, x_gtr, x_geq, x_eql, x_neq, x_add, x_sub, x_mul, x_not, x_seql, x_sneq, decide_true, decide_false, br_t, br_f, h1, h2, decide_eq_false h3, Bool.false_or, callStray]
      rfl
  · have h3 : ¬ isC u := by unfold isC; omega
    simp only [mk_eq, lp_eq, iv, kv, bv, shr_v, shr_sh, shr_un, shr_ex, shr_nl, shr_tup, shr_agg, List.map_cons, List.map_nil, shrP_v, shrP_sh, nrm_v, nrm_lst, x_ext0, x_ext1, x_ext2, ob_sm, asB_b, gcB_nil, x_lss, x_leq, x_gtr, x_geq, x_eql, x_neq, x_add, x_sub, x_mul, x_not, x_seql, x_sneq, decide_true, decide_false, br_t, br_f, h1, decide_eq_false h3, Bool.false_or, callStray]
    rfl

theorem callRight (u : Int) : callS false EE 17 [.p (.v (.int .i64 u))] [] = fun k => k (.p (.v (.bool (rightB u)))) [] := callS_f [.v (.int .i64 u)] (right_val u)

theorem counts_loop {l : List UInt8} (hl : l.length ≤ 1099511627776) (m0 : Nat) : ∀ d i c, l.length - i ≤ d → i ≤ l.length → c ≤ i → c + (Tryd.from (fun i => (unitAt l i).1) (fun i => (unitAt l i).2) l.length l.length i).length = (units l).length →
    f6_l6 m0 (.p (.lst .sh (bl l))) (.p (.v (.int .i64 i))) (.p (.v (.int .i64 (c : Nat)))) [] = some (.p (.v (.bool true)), []) := by
  have fin : ∀ i c, i = l.length → c + (Tryd.from (fun i => (unitAt l i).1) (fun i => (unitAt l i).2) l.length l.length i).length = (units l).length →
      f6_l6 m0 (.p (.lst .sh (bl l))) (.p (.v (.int .i64 (i : Nat)))) (.p (.v (.int .i64 (c : Nat)))) [] = some (.p (.v (.bool true)), []) := by
    intro i c hi hc
    subst hi
    rw [Tryd.from_end (by omega)] at hc
    have hc' : c = (units l).length := by simpa using hc
    subst hc'
    rw [f6_l6_eq]
    have h0 : ¬ ((l.length : Int) < l.length) := by omega
    simp only [mk_eq, lp_eq, iv, kv, bv, shr_v, shr_sh, shr_un, shr_ex, shr_nl, shr_tup, shr_agg, List.map_cons, List.map_nil, shrP_v, shrP_sh, nrm_v, nrm_lst, x_ext0, x_ext1, x_ext2, ob_sm, asB_b, gcB_nil, x_lss, x_leq, x_gtr, x_geq, x_eql, x_neq, x_add, x_sub, x_mul, x_not, x_seql, x_sneq, decide_true, decide_false, br_t, br_f, x_len Tryd.underlying22, x_len Tryd.underlying27, bl_len, il_len, h0, f6_r11_eq, callSplit hl, beq_self_eq_true]
    rfl
  intro d
  induction d with
  | zero =>
    intro i c h h4 _ hc
    exact fin i c (by omega) hc
  | succ d ih =>
    intro i c h h4 hci hc
    by_cases hi : i < l.length
    · rw [f6_l6_eq]
      have h0 : (i : Int) < l.length := by omega
      obtain ⟨k1, k2⟩ := kind_unit hi
      obtain ⟨r1, r2, r3, r4, r5⟩ := kind_right k1
      have step : ∀ B : List Row, B = [] → f6_r10 m0 (.p (.lst .sh (bl l))) (.p (.v (.int .i64 i))) (.p (.v (.int .i64 (c : Nat)))) (.p (.v (.int .i64 (unitAt l i).2))) B = some (.p (.v (.bool true)), []) := by
        intro B hB
        subst hB
        rw [f6_r10_eq]
        simp only [mk_eq, lp_eq, iv, kv, bv, shr_v, shr_sh, shr_un, shr_ex, shr_nl, shr_tup, shr_agg, List.map_cons, List.map_nil, shrP_v, shrP_sh, nrm_v, nrm_lst, x_ext0, x_ext1, x_ext2, ob_sm, asB_b, gcB_nil, x_lss, x_leq, x_gtr, x_geq, x_eql, x_neq, x_add, x_sub, x_mul, x_not, x_seql, x_sneq, decide_true, decide_false, br_t, br_f]
        rw [wrap_i64 (by omega) (by omega), wrap_i64 (by omega) (by omega), show (i : Int) + ((unitAt l i).2 : Int) = ((i + (unitAt l i).2 : Nat) : Int) by omega, show (c : Int) + 1 = ((c + 1 : Nat) : Int) by omega]
        refine ih _ _ (by omega) k2 (by omega) ?_
        rw [Tryd.from_step (fun j hj => unitAt_size hj) hi, List.length_cons] at hc
        omega
      have q1 : ¬ (((unitAt l i).2 : Nat) : Int) < 1 := by omega
      have q2 : ¬ (4 : Int) < (((unitAt l i).2 : Nat) : Int) := by omega
      simp only [mk_eq, lp_eq, iv, kv, bv, shr_v, shr_sh, shr_un, shr_ex, shr_nl, shr_tup, shr_agg, List.map_cons, List.map_nil, shrP_v, shrP_sh, nrm_v, nrm_lst, x_ext0, x_ext1, x_ext2, ob_sm, asB_b, gcB_nil, x_lss, x_leq, x_gtr, x_geq, x_eql, x_neq, x_add, x_sub, x_mul, x_not, x_seql, x_sneq, decide_true, decide_false, br_t, br_f, x_len Tryd.underlying22, bl_len, h0, f6_r7_eq]
      simp only [show callS false EE 10 [.p (.lst .sh (bl l)), .p (.v (.int .i64 i))] [] = _ from callS_f [.lst .sh (bl l), .v (.int .i64 i)] (next_in2 l i hi)]
      simp only [mk_eq, lp_eq, iv, kv, bv, shr_v, shr_sh, shr_un, shr_ex, shr_nl, shr_tup, shr_agg, List.map_cons, List.map_nil, shrP_v, shrP_sh, nrm_v, nrm_lst, x_ext0, x_ext1, x_ext2, ob_sm, asB_b, gcB_nil, x_lss, x_leq, x_gtr, x_geq, x_eql, x_neq, x_add, x_sub, x_mul, x_not, x_seql, x_sneq, decide_true, decide_false, br_t, br_f, q1, q2, callRight, r1, Bool.not_true, callStray]
      cases hs : strayB (unitAt l i).1 with
      | true =>
        have e1 : (unitAt l i).2 = 1 := r4 hs
        have e2 : ((((unitAt l i).2 : Nat) : Int) != 1) = false := by rw [e1]; rfl
        simp only [mk_eq, lp_eq, iv, kv, bv, shr_v, shr_sh, shr_un, shr_ex, shr_nl, shr_tup, shr_agg, List.map_cons, List.map_nil, shrP_v, shrP_sh, nrm_v, nrm_lst, x_ext0, x_ext1, x_ext2, ob_sm, asB_b, gcB_nil, x_lss, x_leq, x_gtr, x_geq, x_eql, x_neq, x_add, x_sub, x_mul, x_not, x_seql, x_sneq, decide_true, decide_false, br_t, br_f, e2, callStray, hs, Bool.not_true]
        exact step _ rfl
      | false =>
        have e1 := r5 hs
        have e2 : (((((unitAt l i).2 : Nat) : Int) == 1) != decide ((unitAt l i).1 < 128)) = false := by
          by_cases h : (unitAt l i).1 < 128
          · have := e1.2 h
            rw [this]
            simp [h]
          · have : ¬ (unitAt l i).2 = 1 := fun e => h (e1.1 e)
            simp [h]
            omega
        simp only [mk_eq, lp_eq, iv, kv, bv, shr_v, shr_sh, shr_un, shr_ex, shr_nl, shr_tup, shr_agg, List.map_cons, List.map_nil, shrP_v, shrP_sh, nrm_v, nrm_lst, x_ext0, x_ext1, x_ext2, ob_sm, asB_b, gcB_nil, x_lss, x_leq, x_gtr, x_geq, x_eql, x_neq, x_add, x_sub, x_mul, x_not, x_seql, x_sneq, decide_true, decide_false, br_t, br_f, callStray, hs, Bool.not_false, x_bneq, e2]
        exact step _ rfl
    · exact fin i c (by omega) hc

/-- The law, in the evaluator. -/
theorem counts_val (l : List UInt8) : EE 6 [.p (.lst .sh (bl l))] [] = some (.p (.v (.bool true)), []) := by
  rw [f6_eq]
  simp only [mk_eq, callAnchor, x_not, ob_sm, asB_b, Bool.not_true, br_f, gcB_nil, f6_r3_eq, shr_sh, x_len Tryd.underlying22, bl_len, iv, x_gtr]
  by_cases hl : (1000 : Int) < l.length
  · simp only [hl, decide_true, br_t]
    rfl
  · have hl' : l.length ≤ 1099511627776 := by omega
    simp only [hl, decide_false, br_f, f6_r5_eq, mk_eq, iv, gcB_nil]
    exact counts_loop hl' _ l.length 0 0 (by omega) (by omega) (by omega) (by unfold units; omega)
end N2
end Go.Proofs.YtbecmoihajlobaaDoor
end
