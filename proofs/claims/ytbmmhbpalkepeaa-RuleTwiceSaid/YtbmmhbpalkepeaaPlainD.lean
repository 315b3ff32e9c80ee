/- Layer 7 in plain words: the document's Apply is the program's; RuleApplies. No condition. -/
import Derived.Test.YtbmmhbpalkepeaaPlainC

section
set_option linter.unusedSimpArgs false
set_option linter.unusedVariables false
/- Layer 7 in plain terms: the document's Apply; RuleApplies. Conditions: none. -/
namespace Go.Proofs.Ytbmmhbpalkepeaa
open Go Go.Abs

def rD (d : N2.Srule_Delta) : N2.Scolanderref07_Delta := ⟨d.Default, d.Closed, d.Fuel, d.Stack, d.Put, d.Drop⟩

namespace N2
theorem g18_loop (n1 n2 n3 n4 : Int) (D : List Int) (L : List Srule_Rule) (hl : L.length ≤ 1000000) : ∀ (k i : Nat) (out : List Srule_Rule), i + k = L.length → out.length ≤ i →
    g18_l3 L (L.length : Int) (i : Int) n1 n2 n3 n4 out D = some ⟨n1, n2, n3, n4, out ++ L.drop i, D⟩ := by
  intro k
  induction k with
  | zero =>
    intro i out h ho
    rw [List.drop_of_length_le (by omega)]
    apply g18_l3_of
    unfold b18_l3
    rw [if_neg (by simp; omega)]
    simp [b18_r7]
  | succ k ih =>
    intro i out h ho
    have hi : i < L.length := by omega
    rw [List.drop_eq_getElem_cons hi]
    apply g18_l3_of
    unfold b18_l3
    rw [if_pos (by simp; omega)]
    unfold b18_r4
    rw [lget_nat, List.getElem?_eq_getElem hi]
    simp only [Option.bind_some]
    rw [lapp_one _ _ (by omega)]
    simp only [Option.bind_some]
    rw [hw1 (by omega), ih (i + 1) _ (by omega) (by simp; omega), List.append_assoc, List.singleton_append]
theorem g18_val (d : Srule_Delta) (h : d.Put.length ≤ 1000000) : g18 d = some (rD d) := by
  apply g18_of
  unfold b18
  have := g18_loop d.Default d.Closed d.Fuel d.Stack d.Drop d.Put h d.Put.length 0 [] (by omega) (by simp)
  simpa [rD] using this

theorem g32_val (a b : Int) : g32 a b = some (orI a b) := g32_of _ _ (by unfold b32 b32_r3 orI; by_cases h : a = -1 <;> simp [h])

/-- The place of a number. -/
theorem g36_loop (L : List Srule_Rule) (n : Int) (hl : L.length ≤ 1000000) : ∀ (k i : Nat), i + k = L.length → ∃ r, g36_l2 L n (i : Int) = some r ∧ decide (r < 0) = (getL (L.drop i) n).isNone := by
  intro k
  induction k with
  | zero =>
    intro i h
    rw [List.drop_of_length_le (by omega)]
    refine ⟨-1, ?_, rfl⟩
    apply g36_l2_of
    unfold b36_l2
    rw [if_neg (by simp; omega)]
    rfl
  | succ k ih =>
    intro i h
    have hi : i < L.length := by omega
    obtain ⟨r, h1, h2⟩ := ih (i + 1) (by omega)
    rw [List.drop_eq_getElem_cons hi, getL_cons]
    by_cases hh : L[i].ID = n
    · refine ⟨i, ?_, by rw [if_pos hh]; simp⟩
      apply g36_l2_of
      unfold b36_l2
      rw [if_pos (by simp; omega)]
      unfold b36_r4
      rw [lget_nat, List.getElem?_eq_getElem hi]
      simp [hh]
    · refine ⟨r, ?_, by rw [if_neg hh]; exact h2⟩
      apply g36_l2_of
      unfold b36_l2
      rw [if_pos (by simp; omega)]
      unfold b36_r4
      rw [lget_nat, List.getElem?_eq_getElem hi]
      simp only [Option.bind_some]
      rw [if_neg (by simpa using hh)]
      unfold b36_r3
      rw [hw1 (by omega)]
      exact h1
theorem g36_val (L : List Srule_Rule) (n : Int) (hl : L.length ≤ 1000000) : ∃ r, g36 L n = some r ∧ decide (r < 0) = (getL L n).isNone := by
  obtain ⟨r, h1, h2⟩ := g36_loop L n hl L.length 0 (by omega)
  exact ⟨r, g36_of _ _ (by unfold b36; exact h1), h2⟩

/-- What is put behind what was gone through. -/
def putGo : List Srule_Rule → Srule_Rule → Bool → List Srule_Rule
  | [], r, done => if done = true then [] else [r]
  | x :: t, r, true => if x.ID != r.ID then x :: putGo t r true else putGo t r true
  | x :: t, r, false => if r.ID ≤ x.ID then r :: (if x.ID != r.ID then x :: putGo t r true else putGo t r true) else x :: putGo t r false
theorem putGo_true (l : List Srule_Rule) (r : Srule_Rule) : putGo l r true = l.filter fun y => y.ID != r.ID := by
  induction l with
  | nil => rfl
  | cons x t ih =>
    rw [putGo, ih, List.filter_cons]
theorem putGo_false (l : List Srule_Rule) (r : Srule_Rule) : putGo l r false = putL l r := by
  induction l with
  | nil => rfl
  | cons x t ih =>
    rw [putGo, ih, putL, putGo_true]
    by_cases h : x.ID < r.ID
    · rw [if_pos h, if_neg (by omega)]
    · rw [if_neg h, if_pos (by omega), List.filter_cons]

theorem g37_loop (L : List Srule_Rule) (r : Srule_Rule) (hl : L.length ≤ 1000000) : ∀ (k i : Nat) (out : List Srule_Rule) (done : Bool), i + k = L.length → out.length ≤ 2 * i + 2 →
    g37_l4 L out done (i : Int) r = some (out ++ putGo (L.drop i) r done) := by
  intro k
  induction k with
  | zero =>
    intro i out done h ho
    rw [List.drop_of_length_le (by omega)]
    apply g37_l4_of
    unfold b37_l4
    rw [if_neg (by simp; omega)]
    unfold b37_r11 b37_r13
    cases done with
    | true => simp [putGo]
    | false =>
      simp only [Bool.not_false, if_true]
      rw [lapp_one _ _ (by omega)]
      simp [putGo]
  | succ k ih =>
    intro i out done h ho
    have hi : i < L.length := by omega
    rw [List.drop_eq_getElem_cons hi]
    apply g37_l4_of
    unfold b37_l4
    rw [if_pos (by simp; omega)]
    have r9 : ∀ (out : List Srule_Rule) (done : Bool), out.length ≤ 2 * i + 3 → b37_r9 L out done (i : Int) r = some (out ++ (if L[i].ID != r.ID then L[i] :: putGo (L.drop (i + 1)) r done else putGo (L.drop (i + 1)) r done)) := by
      intro out done ho
      unfold b37_r9
      rw [lget_nat, List.getElem?_eq_getElem hi]
      simp only [Option.bind_some, b37_r5]
      cases hne : (L[i].ID != r.ID) with
      | true =>
        simp only [if_true]
        rw [lapp_one _ _ (by omega)]
        simp only [Option.bind_some]
        rw [hw1 (by omega), ih (i + 1) _ _ (by omega) (by simp; omega), List.append_assoc, List.singleton_append]
      | false =>
        simp only [Bool.false_eq_true, if_false]
        rw [hw1 (by omega), ih (i + 1) _ _ (by omega) (by omega)]
    unfold b37_r6
    cases done with
    | true =>
      simp only [Bool.not_true, Bool.false_eq_true, if_false]
      rw [r9 out true (by omega)]
      rfl
    | false =>
      simp only [Bool.not_false, if_true]
      rw [lget_nat, List.getElem?_eq_getElem hi]
      simp only [Option.bind_some, putGo]
      by_cases hle : r.ID ≤ L[i].ID
      · rw [if_pos (by simpa using hle), if_pos hle]
        unfold b37_r7
        rw [lapp_one _ _ (by omega)]
        simp only [Option.bind_some]
        rw [r9 (out ++ [r]) true (by simp; omega), List.append_assoc, List.singleton_append]
      · rw [if_neg (by simpa using hle), if_neg hle, r9 out false (by omega)]
        have : (L[i].ID != r.ID) = true := by simp; omega
        rw [this]
        rfl
theorem g37_val (L : List Srule_Rule) (r : Srule_Rule) (hl : L.length ≤ 1000000) : g37 L r = some (putL L r) := by
  apply g37_of
  unfold b37
  have := g37_loop L r hl L.length 0 [] false (by omega) (by simp)
  rw [List.drop_zero, putGo_false] at this
  simpa using this

/-- Is one of a list's numbers there ahead of it? -/
theorem g35_l11_run (ids : List Int) (x5 : Nat) (h5 : x5 < ids.length) (hl : ids.length ≤ 1000000) {r : Bool} (hr : b35_r9 ids (x5 : Int) = some r) : ∀ (k i : Nat), i + k = x5 →
    g35_l11 ids (x5 : Int) (i : Int) = some (((ids.take x5).drop i).contains ids[x5] || r) := by
  intro k
  induction k with
  | zero =>
    intro i h
    apply g35_l11_of
    unfold b35_l11
    rw [if_neg (by simp; omega), List.drop_of_length_le (by simp; omega), hr]
    simp
  | succ k ih =>
    intro i h
    have hi : i < ids.length := by omega
    have hd : (ids.take x5).drop i = ids[i] :: (ids.take x5).drop (i + 1) := by
      rw [List.drop_eq_getElem_cons (by simp; omega), List.getElem_take]
    apply g35_l11_of
    unfold b35_l11
    rw [if_pos (by simp; omega)]
    unfold b35_r13
    rw [lget_nat, List.getElem?_eq_getElem h5, lget_nat, List.getElem?_eq_getElem hi, hd, List.contains_cons]
    simp only [Option.bind_some]
    by_cases he : ids[x5] = ids[i]
    · rw [if_pos (by simpa using he)]
      simp [he]
    · rw [if_neg (by simpa using he)]
      unfold b35_r12
      rw [hw1 (by omega), ih (i + 1) (by omega)]
      have : (ids[x5] == ids[i]) = false := by simpa using he
      rw [this]
      rfl

theorem nodup_take {l : List Int} (i : Nat) (h : i < l.length) : (l.take (i + 1)).Nodup ↔ (l.take i).Nodup ∧ (l.take i).contains l[i] = false := by
  rw [List.take_succ_eq_append_getElem h, List.nodup_append]
  constructor
  · rintro ⟨a, _, c⟩
    refine ⟨a, ?_⟩
    rw [← Bool.not_eq_true, List.contains_iff_mem]
    intro hm
    exact c l[i] hm l[i] (by simp) rfl
  · rintro ⟨a, b⟩
    refine ⟨a, by simp, fun x hx y hy e => ?_⟩
    simp at hy
    subst hy
    subst e
    rw [← Bool.not_eq_true, List.contains_iff_mem] at b
    exact b hx

theorem g35_l8_run (ids : List Int) (hl : ids.length ≤ 1000000) : ∀ (k i : Nat), i + k = ids.length → (ids.take i).Nodup → g35_l8 ids (i : Int) = some (!decide ids.Nodup) := by
  intro k
  induction k with
  | zero =>
    intro i h hn
    rw [List.take_of_length_le (by omega)] at hn
    apply g35_l8_of
    unfold b35_l8
    rw [if_neg (by simp; omega), decide_eq_true hn]
    rfl
  | succ k ih =>
    intro i h hn
    have hi : i < ids.length := by omega
    apply g35_l8_of
    unfold b35_l8
    rw [if_pos (by simp; omega)]
    unfold b35_r10
    by_cases hc : (ids.take i).contains ids[i] = true
    · -- it is there
      have hnot : ¬ ids.Nodup := by
        intro hh
        have := (nodup_take i hi).1 (hh.sublist (List.take_sublist _ _))
        rw [hc] at this
        exact absurd this.2 (by simp)
      have : ∃ r, b35_r9 ids (i : Int) = some r ∨ True := ⟨true, .inr trivial⟩
      rw [decide_eq_false hnot]
      -- the search ends at it
      have key : ∀ (k j : Nat), j + k = i → ((ids.take i).drop j).contains ids[i] = true → g35_l11 ids (i : Int) (j : Int) = some true := by
        intro k
        induction k with
        | zero => intro j hj hh; rw [List.drop_of_length_le (by simp; omega)] at hh; simp at hh
        | succ k ihk =>
          intro j hj hh
          have hjl : j < ids.length := by omega
          have hd : (ids.take i).drop j = ids[j] :: (ids.take i).drop (j + 1) := by
            rw [List.drop_eq_getElem_cons (by simp; omega), List.getElem_take]
          apply g35_l11_of
          unfold b35_l11
          rw [if_pos (by simp; omega)]
          unfold b35_r13
          rw [lget_nat, List.getElem?_eq_getElem hi, lget_nat, List.getElem?_eq_getElem hjl]
          simp only [Option.bind_some]
          by_cases he : ids[i] = ids[j]
          · rw [if_pos (by simpa using he)]
          · rw [if_neg (by simpa using he)]
            unfold b35_r12
            rw [hw1 (by omega)]
            refine ihk (j + 1) (by omega) ?_
            rw [hd, List.contains_cons] at hh
            have : (ids[i] == ids[j]) = false := by simpa using he
            rw [this] at hh
            simpa using hh
      exact key i 0 (by omega) (by simpa using hc)
    · have hcf : (ids.take i).contains ids[i] = false := by simpa using hc
      have hnext := ih (i + 1) (by omega) ((nodup_take i hi).2 ⟨hn, hcf⟩)
      have hr9 : b35_r9 ids (i : Int) = some (!decide ids.Nodup) := by
        unfold b35_r9
        rw [hw1 (by omega)]
        exact hnext
      have := g35_l11_run ids i hi hl hr9 i 0 (by omega)
      rw [List.drop_zero, hcf] at this
      simpa using this

theorem lapp_le {α : Type} (l r : List α) (h : l.length + r.length ≤ 1000000000) : lapp l r = some (l ++ r) := by
  unfold lapp
  rw [if_pos (by simp [lim]; omega)]

theorem g35_l3_run (d : Scolanderref07_Delta) (h1 : d.Put.length ≤ 100000) (h2 : d.Drop.length ≤ 100000) : ∀ (k i : Nat) (out : List Int), i + k = d.Put.length → out.length ≤ i →
    g35_l3 out (i : Int) d = some (!decide (out ++ ids (d.Put.drop i) ++ d.Drop).Nodup) := by
  intro k
  induction k with
  | zero =>
    intro i out h ho
    rw [List.drop_of_length_le (by omega)]
    apply g35_l3_of
    unfold b35_l3
    rw [if_neg (by simp; omega)]
    unfold b35_r6
    rw [lapp_le _ _ (by omega)]
    simp only [Option.bind_some]
    have := g35_l8_run (out ++ d.Drop) (by simp; omega) (out ++ d.Drop).length 0 (by omega) (by simp)
    simpa [ids] using this
  | succ k ih =>
    intro i out h ho
    have hi : i < d.Put.length := by omega
    rw [List.drop_eq_getElem_cons hi]
    apply g35_l3_of
    unfold b35_l3
    rw [if_pos (by simp; omega)]
    unfold b35_r5
    rw [lget_nat, List.getElem?_eq_getElem hi]
    simp only [Option.bind_some]
    rw [lapp_one _ _ (by omega)]
    simp only [Option.bind_some]
    rw [hw1 (by omega), ih (i + 1) _ (by omega) (by simp; omega)]
    simp only [ids, List.map_cons, List.append_assoc, List.singleton_append, List.cons_append, List.nil_append]
theorem g35_val (d : Scolanderref07_Delta) (h1 : d.Put.length ≤ 100000) (h2 : d.Drop.length ≤ 100000) : g35 d = some (!decide (ids d.Put ++ d.Drop).Nodup) := by
  apply g35_of
  unfold b35
  have := g35_l3_run d h1 h2 d.Put.length 0 [] (by omega) (by simp)
  simpa using this
end N2
end Go.Proofs.Ytbmmhbpalkepeaa
end

section
set_option linter.unusedSimpArgs false
set_option linter.unusedVariables false
/- Layer 7 in plain terms: the document's Apply is the program's; RuleApplies. Conditions: none. -/
namespace Go.Proofs.Ytbmmhbpalkepeaa
open Go Go.Abs
def zRS : N2.Scolanderref07_Set := N2.Scolanderref07_Set.mk 0 0 0 0 []

namespace N2
theorem g17_l7_run (s : Scolanderref07_Set) (d : Scolanderref07_Delta) (n1 n2 n3 n4 : Int) (hl : d.Put.length ≤ 100000) {r : Scolanderref07_Set × Int} : ∀ (k i : Nat), i + k = d.Put.length →
    (if (d.Put.drop i).all okR = true then b17_r11 s d n1 n2 n3 n4 [] else some (zRS, 30)) = some r → g17_l7 (i : Int) s d n1 n2 n3 n4 [] = some r := by
  intro k
  induction k with
  | zero =>
    intro i h hr
    rw [List.drop_of_length_le (by omega)] at hr
    apply g17_l7_of
    unfold b17_l7
    rw [if_neg (by simp; omega)]
    exact hr
  | succ k ih =>
    intro i h hr
    have hi : i < d.Put.length := by omega
    rw [List.drop_eq_getElem_cons hi, List.all_cons] at hr
    apply g17_l7_of
    unfold b17_l7
    rw [if_pos (by simp; omega)]
    unfold b17_r9
    rw [lget_nat, List.getElem?_eq_getElem hi]
    simp only [Option.bind_some, g34_val]
    cases ho : okR d.Put[i] with
    | false => rw [ho] at hr; exact hr
    | true =>
      rw [ho, Bool.true_and] at hr
      simp only [Bool.not_true, Bool.false_eq_true, if_false]
      unfold b17_r8
      rw [hw1 (by omega)]
      exact ih (i + 1) (by omega) hr

theorem g17_l14_run (s : Scolanderref07_Set) (d : Scolanderref07_Delta) (n1 n2 n3 n4 : Int) (hs : s.Rules.length ≤ 100000) (hl : d.Drop.length ≤ 100000) {r : Scolanderref07_Set × Int} : ∀ (k i : Nat), i + k = d.Drop.length →
    (if (d.Drop.drop i).all (fun n => (getL s.Rules n).isSome) = true then b17_r18 s d n1 n2 n3 n4 [] else some (zRS, 32)) = some r → g17_l14 (i : Int) s d n1 n2 n3 n4 [] = some r := by
  intro k
  induction k with
  | zero =>
    intro i h hr
    rw [List.drop_of_length_le (by omega)] at hr
    apply g17_l14_of
    unfold b17_l14
    rw [if_neg (by simp; omega)]
    exact hr
  | succ k ih =>
    intro i h hr
    have hi : i < d.Drop.length := by omega
    rw [List.drop_eq_getElem_cons hi, List.all_cons] at hr
    obtain ⟨q, h1, h2⟩ := g36_val s.Rules d.Drop[i] (by omega)
    apply g17_l14_of
    unfold b17_l14
    rw [if_pos (by simp; omega)]
    unfold b17_r16
    rw [lget_nat, List.getElem?_eq_getElem hi]
    simp only [Option.bind_some, h1]
    rw [h2]
    cases hg : getL s.Rules d.Drop[i] with
    | none => rw [hg] at hr; exact hr
    | some x =>
      rw [hg] at hr
      simp only [Option.isSome_some, Bool.true_and] at hr
      simp only [Option.isNone_some, Bool.false_eq_true, if_false]
      unfold b17_r15
      rw [hw1 (by omega)]
      exact ih (i + 1) (by omega) hr

theorem g17_l23_run (s : Scolanderref07_Set) (d : Scolanderref07_Delta) (n1 n2 n3 n4 : Int) (out : List Srule_Rule) (x : Nat) (hx : x < s.Rules.length) (hl : d.Drop.length ≤ 100000) {r : Scolanderref07_Set × Int} : ∀ (k i : Nat) (g : Bool), i + k = d.Drop.length →
    b17_r26 (x : Int) (g || (d.Drop.drop i).contains s.Rules[x].ID) s d n1 n2 n3 n4 out = some r → g17_l23 (x : Int) g (i : Int) s d n1 n2 n3 n4 out = some r := by
  intro k
  induction k with
  | zero =>
    intro i g h hr
    rw [List.drop_of_length_le (by omega)] at hr
    apply g17_l23_of
    unfold b17_l23
    rw [if_neg (by simp; omega)]
    simpa using hr
  | succ k ih =>
    intro i g h hr
    have hi : i < d.Drop.length := by omega
    rw [List.drop_eq_getElem_cons hi, List.contains_cons] at hr
    apply g17_l23_of
    unfold b17_l23
    rw [if_pos (by simp; omega)]
    unfold b17_r25
    rw [hw1 (by omega)]
    cases g with
    | true =>
      simp only [if_true]
      exact ih (i + 1) true (by omega) (by simpa using hr)
    | false =>
      simp only [Bool.false_eq_true, if_false]
      rw [lget_nat, List.getElem?_eq_getElem hi, lget_nat, List.getElem?_eq_getElem hx]
      simp only [Option.bind_some]
      refine ih (i + 1) _ (by omega) ?_
      rw [Bool.false_or] at hr
      rw [show (d.Drop[i] == s.Rules[x].ID) = (s.Rules[x].ID == d.Drop[i]) from Bool.beq_comm ..]
      exact hr

theorem g17_l19_run (s : Scolanderref07_Set) (d : Scolanderref07_Delta) (n1 n2 n3 n4 : Int) (hs : s.Rules.length ≤ 100000) (hl : d.Drop.length ≤ 100000) {r : Scolanderref07_Set × Int} : ∀ (k i : Nat) (out : List Srule_Rule), i + k = s.Rules.length → out.length ≤ i →
    b17_r28 d n1 n2 n3 n4 (out ++ (s.Rules.drop i).filter fun y => !d.Drop.contains y.ID) = some r → g17_l19 (i : Int) s d n1 n2 n3 n4 out = some r := by
  intro k
  induction k with
  | zero =>
    intro i out h ho hr
    rw [List.drop_of_length_le (by omega)] at hr
    apply g17_l19_of
    unfold b17_l19
    rw [if_neg (by simp; omega)]
    simpa using hr
  | succ k ih =>
    intro i out h ho hr
    have hi : i < s.Rules.length := by omega
    rw [List.drop_eq_getElem_cons hi] at hr
    apply g17_l19_of
    unfold b17_l19
    rw [if_pos (by simp; omega)]
    unfold b17_r21
    refine g17_l23_run s d n1 n2 n3 n4 out i hi hl d.Drop.length 0 false (by omega) ?_
    rw [Bool.false_or, List.drop_zero]
    unfold b17_r26 b17_r20
    rw [hw1 (by omega), lget_nat, List.getElem?_eq_getElem hi]
    cases hc : d.Drop.contains s.Rules[i].ID with
    | true =>
      simp only [Bool.not_true, Bool.false_eq_true, if_false]
      refine ih (i + 1) out (by omega) (by omega) ?_
      rw [List.filter_cons_of_neg (by rw [hc]; simp)] at hr
      exact hr
    | false =>
      simp only [Bool.not_false, if_true, Option.bind_some]
      rw [lapp_one _ _ (by omega)]
      simp only [Option.bind_some]
      refine ih (i + 1) _ (by omega) (by simp; omega) ?_
      rw [List.filter_cons_of_pos (by rw [hc]; rfl)] at hr
      rw [List.append_assoc, List.singleton_append]
      exact hr

theorem putL_le (l : List Srule_Rule) (r : Srule_Rule) : (putL l r).length ≤ l.length + 1 := by
  induction l with
  | nil => simp [putL]
  | cons x t ih =>
    rw [putL]
    split
    · simp; omega
    · have := List.length_filter_le (fun y : Srule_Rule => y.ID != r.ID) (x :: t)
      rw [List.length_cons]
      omega

/-- The last steps. -/
def endR (n1 n2 n3 n4 : Int) (l : List Srule_Rule) : Scolanderref07_Set × Int := if 16 < l.length then (zRS, 33) else (⟨n1, n2, n3, n4, l⟩, 0)

theorem g17_l29v1_run (d : Scolanderref07_Delta) (n1 n2 n3 n4 : Int) (hl : d.Put.length ≤ 100000) : ∀ (k i : Nat) (out : List Srule_Rule), i + k = d.Put.length → out.length ≤ 100000 + i →
    g17_l29v1 (i : Int) d n1 n2 n3 n4 out = some (endR n1 n2 n3 n4 ((d.Put.drop i).foldl putL out)) := by
  intro k
  induction k with
  | zero =>
    intro i out h ho
    rw [List.drop_of_length_le (by omega)]
    apply g17_l29v1_of
    unfold b17_l29v1
    rw [if_neg (by simp; omega)]
    unfold b17_r32v1 b17_r34v1 endR
    by_cases hc : 16 < out.length
    · rw [if_pos (by simp; omega)]; simp [hc, zRS]
    · rw [if_neg (by simp; omega)]; simp [hc]
  | succ k ih =>
    intro i out h ho
    have hi : i < d.Put.length := by omega
    rw [List.drop_eq_getElem_cons hi]
    apply g17_l29v1_of
    unfold b17_l29v1
    rw [if_pos (by simp; omega)]
    unfold b17_r31v1
    rw [lget_nat, List.getElem?_eq_getElem hi]
    simp only [Option.bind_some, g37_val out d.Put[i] (by omega)]
    rw [hw1 (by omega)]
    exact ih (i + 1) _ (by omega) (by have := putL_le out d.Put[i]; omega)

theorem g17_l29_run (d : Scolanderref07_Delta) (n1 n2 n3 n4 : Int) (hl : d.Put.length ≤ 100000) (out : List Srule_Rule) (ho : out.length ≤ 100000) : g17_l29 0 d n1 n2 n3 n4 out = some (endR n1 n2 n3 n4 (d.Put.foldl putL out)) := by
  apply g17_l29_of
  unfold b17_l29
  by_cases h0 : 0 < d.Put.length
  · rw [if_pos (by simp; omega)]
    unfold b17_r31
    rw [show lget d.Put 0 = d.Put[0]? from lget_nat d.Put 0, List.getElem?_eq_getElem h0]
    simp only [Option.bind_some, g37_val out d.Put[0] (by omega)]
    rw [show IntKind.i64.wrap (0 + 1) = ((0 + 1 : Nat) : Int) from by decide]
    rw [g17_l29v1_run d n1 n2 n3 n4 hl (d.Put.length - 1) 1 _ (by omega) (by have := putL_le out d.Put[0]; omega)]
    conv => rhs; rw [← List.drop_zero (l := d.Put), List.drop_eq_getElem_cons h0]
    rfl
  · have h00 : d.Put.length = 0 := by omega
    rw [if_neg (by rw [h00]; decide)]
    have : d.Put = [] := List.eq_nil_of_length_eq_zero h00
    rw [this]
    unfold b17_r32 b17_r34 endR
    rw [List.foldl_nil]
    by_cases hc : 16 < out.length
    · rw [if_pos (by simp; omega)]; simp [hc, zRS]
    · rw [if_neg (by simp; omega)]; simp [hc]

/-- The document's Apply. -/
theorem g17_val (s : Srule_Set) (d : Srule_Delta) (h1 : d.Put.length ≤ 100000) (h2 : d.Drop.length ≤ 100000) : g17 (rS s) (rD d) = some (rS (applyL s d).1, (applyL s d).2) := by
  apply g17_of
  unfold b17 applyL
  rw [g19_val]
  simp only [Option.bind_some]
  cases hs : okS s with
  | false => rfl
  | true =>
    have hlen := okS_len hs
    simp only [Bool.not_true, Bool.false_eq_true, if_false, Bool.true_eq_false]
    unfold b17_r3
    simp only [g32_val, g33_val, Option.bind_some]
    show (if (!okN (orI d.Default s.Default) (orI d.Closed s.Closed) (orI d.Fuel s.Fuel) (orI d.Stack s.Stack)) = true then some (zRS, 30) else
      b17_r6 (rS s) (rD d) (orI d.Default s.Default) (orI d.Closed s.Closed) (orI d.Fuel s.Fuel) (orI d.Stack s.Stack) []) = _
    cases hn : okN (orI d.Default s.Default) (orI d.Closed s.Closed) (orI d.Fuel s.Fuel) (orI d.Stack s.Stack) with
    | false => rfl
    | true =>
      simp only [Bool.not_true, Bool.false_eq_true, if_false, Bool.true_eq_false, false_or]
      unfold b17_r6
      refine g17_l7_run (rS s) (rD d) _ _ _ _ h1 d.Put.length 0 (by show 0 + d.Put.length = d.Put.length; omega) ?_
      rw [List.drop_zero]
      show (if d.Put.all okR = true then _ else _) = _
      cases hp : d.Put.all okR with
      | false => rfl
      | true =>
        simp only [if_true, Bool.true_eq_false, if_false]
        unfold b17_r11
        rw [g35_val (rD d) h1 h2]
        simp only [Option.bind_some]
        show (if (!decide (ids d.Put ++ d.Drop).Nodup) = true then some (zRS, 31) else _) = _
        by_cases ht : (ids d.Put ++ d.Drop).Nodup
        · simp only [decide_eq_true ht, Bool.not_true, Bool.false_eq_true, if_false, ht, not_true]
          unfold b17_r13
          refine g17_l14_run (rS s) (rD d) _ _ _ _ (by show s.Rules.length ≤ _; omega) h2 d.Drop.length 0 (by show 0 + d.Drop.length = d.Drop.length; omega) ?_
          rw [List.drop_zero]
          show (if d.Drop.all (fun n => (getL s.Rules n).isSome) = true then _ else _) = _
          have hall : d.Drop.all (fun n => (getL s.Rules n).isSome) = true ↔ ∀ n ∈ d.Drop, n ∈ ids s.Rules := by
            rw [List.all_eq_true]
            exact ⟨fun h n hn => getL_mem.1 (h n hn), fun h n hn => getL_mem.2 (h n hn)⟩
          by_cases hd : ∀ n ∈ d.Drop, n ∈ ids s.Rules
          · rw [if_pos (hall.2 hd), if_neg (by simpa using hd)]
            unfold b17_r18
            refine g17_l19_run (rS s) (rD d) _ _ _ _ (by show s.Rules.length ≤ _; omega) h2 s.Rules.length 0 [] (by show 0 + s.Rules.length = s.Rules.length; omega) (by simp) ?_
            rw [List.drop_zero, List.nil_append]
            unfold b17_r28
            rw [g17_l29_run (rD d) _ _ _ _ h1 _ (Nat.le_trans (List.length_filter_le _ _) (by show s.Rules.length ≤ _; omega))]
            unfold endR
            show some (if 16 < (d.Put.foldl putL (s.Rules.filter fun y => !d.Drop.contains y.ID)).length then _ else _) = _
            split <;> rfl
          · rw [if_neg (fun h => hd (hall.1 h)), if_pos hd]
            rfl
        · simp only [decide_eq_false ht, Bool.not_false, if_true, ht, not_false_eq_true]
          rfl

/-- The loop at the end: what is said of the rule of an ID. -/
theorem g6_l11_run (id e : Int) (ok : Bool) (L : List Srule_Rule) (hl : L.length ≤ 1000000) (t : Srule_Set) (r : Srule_Rule) (hok : okS t = true ∨ e ≠ 0) : ∀ (k i : Nat), i + k = L.length →
    (match getL (L.drop i) id with | some x => ok = true ∧ r = x | none => ok = false ∧ r = zR) → g6_l11 id e ok L (L.length : Int) (i : Int) t r = some true := by
  have fin : (if ((e != 0)) = true then some true else (g16 t).bind fun r1 => some r1) = some true := by
    rw [g16_val]
    rcases hok with h | h
    · simp [h]
    · have : (e != 0) = true := by simpa using h
      rw [this]
      rfl
  intro k
  induction k with
  | zero =>
    intro i h hm
    rw [List.drop_of_length_le (by omega)] at hm
    obtain ⟨rfl, rfl⟩ := hm
    apply g6_l11_of
    unfold b6_l11
    rw [if_neg (by simp; omega)]
    unfold b6_r16
    have : eqR zR ⟨0, 0, 0, 0, ByteArray.mk #[]⟩ = true := eqR_iff.2 rfl
    unfold eqR at this
    simp only [Bool.not_false, if_true, this]
    exact fin
  | succ k ih =>
    intro i h hm
    have hi : i < L.length := by omega
    rw [List.drop_eq_getElem_cons hi, getL_cons] at hm
    apply g6_l11_of
    unfold b6_l11
    rw [if_pos (by simp; omega)]
    unfold b6_r12
    rw [lget_nat, List.getElem?_eq_getElem hi]
    simp only [Option.bind_some]
    by_cases he : L[i].ID = id
    · rw [if_pos he] at hm
      obtain ⟨rfl, rfl⟩ := hm
      have := eqR_iff.2 (rfl : L[i] = L[i])
      unfold eqR at this
      rw [if_pos (by simpa using he)]
      simp only [if_true, this]
      exact fin
    · rw [if_neg he] at hm
      rw [if_neg (by simpa using he)]
      unfold b6_r15
      rw [hw1 (by omega)]
      exact ih (i + 1) (by omega) hm

theorem g6_val (s : Srule_Set) (d : Srule_Delta) (id : Int) : g6 s d id = some true := by
  apply g6_of
  unfold b6
  rw [g10_val]
  simp only [Option.bind_some, Bool.not_true, Bool.false_eq_true, if_false]
  unfold b6_r3
  rw [g11_val]
  simp only [Option.bind_some]
  by_cases hsm : s.Rules.length ≤ 40 ∧ d.Put.length ≤ 40 ∧ d.Drop.length ≤ 40
  case neg => rw [decide_eq_false hsm]; rfl
  rw [decide_eq_true hsm]
  obtain ⟨l1, l2, l3⟩ := hsm
  simp only [Bool.not_true, Bool.false_eq_true, if_false]
  unfold b6_r5
  rw [apply_val s d (by omega) (by omega), g14_val s (by omega), g18_val d (by omega)]
  simp only [Option.bind_some]
  rw [g17_val s d (by omega) (by omega), g16_val, g19_val]
  simp only [Option.bind_some, beq_self_eq_true, Bool.not_true, bne_self_eq_false, Bool.false_eq_true, if_false]
  have ht : (applyL s d).1.Rules.length ≤ 1000000 ∧ (okS (applyL s d).1 = true ∨ (applyL s d).2 ≠ 0) := by
    by_cases h0 : (applyL s d).2 = 0
    · have e : applyL s d = ((applyL s d).1, 0) := by rw [← h0]
      have hr := applyL_right e
      exact ⟨by have := okS_len hr; omega, .inl hr⟩
    · refine ⟨?_, .inr h0⟩
      have : (applyL s d).1 = zS := by
        unfold applyL at *
        repeat' split
        all_goals first | rfl | skip
        rename_i a b c e f
        rw [if_neg a, if_neg b, if_neg c, if_neg e, if_neg f] at h0
        exact absurd rfl h0
      rw [this]
      simp [zS]
  rw [g14_val _ ht.1]
  simp only [Option.bind_some]
  rw [g13_self _ (show (applyL s d).1.Rules.length ≤ _ from ht.1)]
  simp only [Option.bind_some, Bool.not_true, Bool.false_eq_true, if_false]
  unfold b6_r9
  rw [g20_val s id (by omega)]
  simp only [Option.bind_some]
  refine g6_l11_run id _ _ s.Rules (by omega) _ _ ht.2 s.Rules.length 0 (by omega) ?_
  rw [List.drop_zero]
  cases getL s.Rules id with
  | none => exact ⟨rfl, rfl⟩
  | some x => exact ⟨rfl, rfl⟩
end N2
end Go.Proofs.Ytbmmhbpalkepeaa
end
