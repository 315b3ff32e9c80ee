/- A text read again elsewhere. No condition. -/
import Derived.Test.YtadodmjdkphddaaDoorPlainA
import Derived.Test.YtadodmjdkphddaaDoorPlainB

section
set_option linter.unusedSimpArgs false
set_option linter.unusedVariables false
namespace Go.Proofs.YtadodmjdkphddaaDoor.N2
open Go Go.Abs Go.Proofs.Norm
set_option maxRecDepth 100000
def Tail (t : List Un) : Prop := t = [] ∨ ∃ n v, t = (41, n) :: v
structure Like (t : List Un) (pre : List Int) (δ : Int) (a b : St) : Prop where
 us : b.us = a.us ++ t
 gr : b.gr = a.gr + δ
 rf : b.rf.map (·.group) = pre ++ a.rf.map (·.group)
theorem bind_ok {α β : Type} {x : Out α} {f : α → St → Out β} {v : β} {s : St} (h : x.bind f = .ok v s) : ∃ u s1, x = .ok u s1 ∧ f u s1 = .ok v s := by
 cases x with
 | bad c p => simp [Out.bind] at h
 | ok u s1 => exact ⟨u, s1, rfl, h⟩
theorem take_gr (s : St) : (take s).gr = s.gr := by unfold take; split <;> rfl
theorem wd_gr {w : List Int} {s s' : St} (h : wd w s = some s') : s'.gr = s.gr := by
 unfold wd at h
 split at h
 ·cases h; rfl
 ·simp at h
theorem plain_gr {u p v : Int} {s s' : St} (h : pPlain u p s = .ok v s') : s'.gr = s.gr := by
 unfold pPlain at h
 split at h
 ·cases h; rfl
 split at h
 ·cases h; rfl
 split at h
 ·cases h; rfl
 split at h
 ·split at h
  ·split at h
   ·cases h; rw [take_gr, take_gr]
   ·simp at h
  ·simp at h
 split at h
 ·cases h; rfl
 ·simp at h
theorem esc_gr {p : Int} {v : Z3} {s s' : St} (h : pEsc p s = .ok v s') : s'.gr = s.gr := by
 unfold pEsc at h
 split at h
 ·simp at h
 split at h
 ·cases h; exact take_gr s
 split at h
 ·cases h; exact take_gr s
 split at h
 ·cases h; exact take_gr s
 split at h
 ·cases h; exact take_gr s
 ·obtain ⟨u, s1, h1, h2⟩ := bind_ok h
  cases h2
  exact (plain_gr h1).trans (take_gr s)
theorem mem_gr {v : Int × List R2 × Bool} {s s' : St} (h : pMem s = .ok v s') : s'.gr = s.gr := by
 unfold pMem at h
 split at h
 ·cases h; exact take_gr s
 split at h
 ·simp at h
 split at h
 ·cases h; rw [take_gr, take_gr]
 ·obtain ⟨u, s1, h1, h2⟩ := bind_ok h
  cases h2
  rw [plain_gr h1, take_gr, take_gr]
theorem classL_gr (p : Int) (no : Bool) : ∀ (k : Nat) (fst : Bool) (all : List R2) (s s' : St) (v : Z3), pClassL p no k fst all s = .ok v s' → s'.gr = s.gr := by
 intro k
 induction k with
 | zero => intro fst all s s' v h; simp [pClassL] at h
 | succ k ih =>
  intro fst all s s' v h
  unfold pClassL at h
  split at h
  ·simp at h
  split at h
  ·split at h
   ·simp at h
   ·cases h; exact take_gr s
  split at h
  ·simp at h
  obtain ⟨m, s1, h1, h2⟩ := bind_ok h
  have e1 := mem_gr h1
  split at h2
  ·split at h2
   ·simp at h2
   ·exact (ih _ _ _ _ _ h2).trans e1
  split at h2
  ·exact (ih _ _ _ _ _ h2).trans e1
  ·rename_i s2 hw
   have e2 := wd_gr hw
   split at h2
   ·simp at h2
   obtain ⟨m2, s3, h3, h4⟩ := bind_ok h2
   have e3 := mem_gr h3
   split at h4
   ·simp at h4
   ·exact (ih _ _ _ _ _ h4).trans (e3.trans (e2.trans e1))
theorem class_gr {p : Int} {v : Z3} {s s' : St} (h : pClass p s = .ok v s') : s'.gr = s.gr := by
 unfold pClass at h
 split at h
 ·rename_i s1 hw
  exact (classL_gr _ _ _ _ _ _ _ _ h).trans (wd_gr hw)
 ·exact classL_gr _ _ _ _ _ _ _ _ h
theorem num_gr (s : St) : (pNum s).2.gr = s.gr := by
 unfold pNum
 split
 ·split
  ·show (take (take s)).gr = _
   rw [take_gr, take_gr]
  ·exact take_gr s
 ·rfl
theorem fin_gr {p lo hi : Int} {v : Int × Int} {s s' : St} (h : pFin p lo hi s = .ok v s') : s'.gr = s.gr := by
 unfold pFin at h
 split at h
 ·simp at h
 split at h
 ·simp at h
 ·rename_i s1 hw
  cases h
  exact wd_gr hw
theorem counts_gr {p : Int} {v : Int × Int} {s s' : St} (h : pCounts p s = .ok v s') : s'.gr = s.gr := by
 unfold pCounts at h
 split at h
 ·exact (fin_gr h).trans (num_gr s)
 rename_i s2 hw
 have e := (wd_gr hw).trans (num_gr s)
 split at h
 ·split at h
  ·simp at h
  rename_i s4 hw2
  split at h
  ·cases h; exact (wd_gr hw2).trans ((num_gr s2).trans e)
  ·simp at h
 ·exact (fin_gr h).trans ((num_gr s2).trans e)
theorem quant_gr {kid n : Z3} {may : Bool} {p lo hi : Int} {s s' : St} (h : pQuant kid may p lo hi s = .ok n s') : s'.gr = s.gr := by
 unfold pQuant at h
 split at h
 ·simp at h
 split at h
 ·rename_i s1 hw; cases h; exact wd_gr hw
 split at h
 ·rename_i s1 hw; cases h; exact wd_gr hw
 ·cases h; rfl
theorem rep_gr {kid n : Z3} {may : Bool} {s s' : St} (h : pRep kid may s = .ok n s') : s'.gr = s.gr := by
 unfold pRep at h
 split at h
 ·rename_i s1 hw; exact (quant_gr h).trans (wd_gr hw)
 split at h
 ·rename_i s1 hw; exact (quant_gr h).trans (wd_gr hw)
 split at h
 ·rename_i s1 hw; exact (quant_gr h).trans (wd_gr hw)
 split at h
 ·rename_i s1 hw
  obtain ⟨c, s2, h1, h2⟩ := bind_ok h
  exact (quant_gr h2).trans ((counts_gr h1).trans (wd_gr hw))
 ·cases h; rfl
def Mono {α : Type} (P : Int → St → Out α) : Prop := ∀ p s v s', P p s = .ok v s' → s.gr ≤ s'.gr
section
variable {P : Int → St → Out (Z3 × Bool)} (M : Mono P)
include M
theorem atom_mono {s s' : St} {v : Z3 × Bool} (h : pAtom P s = .ok v s') : s.gr ≤ s'.gr := by
 unfold pAtom at h
 have ht := take_gr s
 split at h
 ·cases h; omega
 split at h
 ·cases h; omega
 split at h
 ·cases h; omega
 split at h
 ·obtain ⟨u, s1, h1, h2⟩ := bind_ok h
  cases h2
  have := esc_gr h1
  omega
 split at h
 ·obtain ⟨u, s1, h1, h2⟩ := bind_ok h
  cases h2
  have := class_gr h1
  omega
 split at h
 ·have := M _ _ _ _ h
  omega
 split at h
 ·simp at h
 split at h
 ·simp at h
 ·cases h; omega
theorem catL_mono : ∀ (k : Nat) (kids : List Z3) (s s' : St) (v : Z3), pCatL P k kids s = .ok v s' → s.gr ≤ s'.gr := by
 intro k
 induction k with
 | zero => intro kids s s' v h; simp [pCatL] at h
 | succ k ih =>
  intro kids s s' v h
  unfold pCatL at h
  split at h
  ·cases h; exact Int.le_refl _
  obtain ⟨m, s1, h1, h2⟩ := bind_ok h
  obtain ⟨n, s2, h3, h4⟩ := bind_ok h2
  have a1 := atom_mono M h1
  have a2 := rep_gr h3
  have a3 := ih _ _ _ _ h4
  omega
theorem altL_mono : ∀ (k : Nat) (kids : List Z3) (s s' : St) (v : Z3), pAltL P k kids s = .ok v s' → s.gr ≤ s'.gr := by
 intro k
 induction k with
 | zero => intro kids s s' v h; simp [pAltL] at h
 | succ k ih =>
  intro kids s s' v h
  unfold pAltL at h
  split at h
  ·cases h; exact Int.le_refl _
  rename_i s1 hw
  obtain ⟨n, s2, h3, h4⟩ := bind_ok h
  have a1 := wd_gr hw
  have a2 := catL_mono M _ _ _ _ _ h3
  have a3 := ih _ _ _ _ h4
  omega
theorem alt1_mono {s s' : St} {v : Z3} (h : pAlt1 P s = .ok v s') : s.gr ≤ s'.gr := by
 unfold pAlt1 at h
 obtain ⟨n, s2, h3, h4⟩ := bind_ok h
 have a2 := catL_mono M _ _ _ _ _ h3
 have a3 := altL_mono M _ _ _ _ _ h4
 omega
end
theorem open_gr {p : Int} {s s' : St} {n : Z3} (h : pOpen p s = .ok n s') : s'.gr = s.gr ∨ (s'.gr = s.gr + 1 ∧ n.Kind = 5) := by
 unfold pOpen at h
 split at h
 ·rename_i s1 hw; cases h; exact .inl (wd_gr hw)
 split at h
 ·rename_i s1 hw; cases h; exact .inl (wd_gr hw)
 split at h
 ·rename_i s1 hw; cases h; exact .inl (wd_gr hw)
 split at h
 ·rename_i s1 hw; cases h; exact .inl (wd_gr hw)
 split at h
 ·rename_i s1 hw; cases h; exact .inl (wd_gr hw)
 split at h
 ·rename_i s1 hw; cases h; exact .inl (wd_gr hw)
 split at h
 ·simp at h
 split at h
 ·simp at h
 ·cases h; exact .inr ⟨rfl, rfl⟩
theorem paren_mono {A : St → Out Z3} (M : ∀ s v s', A s = .ok v s' → s.gr ≤ s'.gr) : Mono (pParen A) := by
 intro p s v s' h
 unfold pParen at h
 obtain ⟨n, s1, h1, h2⟩ := bind_ok h
 obtain ⟨kid, s2, h3, h4⟩ := bind_ok h2
 have a1 := open_gr h1
 have a2 := M _ _ _ h3
 split at h4
 ·simp at h4
 rename_i s3 hw
 have a3 := wd_gr hw
 split at h4
 ·cases h4; omega
 ·cases h4; omega
theorem alt_mono : ∀ (d : Nat) (s : St) (v : Z3) (s' : St), pAlt d s = .ok v s' → s.gr ≤ s'.gr := by
 intro d
 induction d with
 | zero => intro s v s' h; exact alt1_mono (P := fun p _ => .bad 25 p) (fun p s v s' h => by simp at h) h
 | succ d ih => intro s v s' h; exact alt1_mono (paren_mono ih) h
end Go.Proofs.YtadodmjdkphddaaDoor.N2
end
section
set_option linter.unusedSimpArgs false
set_option linter.unusedVariables false
namespace Go.Proofs.YtadodmjdkphddaaDoor.N2
open Go Go.Abs Go.Proofs.Norm
set_option maxRecDepth 100000
section
variable {t : List Un} (ht : Tail t) {pre : List Int} {δ : Int}
theorem peek_app {us : List Un} (h : us ≠ []) : peek (us ++ t) = peek us := by
 cases us with
 | nil => exact absurd rfl h
 | cons x r => rfl
include ht in
theorem peek_tail : peek t = -1 ∨ peek t = 41 := by
 rcases ht with rfl | ⟨n, v, rfl⟩
 ·exact .inl rfl
 ·exact .inr rfl
include ht in
theorem peek_iff {us : List Un} {c : Int} (h1 : c ≠ -1) (h2 : c ≠ 41) : peek (us ++ t) = c ↔ peek us = c := by
 by_cases h : us = []
 ·subst h
  have e : peek ([] : List Un) = -1 := rfl
  rw [List.nil_append, e]
  rcases peek_tail ht with h3 | h3 <;> rw [h3] <;> omega
 ·rw [peek_app h]
theorem Like.ne {a b : St} (h : Like t pre δ a b) (hn : a.us ≠ []) : b.us ≠ [] := by
 rw [h.us]
 simp [hn]
theorem Like.peek {a b : St} (h : Like t pre δ a b) (hn : a.us ≠ []) : peek b.us = N2.peek a.us := by rw [h.us, peek_app hn]
include ht in
theorem Like.pk {a b : St} (h : Like t pre δ a b) {c : Int} (h1 : c ≠ -1) (h2 : c ≠ 41) : N2.peek b.us = c ↔ N2.peek a.us = c := by rw [h.us]; exact peek_iff ht h1 h2
theorem ne_of_peek {us : List Un} (h : peek us ≠ -1) : us ≠ [] := fun e => h (by rw [e]; rfl)
theorem Like.take {a b : St} (h : Like t pre δ a b) (hn : a.us ≠ []) : Like t pre δ (take a) (take b) := by
 obtain ⟨ua, pa, ga, ra⟩ := a
 obtain ⟨ub, pb, gb, rb⟩ := b
 cases ua with
 | nil => exact absurd rfl hn
 | cons x r =>
  have h1 := h.us
  simp only [List.cons_append] at h1
  subst h1
  exact ⟨rfl, h.gr, h.rf⟩
theorem isW_some {w : List Int} : ∀ {us r : List Un}, isW w us = some r → isW w (us ++ t) = some (r ++ t) := by
 induction w with
 | nil => intro us r h; cases h; rfl
 | cons c w ih =>
  intro us r h
  cases us with
  | nil => simp [isW] at h
  | cons x us =>
   obtain ⟨u, n⟩ := x
   simp only [isW, List.cons_append] at h ⊢
   split at h
   ·rename_i hc; rw [if_pos hc]; exact ih h
   ·simp at h
include ht in
theorem isW_none {w : List Int} (hw : ∀ c ∈ w, c ≠ 41) : ∀ {us : List Un}, isW w us = none → isW w (us ++ t) = none := by
 induction w with
 | nil => intro us h; simp [isW] at h
 | cons c w ih =>
  intro us h
  cases us with
  | nil =>
   rcases ht with rfl | ⟨n, v, rfl⟩
   ·rfl
   ·have := hw c (List.mem_cons_self ..)
    simp only [List.nil_append, isW]
    rw [if_neg (fun e => this e.symm)]
  | cons x us =>
   obtain ⟨u, n⟩ := x
   simp only [isW, List.cons_append] at h ⊢
   split
   ·rename_i hc; rw [if_pos hc] at h; exact ih (fun c h => hw c (List.mem_cons_of_mem _ h)) h
   ·rfl
theorem Like.wd_some {a b a' : St} (h : Like t pre δ a b) {w : List Int} (e : wd w a = some a') : ∃ b', wd w b = some b' ∧ Like t pre δ a' b' := by
 unfold wd at e ⊢
 rw [h.us]
 split at e
 ·rename_i r hr
  cases e
  rw [isW_some hr]
  exact ⟨_, rfl, rfl, h.gr, h.rf⟩
 ·simp at e
include ht in
theorem Like.wd_none {a b : St} (h : Like t pre δ a b) {w : List Int} (hw : ∀ c ∈ w, c ≠ 41) (e : wd w a = none) : wd w b = none := by
 unfold wd at e ⊢
 rw [h.us]
 split at e
 ·simp at e
 ·rename_i hr
  rw [isW_none ht hw hr]
def Runs (t : List Un) (pre : List Int) (δ : Int) {α : Type} (x y : Out α) : Prop := ∀ v a', x = .ok v a' → ∃ b', y = .ok v b' ∧ Like t pre δ a' b'
theorem Runs.ok {α : Type} {v : α} {a b : St} (h : Like t pre δ a b) : Runs t pre δ (.ok v a) (.ok v b) := by
 intro v' a' e; cases e; exact ⟨b, rfl, h⟩
theorem Runs.bad {α : Type} {c p : Int} {y : Out α} : Runs t pre δ (.bad c p) y := by intro v a e; simp at e
theorem Runs.bind {α β : Type} {x y : Out α} {f g : α → St → Out β} (h : Runs t pre δ x y) (k : ∀ v a b, x = .ok v a → Like t pre δ a b → Runs t pre δ (f v a) (g v b)) : Runs t pre δ (x.bind f) (y.bind g) := by
 intro v a' e
 obtain ⟨u, s1, h1, h2⟩ := bind_ok e
 obtain ⟨b1, e1, l1⟩ := h u s1 h1
 obtain ⟨b', e2, l2⟩ := k u s1 b1 h1 l1 v a' h2
 exact ⟨b', by rw [e1]; exact e2, l2⟩
theorem hex_ne {us : List Un} (h : 0 ≤ hexF (peek us)) : us ≠ [] := by
 intro e
 rw [e] at h
 exact absurd h (by decide)
theorem plain_runs {a b : St} (h : Like t pre δ a b) (u p q : Int) : Runs t pre δ (pPlain u p a) (pPlain u q b) := by
 unfold pPlain
 split
 ·exact .ok h
 split
 ·exact .ok h
 split
 ·exact .ok h
 split
 ·by_cases h1 : 0 ≤ hexF (N2.peek a.us)
  ·have n1 := hex_ne h1
   have e1 := h.peek n1
   rw [if_pos h1, if_pos (show 0 ≤ hexF (N2.peek b.us) by rw [e1]; exact h1)]
   by_cases h2 : 0 ≤ hexF (N2.peek (N2.take a).us)
   ·have n2 := hex_ne h2
    have e2 := (h.take n1).peek n2
    rw [if_pos h2, if_pos (show 0 ≤ hexF (N2.peek (N2.take b).us) by rw [e2]; exact h2), e1, e2]
    exact .ok ((h.take n1).take n2)
   ·rw [if_neg h2]
    exact .bad
  ·rw [if_neg h1]
   exact .bad
 split
 ·exact .ok h
 ·exact .bad
theorem esc_runs {a b : St} (h : Like t pre δ a b) (p q : Int) : Runs t pre δ (pEsc p a) (pEsc q b) := by
 unfold pEsc
 split
 ·exact .bad
 rename_i hn
 rw [if_neg (h.ne hn), h.peek hn]
 split
 ·exact .ok (h.take hn)
 split
 ·exact .ok (h.take hn)
 split
 ·exact .ok (h.take hn)
 split
 ·refine .ok ?_
  have h2 := h.take hn
  exact ⟨h2.us, h2.gr, by simp [h.rf]⟩
 ·exact (plain_runs (h.take hn) _ _ _).bind fun v a b _ h => .ok h
theorem mem_runs {a b : St} (h : Like t pre δ a b) (hn : a.us ≠ []) : Runs t pre δ (pMem a) (pMem b) := by
 unfold pMem
 rw [h.peek hn]
 split
 ·exact .ok (h.take hn)
 split
 ·exact .bad
 rename_i h2
 have k := h.take hn
 rw [if_neg (k.ne h2), k.peek h2]
 split
 ·exact .ok (k.take h2)
 ·exact (plain_runs (k.take h2) _ _ _).bind fun v a b _ h => .ok h
include ht in
theorem classL_runs (p q : Int) (no : Bool) : ∀ (k k' : Nat) (fst : Bool) (all : List R2) (a b : St), k ≤ k' → Like t pre δ a b → Runs t pre δ (pClassL p no k fst all a) (pClassL q no k' fst all b) := by
 intro k
 induction k with
 | zero => intro k' fst all a b _ h; exact .bad
 | succ k ih =>
  intro k' fst all a b hk h
  obtain ⟨k', rfl⟩ : ∃ j, k' = j + 1 := ⟨k' - 1, by omega⟩
  have hk' : k ≤ k' := by omega
  unfold pClassL
  split
  ·exact .bad
  rename_i hn
  rw [if_neg (h.ne hn), h.peek hn]
  split
  ·split
   ·exact .bad
   ·exact .ok (h.take hn)
  split
  ·exact .bad
  refine (mem_runs h hn).bind fun m a1 b1 _ h1 => ?_
  split
  ·split
   ·exact .bad
   ·rename_i hc
    rw [if_neg (fun e => hc ((h1.pk ht (by omega) (by omega)).1 e))]
    exact ih _ _ _ _ _ hk' h1
  split
  ·rename_i hw
   rw [h1.wd_none ht (by simp) hw]
   exact ih _ _ _ _ _ hk' h1
  ·rename_i a2 hw
   obtain ⟨b2, e2, h2⟩ := h1.wd_some hw
   rw [e2]
   dsimp only
   split
   ·exact .bad
   rename_i hc
   have n2 : a2.us ≠ [] := fun e => hc (.inl e)
   rw [if_neg (by rw [h2.peek n2]; intro e; rcases e with e | e; exact h2.ne n2 e; exact hc (.inr e))]
   refine (mem_runs h2 n2).bind fun m2 a3 b3 _ h3 => ?_
   split
   ·exact .bad
   ·exact ih _ _ _ _ _ hk' h3
include ht in
theorem class_runs {a b : St} (h : Like t pre δ a b) (p q : Int) : Runs t pre δ (pClass p a) (pClass q b) := by
 unfold pClass
 have len : ∀ {a b : St}, Like t pre δ a b → a.us.length + 1 ≤ b.us.length + 1 := by
  intro a b h
  rw [h.us, List.length_append]
  omega
 split
 ·rename_i a1 hw
  obtain ⟨b1, e1, h1⟩ := h.wd_some hw
  rw [e1]
  exact classL_runs ht _ _ _ _ _ _ _ _ _ (len h1) h1
 ·rename_i hw
  rw [h.wd_none ht (by simp) hw]
  exact classL_runs ht _ _ _ _ _ _ _ _ _ (len h) h
theorem digit_range {u : Int} : digit u = true ↔ 48 ≤ u ∧ u ≤ 57 := by unfold digit; simp
include ht in
theorem digit_app {us : List Un} : digit (peek (us ++ t)) = digit (peek us) := by
 by_cases h : us = []
 ·subst h
  rw [List.nil_append]
  rcases peek_tail ht with e | e <;> rw [e] <;> rfl
 ·rw [peek_app h]
theorem digit_ne {us : List Un} (h : digit (peek us) = true) : us ≠ [] := by
 intro e
 rw [e] at h
 exact absurd h (by decide)
include ht in
theorem num_like {a b : St} (h : Like t pre δ a b) : (pNum b).1 = (pNum a).1 ∧ Like t pre δ (pNum a).2 (pNum b).2 := by
 unfold pNum
 have e1 : digit (peek b.us) = digit (peek a.us) := by rw [h.us]; exact digit_app ht
 rw [e1]
 by_cases c1 : digit (peek a.us) = true
 ·have n1 := digit_ne c1
  have k := h.take n1
  have e2 : digit (peek (take b).us) = digit (peek (take a).us) := by rw [k.us]; exact digit_app ht
  rw [if_pos c1, if_pos c1, e2]
  by_cases c2 : digit (peek (take a).us) = true
  ·have n2 := digit_ne c2
   rw [if_pos c2, if_pos c2, h.peek n1, k.peek n2]
   exact ⟨rfl, k.take n2⟩
  ·rw [if_neg c2, if_neg c2, h.peek n1]
   exact ⟨rfl, k⟩
 ·rw [if_neg c1, if_neg c1]
  exact ⟨rfl, h⟩
theorem fin_runs {a b : St} (h : Like t pre δ a b) (p q lo hi : Int) : Runs t pre δ (pFin p lo hi a) (pFin q lo hi b) := by
 unfold pFin
 split
 ·exact .bad
 split
 ·exact .bad
 ·rename_i a1 hw
  obtain ⟨b1, e1, h1⟩ := h.wd_some hw
  rw [e1]
  exact .ok h1
include ht in
theorem counts_runs {a b : St} (h : Like t pre δ a b) (p q : Int) : Runs t pre δ (pCounts p a) (pCounts q b) := by
 unfold pCounts
 obtain ⟨e1, h1⟩ := num_like ht h
 rw [e1]
 split
 ·rename_i hw
  rw [h1.wd_none ht (by simp) hw]
  exact fin_runs h1 _ _ _ _
 ·rename_i a2 hw
  obtain ⟨b2, e2, h2⟩ := h1.wd_some hw
  obtain ⟨e3, h3⟩ := num_like ht h2
  rw [e2]
  dsimp only
  rw [e3]
  split
  ·split
   ·exact .bad
   ·rename_i a4 hw4
    obtain ⟨b4, e4, h4⟩ := h3.wd_some hw4
    rw [e4]
    dsimp only
    split
    ·exact .ok h4
    ·exact .bad
  ·exact fin_runs h3 _ _ _ _
include ht in
theorem quant_runs {a b : St} (h : Like t pre δ a b) (kid : Z3) (may : Bool) (p q lo hi : Int) : Runs t pre δ (pQuant kid may p lo hi a) (pQuant kid may q lo hi b) := by
 unfold pQuant
 split
 ·exact .bad
 split
 ·rename_i a1 hw
  obtain ⟨b1, e1, h1⟩ := h.wd_some hw
  rw [e1]
  exact .ok h1
 rename_i hw
 rw [h.wd_none ht (by simp) hw]
 dsimp only
 split
 ·rename_i a1 hw
  obtain ⟨b1, e1, h1⟩ := h.wd_some hw
  rw [e1]
  exact .ok h1
 ·rename_i hw
  rw [h.wd_none ht (by simp) hw]
  exact .ok h
include ht in
theorem rep_runs {a b : St} (h : Like t pre δ a b) (kid : Z3) (may : Bool) : Runs t pre δ (pRep kid may a) (pRep kid may b) := by
 unfold pRep
 split
 ·rename_i a1 hw
  obtain ⟨b1, e1, h1⟩ := h.wd_some hw
  rw [e1]
  exact quant_runs ht h1 _ _ _ _ _ _
 rename_i hw
 rw [h.wd_none ht (by simp) hw]
 dsimp only
 split
 ·rename_i a1 hw
  obtain ⟨b1, e1, h1⟩ := h.wd_some hw
  rw [e1]
  exact quant_runs ht h1 _ _ _ _ _ _
 rename_i hw
 rw [h.wd_none ht (by simp) hw]
 dsimp only
 split
 ·rename_i a1 hw
  obtain ⟨b1, e1, h1⟩ := h.wd_some hw
  rw [e1]
  exact quant_runs ht h1 _ _ _ _ _ _
 rename_i hw
 rw [h.wd_none ht (by simp) hw]
 dsimp only
 split
 ·rename_i a1 hw
  obtain ⟨b1, e1, h1⟩ := h.wd_some hw
  rw [e1]
  exact (counts_runs ht h1 _ _).bind fun c a b _ h => quant_runs ht h _ _ _ _ _ _
 ·rename_i hw
  rw [h.wd_none ht (by simp) hw]
  exact .ok h
end
end Go.Proofs.YtadodmjdkphddaaDoor.N2
end
section
set_option linter.unusedSimpArgs false
set_option linter.unusedVariables false
namespace Go.Proofs.YtadodmjdkphddaaDoor.N2
open Go Go.Abs Go.Proofs.Norm
set_option maxRecDepth 100000
def RunD (t : List Un) (pre : List Int) (δ : Int) (D : Prop) {α : Type} (x y : Out α) (g : Int) : Prop := ∀ v a', x = .ok v a' → (δ = 0 ∨ a'.gr = g) → (∃ b', y = .ok v b' ∧ Like t pre δ a' b') ∨ (D ∧ ∃ p, y = .bad 25 p)
section
variable {t : List Un} (ht : Tail t) {pre : List Int} {δ : Int} {D : Prop}
theorem Runs.d {α : Type} {x y : Out α} {g : Int} (h : Runs t pre δ x y) : RunD t pre δ D x y g := fun v a' e _ => .inl (h v a' e)
theorem RunD.bind {α β : Type} {x y : Out α} {f h : α → St → Out β} {g : Int} (hx : RunD t pre δ D x y g) (m1 : ∀ v a, x = .ok v a → g ≤ a.gr) (m2 : ∀ v a u s, x = .ok v a → f v a = .ok u s → a.gr ≤ s.gr)
  (k : ∀ v a b, x = .ok v a → Like t pre δ a b → RunD t pre δ D (f v a) (h v b) a.gr) : RunD t pre δ D (x.bind f) (y.bind h) g := by
 intro v a' e hd
 obtain ⟨u, s1, h1, h2⟩ := bind_ok e
 have q1 := m1 _ _ h1
 have q2 := m2 _ _ _ _ h1 h2
 rcases hx u s1 h1 (by omega) with ⟨b1, e1, l1⟩ | ⟨hD, p, hp⟩
 ·rcases k u s1 b1 h1 l1 v a' h2 (by omega) with ⟨b', e2, l2⟩ | ⟨hD, p, hp⟩
  ·exact .inl ⟨b', by rw [e1]; exact e2, l2⟩
  ·exact .inr ⟨hD, p, by rw [e1]; exact hp⟩
 ·exact .inr ⟨hD, p, by rw [hp]; rfl⟩
variable {P Q : Int → St → Out (Z3 × Bool)} (M : Mono P) (HP : ∀ p q a b, Like t pre δ a b → RunD t pre δ D (P p a) (Q q b) a.gr)
include ht HP in
theorem atom_run {a b : St} (h : Like t pre δ a b) (hn : a.us ≠ []) : RunD t pre δ D (pAtom P a) (pAtom Q b) a.gr := by
 have k := h.take hn
 unfold pAtom
 rw [h.peek hn]
 split
 ·exact (Runs.ok k).d
 split
 ·exact (Runs.ok k).d
 split
 ·exact (Runs.ok k).d
 split
 ·exact ((esc_runs k _ _).bind (f := fun n s1 => .ok (n, n.Kind != 9) s1) (g := fun n s1 => .ok (n, n.Kind != 9) s1) fun v a b _ h => .ok h).d
 split
 ·exact ((class_runs ht k _ _).bind (f := fun n s1 => .ok (n, true) s1) (g := fun n s1 => .ok (n, true) s1) fun v a b _ h => .ok h).d
 split
 ·have := HP a.pos b.pos _ _ k
  rwa [take_gr] at this
 split
 ·exact Runs.bad.d
 split
 ·exact Runs.bad.d
 ·exact (Runs.ok k).d
include ht in
theorem stops_app {us : List Un} : stops (us ++ t) = stops us := by
 by_cases h : us = []
 ·subst h
  rcases ht with rfl | ⟨n, v, rfl⟩ <;> rfl
 ·unfold stops
  rw [peek_app h]
  cases us with
  | nil => exact absurd rfl h
  | cons x r => rfl
theorem ne_stops {us : List Un} (h : ¬ stops us = true) : us ≠ [] := by
 rintro rfl
 exact h rfl
include ht M HP in
theorem catL_run : ∀ (k k' : Nat) (kids : List Z3) (a b : St), k ≤ k' → Like t pre δ a b → RunD t pre δ D (pCatL P k kids a) (pCatL Q k' kids b) a.gr := by
 intro k
 induction k with
 | zero => intro k' kids a b _ h; exact Runs.bad.d
 | succ k ih =>
  intro k' kids a b hk h
  obtain ⟨k', rfl⟩ : ∃ j, k' = j + 1 := ⟨k' - 1, by omega⟩
  unfold pCatL
  rw [h.us, stops_app ht]
  split
  ·exact (Runs.ok h).d
  rename_i hs
  have hn := ne_stops hs
  refine (atom_run ht HP h hn).bind (fun v a e => atom_mono M e) ?_ fun m a1 b1 _ h1 => ?_
  ·intro m a1 u s e1 e2
   obtain ⟨n, s2, h3, h4⟩ := bind_ok e2
   have := rep_gr h3
   have := catL_mono M _ _ _ _ _ h4
   omega
  ·refine (rep_runs ht h1 _ _).d.bind (fun v a e => by have := rep_gr e; omega) (fun v a u s _ e => catL_mono M _ _ _ _ _ e) fun n a2 b2 _ h2 => ?_
   exact ih _ _ _ _ (by omega) h2
theorem Like.len {a b : St} (h : Like t pre δ a b) : a.us.length + 1 ≤ b.us.length + 1 := by
 rw [h.us, List.length_append]
 omega
include ht M HP in
theorem altL_run : ∀ (k k' : Nat) (kids : List Z3) (a b : St), k ≤ k' → Like t pre δ a b → RunD t pre δ D (pAltL P k kids a) (pAltL Q k' kids b) a.gr := by
 intro k
 induction k with
 | zero => intro k' kids a b _ h; exact Runs.bad.d
 | succ k ih =>
  intro k' kids a b hk h
  obtain ⟨k', rfl⟩ : ∃ j, k' = j + 1 := ⟨k' - 1, by omega⟩
  unfold pAltL
  split
  ·rename_i hw
   rw [h.wd_none ht (by simp) hw]
   exact (Runs.ok h).d
  ·rename_i a1 hw
   obtain ⟨b1, e1, h1⟩ := h.wd_some hw
   rw [e1]
   dsimp only
   rw [← wd_gr hw]
   refine (catL_run ht M HP _ _ _ _ _ h1.len h1).bind (fun v a e => catL_mono M _ _ _ _ _ e) (fun v a u s _ e => altL_mono M _ _ _ _ _ e) fun n a2 b2 _ h2 => ?_
   exact ih _ _ _ _ (by omega) h2
include ht M HP in
theorem alt1_run {a b : St} (h : Like t pre δ a b) : RunD t pre δ D (pAlt1 P a) (pAlt1 Q b) a.gr := by
 unfold pAlt1
 refine (catL_run ht M HP _ _ _ _ _ h.len h).bind (fun v a e => catL_mono M _ _ _ _ _ e) (fun v a u s _ e => altL_mono M _ _ _ _ _ e) fun n a2 b2 _ h2 => ?_
 exact altL_run ht M HP _ _ _ _ _ h2.len h2
include ht in
theorem open_run {a b : St} (h : Like t pre δ a b) (p q : Int) : ∀ n a', pOpen p a = .ok n a' → (δ = 0 ∨ a'.gr = a.gr) → ∃ b', pOpen q b = .ok n b' ∧ Like t pre δ a' b' := by
 intro n a' e hd
 unfold pOpen at e ⊢
 split at e
 ·rename_i a1 hw
  obtain ⟨b1, e1, h1⟩ := h.wd_some hw
  cases e
  rw [e1]
  exact ⟨_, rfl, h1⟩
 rename_i hw
 rw [h.wd_none ht (by simp) hw]
 dsimp only
 split at e
 ·rename_i a1 hw
  obtain ⟨b1, e1, h1⟩ := h.wd_some hw
  cases e
  rw [e1]
  exact ⟨_, rfl, h1⟩
 rename_i hw
 rw [h.wd_none ht (by simp) hw]
 dsimp only
 split at e
 ·rename_i a1 hw
  obtain ⟨b1, e1, h1⟩ := h.wd_some hw
  cases e
  rw [e1]
  exact ⟨_, rfl, h1⟩
 rename_i hw
 rw [h.wd_none ht (by simp) hw]
 dsimp only
 split at e
 ·rename_i a1 hw
  obtain ⟨b1, e1, h1⟩ := h.wd_some hw
  cases e
  rw [e1]
  exact ⟨_, rfl, h1⟩
 rename_i hw
 rw [h.wd_none ht (by simp) hw]
 dsimp only
 split at e
 ·rename_i a1 hw
  obtain ⟨b1, e1, h1⟩ := h.wd_some hw
  cases e
  rw [e1]
  exact ⟨_, rfl, h1⟩
 rename_i hw
 rw [h.wd_none ht (by simp) hw]
 dsimp only
 split at e
 ·rename_i a1 hw
  obtain ⟨b1, e1, h1⟩ := h.wd_some hw
  cases e
  rw [e1]
  exact ⟨_, rfl, h1⟩
 rename_i hw
 rw [h.wd_none ht (by simp) hw]
 dsimp only
 split at e
 ·simp at e
 rename_i hp
 rw [if_neg (fun e => hp ((h.pk ht (by omega) (by omega)).1 e))]
 split at e
 ·simp at e
 rename_i h9
 cases e
 have h0 : δ = 0 := by
  rcases hd with hd | hd
  ·exact hd
  ·simp only [] at hd; omega
 have hg := h.gr
 rw [if_neg (by omega), show b.gr = a.gr by omega]
 exact ⟨_, rfl, h.us, by simp only []; omega, h.rf⟩
include ht in
theorem paren_run {A B : St → Out Z3} (MA : ∀ s v s', A s = .ok v s' → s.gr ≤ s'.gr) (HA : ∀ a b, Like t pre δ a b → RunD t pre δ D (A a) (B b) a.gr) (p q : Int) (a b : St) (h : Like t pre δ a b) : RunD t pre δ D (pParen A p a) (pParen B q b) a.gr := by
 unfold pParen
 have m1 : ∀ n s, pOpen p a = .ok n s → a.gr ≤ s.gr := by
  intro n s e
  have := open_gr e
  omega
 refine RunD.bind (fun n a' e hd => .inl (open_run ht h p q n a' e hd)) m1 ?_ ?_
 ·intro n s u s' e1 e2
  obtain ⟨kid, s2, h3, h4⟩ := bind_ok e2
  have := MA _ _ _ h3
  split at h4
  ·simp at h4
  rename_i s3 hw
  have := wd_gr hw
  split at h4 <;> cases h4 <;> omega
 ·intro n a1 b1 _ h1
  refine (HA a1 b1 h1).bind (fun v s e => MA _ _ _ e) ?_ ?_
  ·intro kid s2 u s' _ h4
   split at h4
   ·simp at h4
   rename_i s3 hw
   have := wd_gr hw
   split at h4 <;> cases h4 <;> omega
  ·intro kid a2 b2 _ h2
   split
   ·exact Runs.bad.d
   ·rename_i a3 hw
    obtain ⟨b3, e3, h3⟩ := h2.wd_some hw
    rw [e3]
    dsimp only
    split
    ·exact (Runs.ok h3).d
    ·exact (Runs.ok h3).d
end
theorem alt_run {t : List Un} (ht : Tail t) {pre : List Int} {δ : Int} : ∀ (d' d : Nat) (a b : St), d' ≤ d → Like t pre δ a b → RunD t pre δ (d' < d) (pAlt d a) (pAlt d' b) a.gr := by
 intro d'
 induction d' with
 | zero =>
  intro d a b hd h
  cases d with
  | zero => exact alt1_run (P := fun p _ => .bad 25 p) (Q := fun p _ => .bad 25 p) ht (fun p s v s' h => by simp at h) (fun p q a b _ => Runs.bad.d) h
  | succ d =>
   refine alt1_run (P := fun p s => pParen (pAlt d) p s) (Q := fun p _ => .bad 25 p) ht (paren_mono (alt_mono d)) (fun p q a b _ => ?_) h
   intro v a' _ _
   exact .inr ⟨by omega, q, rfl⟩
 | succ d' ih =>
  intro d a b hd h
  obtain ⟨d, rfl⟩ : ∃ j, d = j + 1 := ⟨d - 1, by omega⟩
  refine alt1_run (P := fun p s => pParen (pAlt d) p s) (Q := fun p s => pParen (pAlt d') p s) ht (paren_mono (alt_mono d)) (fun p q a b h => ?_) h
  refine paren_run ht (alt_mono d) (fun a b h => ?_) p q a b h
  intro v a' e hg
  rcases ih d a b (by omega) h v a' e hg with h1 | ⟨h1, h2⟩
  ·exact .inl h1
  ·exact .inr ⟨by omega, h2⟩
end Go.Proofs.YtadodmjdkphddaaDoor.N2
end
section
set_option linter.unusedSimpArgs false
set_option linter.unusedVariables false
namespace Go.Proofs.YtadodmjdkphddaaDoor.N2
open Go Go.Abs Go.Proofs.Norm
set_option maxRecDepth 100000
abbrev pP (d : Nat) : Int → St → Out (Z3 × Bool) := fun p s => pParen (pAlt d) p s
theorem alt_succ (d : Nat) (s : St) : pAlt (d + 1) s = pAlt1 (pP d) s := rfl
def inP (d : Nat) (p : Int) (s : St) : Out (Z3 × Bool) :=
 (pAlt d s).bind fun kid s2 => match wd [41] s2 with
  | none => .bad 20 p
  | some s3 => .ok (kid, true) s3
theorem atom_wrap (d : Nat) (w : List Un) (pos gr : Int) (rf : List Zq) : pAtom (pP d) ⟨(40, 1) :: (63, 1) :: (58, 1) :: w, pos, gr, rf⟩ = inP d pos ⟨w, pos + 1 + (2 : Nat), gr, rf⟩ := rfl
theorem rep_none {kid : Z3} {may : Bool} {s : St} (h : s.us = [] ∨ (peek s.us ≠ 42 ∧ peek s.us ≠ 43 ∧ peek s.us ≠ 63 ∧ peek s.us ≠ 123)) : pRep kid may s = .ok kid s := by
 have k : ∀ c, c = 42 ∨ c = 43 ∨ c = 63 ∨ c = 123 → wd [c] s = none := by
  intro c hc
  unfold wd
  obtain ⟨us, pos, gr, rf⟩ := s
  cases us with
  | nil => rfl
  | cons x r =>
   obtain ⟨u, n⟩ := x
   have h' : u ≠ 42 ∧ u ≠ 43 ∧ u ≠ 63 ∧ u ≠ 123 := by
    rcases h with h | h
    ·simp at h
    ·exact h
   simp only [isW]
   rw [if_neg (by omega)]
 unfold pRep
 rw [k 42 (by omega), k 43 (by omega), k 63 (by omega), k 123 (by omega)]
theorem cat_step {P : Int → St → Out (Z3 × Bool)} {k : Nat} {kids : List Z3} {s s1 s2 : St} {m : Z3 × Bool} {n : Z3} (h : stops s.us = false) (h1 : pAtom P s = .ok m s1) (h2 : pRep m.1 m.2 s1 = .ok n s2) :
  pCatL P (k + 1) kids s = pCatL P k (kids ++ [n]) s2 := by
 rw [pCatL, if_neg (by simp [h]), h1]
 dsimp only [Out.bind]
 rw [h2]
theorem cat_bad {P : Int → St → Out (Z3 × Bool)} {k : Nat} {kids : List Z3} {s : St} {c p : Int} (h : stops s.us = false) (h1 : pAtom P s = .bad c p) : pCatL P (k + 1) kids s = .bad c p := by
 rw [pCatL, if_neg (by simp [h]), h1]
 rfl
theorem cat_end {P : Int → St → Out (Z3 × Bool)} {k : Nat} {kids : List Z3} {s : St} (h : stops s.us = true) : pCatL P (k + 1) kids s = .ok (joined 2 kids) s := by
 rw [pCatL, if_pos h]
theorem altL_end {P : Int → St → Out (Z3 × Bool)} {k : Nat} {kids : List Z3} {s : St} (h : s.us = [] ∨ peek s.us ≠ 124) : pAltL P (k + 1) kids s = .ok (joined 3 kids) s := by
 have e : wd [124] s = none := by
  unfold wd
  obtain ⟨us, pos, gr, rf⟩ := s
  cases us with
  | nil => rfl
  | cons x r =>
   obtain ⟨u, n⟩ := x
   have h' : u ≠ 124 := by
    rcases h with h | h
    ·simp at h
    ·exact h
   simp only [isW]
   rw [if_neg h']
 rw [pAltL, e]
structure Reads (us : List Un) (n : Z3) (s : St) : Prop where
 alt : pAlt 32 ⟨us, 0, 0, []⟩ = .ok n s
 en : s.us = []
 rf : s.rf.find? (fun x => decide (s.gr < x.group)) = none
 fo : wd [40, 63, 105, 41] ⟨us, 0, 0, []⟩ = none
 res : pParse us = (⟨n, s.gr, false⟩, ⟨0, 0⟩)
theorem pEnd_fold {fold : Bool} {o : Out Z3} (h : (pEnd fold o).2.Code = 0) (hb : ∀ c p, o = .bad c p → c ≠ 0) : ∃ n s, o = .ok n s ∧ s.us = [] ∧ s.rf.find? (fun x => decide (s.gr < x.group)) = none ∧ pEnd fold o = (⟨n, s.gr, fold⟩, ⟨0, 0⟩) := by
 cases o with
 | bad c p => exact absurd h (hb c p rfl)
 | ok n s =>
  unfold pEnd at h ⊢
  dsimp only at h ⊢
  by_cases hu : s.us ≠ []
  ·rw [if_pos hu] at h; exact absurd h (by simp)
  ·rw [if_neg hu] at h ⊢
   have hu' : s.us = [] := Decidable.not_not.1 hu
   cases hf : s.rf.find? (fun x => decide (s.gr < x.group)) with
   | some x => rw [hf] at h; exact absurd h (by simp)
   | none => exact ⟨n, s, rfl, hu', hf, rfl⟩
theorem reads_again {us : List Un} {n : Z3} {s : St} (h : Reads us n s) {t : List Un} (ht : Tail t) (d : Nat) (hd : d ≤ 32) (δ pos : Int) (rf : List Zq) (hδ : δ = 0 ∨ s.gr = 0) :
  (∃ s', pAlt d ⟨us ++ t, pos, δ, rf⟩ = .ok n s' ∧ s'.us = t ∧ s'.gr = s.gr + δ ∧ s'.rf.map (·.group) = rf.map (·.group) ++ s.rf.map (·.group)) ∨ (d < 32 ∧ ∃ p, pAlt d ⟨us ++ t, pos, δ, rf⟩ = .bad 25 p) := by
 have hl : Like t (rf.map (·.group)) δ ⟨us, 0, 0, []⟩ ⟨us ++ t, pos, δ, rf⟩ := ⟨rfl, by simp, by simp⟩
 rcases alt_run ht d 32 _ _ hd hl n s h.alt hδ with ⟨b', e, l⟩ | h
 ·exact .inl ⟨b', e, by rw [l.us, h.en]; rfl, l.gr, l.rf⟩
 ·exact .inr h
theorem find_none_of {R R' : List Zq} {g g' : Int} (h : R.find? (fun x => decide (g < x.group)) = none) (e : R'.map (·.group) = R.map (·.group)) (hg : g ≤ g') : R'.find? (fun x => decide (g' < x.group)) = none := by
 rw [List.find?_eq_none] at *
 intro x hx
 have : x.group ∈ R.map (·.group) := e ▸ List.mem_map_of_mem hx
 obtain ⟨y, hy, hyx⟩ := List.mem_map.1 this
 have := h y hy
 simp only [decide_eq_true_eq] at this ⊢
 omega
theorem wd41 (v : List Un) (m : Int) (pos gr : Int) (rf : List Zq) : wd [41] ⟨(41, m) :: v, pos, gr, rf⟩ = some ⟨v, pos + (1 : Nat), gr, rf⟩ := rfl
theorem inP_ok {d : Nat} {w v : List Un} {n : Z3} {s' : St} {m pos p gr : Int} {rf : List Zq} (e : pAlt d ⟨w, pos, gr, rf⟩ = .ok n s') (hu : s'.us = (41, m) :: v) :
  inP d p ⟨w, pos, gr, rf⟩ = .ok (n, true) ⟨v, s'.pos + (1 : Nat), s'.gr, s'.rf⟩ := by
 unfold inP
 rw [e]
 obtain ⟨us, ps, g, r⟩ := s'
 simp only [] at hu
 subst hu
 rfl
theorem inP_bad {d : Nat} {s : St} {p c q : Int} (e : pAlt d s = .bad c q) : inP d p s = .bad c q := by
 unfold inP
 rw [e]
 rfl
theorem wrap_plain {us : List Un} {n : Z3} {s : St} (h : Reads us n s) :
  (∃ p, pParse ((40, 1) :: (63, 1) :: (58, 1) :: (us ++ [(41, 1)])) = (noPat, ⟨25, p⟩)) ∨ pParse ((40, 1) :: (63, 1) :: (58, 1) :: (us ++ [(41, 1)])) = (⟨n, s.gr, false⟩, ⟨0, 0⟩) := by
 have e0 : wd [40, 63, 105, 41] ⟨(40, 1) :: (63, 1) :: (58, 1) :: (us ++ [(41, 1)]), 0, 0, []⟩ = none := rfl
 unfold pParse
 rw [e0, alt_succ, pAlt1, pCat]
 have hs : stops ((40, 1) :: (63, 1) :: (58, 1) :: (us ++ [(41, 1)])) = false := rfl
 have ha := atom_wrap 31 (us ++ [(41, 1)]) 0 0 []
 have ht : Tail [(41, 1)] := .inr ⟨1, [], rfl⟩
 rcases reads_again h ht 31 (by omega) 0 (0 + 1 + (2 : Nat)) [] (.inl rfl) with ⟨s', e1, e2, e3, e4⟩ | ⟨_, p, e1⟩
 ·rw [inP_ok e1 e2] at ha
  rw [cat_step hs ha (rep_none (.inl rfl))]
  right
  simp only [List.length_cons]
  rw [cat_end rfl]
  simp only [Out.bind, List.length_nil]
  rw [altL_end (.inl rfl)]
  unfold pEnd
  dsimp only
  rw [if_neg (by simp), find_none_of h.rf e4 (by omega)]
  show ((⟨n, s'.gr, false⟩, ⟨0, 0⟩) : ZC × Zj) = _
  rw [e3, Int.add_zero]
 ·left
  rw [inP_bad e1] at ha
  rw [cat_bad hs ha]
  exact ⟨p, rfl⟩
theorem fold_plain {us : List Un} {n : Z3} {s : St} (h : Reads us n s) : pParse ((40, 1) :: (63, 1) :: (105, 1) :: (41, 1) :: us) = (⟨n, s.gr, true⟩, ⟨0, 0⟩) := by
 have e0 : wd [40, 63, 105, 41] ⟨(40, 1) :: (63, 1) :: (105, 1) :: (41, 1) :: us, 0, 0, []⟩ = some ⟨us, 0 + (4 : Nat), 0, []⟩ := rfl
 unfold pParse
 rw [e0]
 dsimp only
 rcases reads_again h (.inl rfl) 32 (by omega) 0 (0 + (4 : Nat)) [] (.inl rfl) with ⟨s', e1, e2, e3, e4⟩ | ⟨h, _⟩
 ·rw [List.append_nil] at e1
  rw [e1]
  unfold pEnd
  dsimp only
  rw [if_neg (by simp [e2]), find_none_of h.rf e4 (by omega)]
  show ((⟨n, s'.gr, true⟩, ⟨0, 0⟩) : ZC × Zj) = _
  rw [e3, Int.add_zero]
 ·omega
theorem Reads.head {us : List Un} {n : Z3} {s : St} (h : Reads us n s) : peek us ≠ 63 := by
 intro e
 have hs : stops us = false := by
  cases us with
  | nil => exact absurd e (by decide)
  | cons x r => unfold stops; rw [e]; rfl
 have ha : pAtom (pP 31) ⟨us, 0, 0, []⟩ = .bad 23 0 := by
  unfold pAtom
  simp only [e]
  rfl
 have := h.alt
 rw [alt_succ, pAlt1, pCat, cat_bad hs ha] at this
 simp [Out.bind] at this
theorem isW_no {us : List Un} (h : peek us ≠ 63) (w : List Int) (t : List Un) (ht : peek t ≠ 63) : isW (63 :: w) (us ++ t) = none := by
 cases us with
 | nil =>
  cases t with
  | nil => rfl
  | cons x r =>
   obtain ⟨u, n⟩ := x
   have h' : u ≠ 63 := ht
   simp only [List.nil_append, isW]
   rw [if_neg h']
 | cons x r =>
  obtain ⟨u, n⟩ := x
  have h' : u ≠ 63 := h
  simp only [List.cons_append, isW]
  rw [if_neg h']
theorem wd_no {us : List Un} (h : peek us ≠ 63) (w : List Int) (t : List Un) (ht : peek t ≠ 63) (pos gr : Int) (rf : List Zq) : wd (63 :: w) ⟨us ++ t, pos, gr, rf⟩ = none := by
 unfold wd
 dsimp only
 rw [isW_no h w t ht]
theorem group_plain {us : List Un} {n : Z3} {s : St} (h : Reads us n s) (h0 : s.gr = 0) :
  (∃ p, pParse ((40, 1) :: (us ++ [(41, 1)])) = (noPat, ⟨25, p⟩)) ∨ pParse ((40, 1) :: (us ++ [(41, 1)])) = (⟨⟨5, 0, 0, 0, 1, [], [n]⟩, 1, false⟩, ⟨0, 0⟩) := by
 have hp := h.head
 have e0 : wd [40, 63, 105, 41] ⟨(40, 1) :: (us ++ [(41, 1)]), 0, 0, []⟩ = none := by
  unfold wd
  dsimp only
  rw [show isW [40, 63, 105, 41] ((40, 1) :: (us ++ [(41, 1)])) = isW [63, 105, 41] (us ++ [(41, 1)]) from rfl, isW_no hp _ _ (by decide)]
 unfold pParse
 rw [e0, alt_succ, pAlt1, pCat]
 have hs : stops ((40, 1) :: (us ++ [(41, 1)])) = false := rfl
 have hpk : peek (us ++ [(41, 1)]) ≠ 63 := by
  cases us with
  | nil => decide
  | cons x r => exact hp
 have ho : pOpen 0 ⟨us ++ [(41, 1)], 0 + 1, 0, []⟩ = .ok ⟨5, 0, 0, 0, 1, [], []⟩ ⟨us ++ [(41, 1)], 0 + 1, 1, []⟩ := by
  unfold pOpen
  rw [wd_no hp _ _ (by decide), wd_no hp _ _ (by decide), wd_no hp _ _ (by decide), wd_no hp _ _ (by decide), wd_no hp _ _ (by decide), wd_no hp _ _ (by decide)]
  dsimp only
  rw [if_neg hpk, if_neg (by decide)]
  rfl
 have ht : Tail [(41, 1)] := .inr ⟨1, [], rfl⟩
 have ha : pAtom (pP 31) ⟨(40, 1) :: (us ++ [(41, 1)]), 0, 0, []⟩ = pParen (pAlt 31) 0 ⟨us ++ [(41, 1)], 0 + 1, 0, []⟩ := rfl
 unfold pParen at ha
 rw [ho] at ha
 dsimp only [Out.bind] at ha
 rcases reads_again h ht 31 (by omega) 1 (0 + 1) [] (.inr h0) with ⟨s', e1, e2, e3, e4⟩ | ⟨_, p, e1⟩
 ·rw [e1] at ha
  dsimp only at ha
  obtain ⟨us', ps, g, r⟩ := s'
  simp only [] at e2 e3 e4
  subst e2
  rw [wd41] at ha
  dsimp only at ha
  rw [if_neg (by decide)] at ha
  rw [cat_step hs ha (rep_none (.inl rfl))]
  right
  simp only [List.length_cons]
  rw [cat_end rfl]
  simp only [Out.bind, List.length_nil]
  rw [altL_end (.inl rfl)]
  unfold pEnd
  dsimp only
  rw [if_neg (by simp), find_none_of h.rf e4 (by omega)]
  show ((⟨_, g, false⟩, ⟨0, 0⟩) : ZC × Zj) = _
  rw [e3, h0]
  rfl
 ·left
  rw [e1] at ha
  rw [cat_bad hs ha]
  exact ⟨p, rfl⟩
end Go.Proofs.YtadodmjdkphddaaDoor.N2
end
section
set_option linter.unusedSimpArgs false
set_option linter.unusedVariables false
namespace Go.Proofs.YtadodmjdkphddaaDoor.N2
open Go Go.Abs Go.Proofs.Norm
set_option maxRecDepth 100000
abbrev wrapU (us t : List Un) : List Un := (40, 1) :: (63, 1) :: (58, 1) :: (us ++ (41, 1) :: t)
theorem find_none_two {R R1 R2 : List Zq} {g1 g2 g : Int} (h1 : R1.find? (fun x => decide (g1 < x.group)) = none) (h2 : R2.find? (fun x => decide (g2 < x.group)) = none)
  (e : R.map (·.group) = R1.map (·.group) ++ R2.map (·.group)) (hg1 : g1 ≤ g) (hg2 : g2 ≤ g) : R.find? (fun x => decide (g < x.group)) = none := by
 rw [List.find?_eq_none] at *
 intro x hx
 have : x.group ∈ R1.map (·.group) ++ R2.map (·.group) := e ▸ List.mem_map_of_mem hx
 rcases List.mem_append.1 this with hm | hm
 ·obtain ⟨y, hy, hyx⟩ := List.mem_map.1 hm
  have := h1 y hy
  simp only [decide_eq_true_eq] at this ⊢
  omega
 ·obtain ⟨y, hy, hyx⟩ := List.mem_map.1 hm
  have := h2 y hy
  simp only [decide_eq_true_eq] at this ⊢
  omega
theorem atom_again {us : List Un} {n : Z3} {s : St} (h : Reads us n s) (t : List Un) (pos gr : Int) (rf : List Zq) (hg : gr = 0 ∨ s.gr = 0) :
  (∃ pos' rf', pAtom (pP 31) ⟨wrapU us t, pos, gr, rf⟩ = .ok (n, true) ⟨t, pos', s.gr + gr, rf'⟩ ∧ rf'.map (·.group) = rf.map (·.group) ++ s.rf.map (·.group)) ∨ ∃ p, pAtom (pP 31) ⟨wrapU us t, pos, gr, rf⟩ = .bad 25 p := by
 have ha := atom_wrap 31 (us ++ (41, 1) :: t) pos gr rf
 rcases reads_again h (t := (41, 1) :: t) (.inr ⟨1, t, rfl⟩) 31 (by omega) gr (pos + 1 + (2 : Nat)) rf hg with ⟨s', e1, e2, e3, e4⟩ | ⟨_, p, e1⟩
 ·left
  rw [inP_ok e1 e2] at ha
  obtain ⟨us', ps, g, r⟩ := s'
  simp only [] at e3 e4
  subst e3
  exact ⟨_, r, ha, e4⟩
 ·right
  rw [inP_bad e1] at ha
  exact ⟨p, ha⟩
theorem rows_plain {a b : List Un} {n m : Z3} {s s2 : St} (h : Reads a n s) (h2 : Reads b m s2) (h0 : s.gr = 0) (h02 : s2.gr = 0) :
  (∃ p, pParse (wrapU a (wrapU b [])) = (noPat, ⟨25, p⟩)) ∨ pParse (wrapU a (wrapU b [])) = (⟨⟨2, 0, 0, 0, 0, [], [n, m]⟩, 0, false⟩, ⟨0, 0⟩) := by
 have e0 : wd [40, 63, 105, 41] ⟨wrapU a (wrapU b []), 0, 0, []⟩ = none := rfl
 unfold pParse
 rw [e0, alt_succ, pAlt1, pCat]
 obtain ⟨k, hk⟩ : ∃ k, (wrapU a (wrapU b [])).length + 1 = k + 1 + 1 + 1 := ⟨(wrapU a (wrapU b [])).length - 2, by simp⟩
 dsimp only
 rw [hk]
 rcases atom_again h (wrapU b []) 0 0 [] (.inl rfl) with ⟨p1, r1, ha, hr1⟩ | ⟨p, ha⟩
 ·rw [cat_step rfl ha (rep_none (.inr (by show (40 : Int) ≠ 42 ∧ (40 : Int) ≠ 43 ∧ (40 : Int) ≠ 63 ∧ (40 : Int) ≠ 123; decide)))]
  rcases atom_again h2 [] p1 (s.gr + 0) r1 (.inl (by omega)) with ⟨p2, r2, hb, hr2⟩ | ⟨p, hb⟩
  ·rw [cat_step rfl hb (rep_none (.inl rfl)), cat_end rfl]
   right
   simp only [Out.bind, List.length_nil]
   rw [altL_end (.inl rfl)]
   unfold pEnd
   dsimp only
   rw [if_neg (by simp), find_none_two h.rf h2.rf (g := s2.gr + (s.gr + 0)) (by rw [hr2, hr1]; rfl) (by omega) (by omega)]
   show ((⟨_, s2.gr + (s.gr + 0), false⟩, ⟨0, 0⟩) : ZC × Zj) = _
   rw [h0, h02]
   rfl
  ·rw [cat_bad rfl hb]
   exact .inl ⟨p, rfl⟩
 ·rw [cat_bad rfl ha]
  exact .inl ⟨p, rfl⟩
theorem altL_step {P : Int → St → Out (Z3 × Bool)} {k : Nat} {kids : List Z3} {us : List Un} {pos gr : Int} {rf : List Zq} :
  pAltL P (k + 1) kids ⟨(124, 1) :: us, pos, gr, rf⟩ = (pCat P ⟨us, pos + (1 : Nat), gr, rf⟩).bind fun n s2 => pAltL P k (kids ++ [n]) s2 := rfl
theorem alts_plain {a b : List Un} {n m : Z3} {s s2 : St} (h : Reads a n s) (h2 : Reads b m s2) (hg : s.gr = 0 ∨ s2.gr = 0) :
  (∃ p, pParse (wrapU a ((124, 1) :: wrapU b [])) = (noPat, ⟨25, p⟩)) ∨ pParse (wrapU a ((124, 1) :: wrapU b [])) = (⟨⟨3, 0, 0, 0, 0, [], [n, m]⟩, s2.gr + s.gr, false⟩, ⟨0, 0⟩) := by
 have e0 : wd [40, 63, 105, 41] ⟨wrapU a ((124, 1) :: wrapU b []), 0, 0, []⟩ = none := rfl
 unfold pParse
 rw [e0, alt_succ, pAlt1, pCat]
 obtain ⟨k, hk⟩ : ∃ k, (wrapU a ((124, 1) :: wrapU b [])).length + 1 = k + 1 + 1 := ⟨(wrapU a ((124, 1) :: wrapU b [])).length - 1, by simp⟩
 dsimp only
 rw [hk]
 rcases atom_again h ((124, 1) :: wrapU b []) 0 0 [] (.inl rfl) with ⟨p1, r1, ha, hr1⟩ | ⟨p, ha⟩
 ·rw [cat_step rfl ha (rep_none (.inr (by show (124 : Int) ≠ 42 ∧ (124 : Int) ≠ 43 ∧ (124 : Int) ≠ 63 ∧ (124 : Int) ≠ 123; decide))), cat_end rfl]
  dsimp only [Out.bind]
  rw [show (((124, 1) :: wrapU b [] : List Un).length + 1) = ((b ++ [(41, 1)]).length + 1 + 1 + 1) + 1 + 1 by simp, altL_step, pCat]
  dsimp only
  rw [show (wrapU b []).length + 1 = ((b ++ [(41, 1)]).length + 1 + 1) + 1 + 1 by simp]
  rcases atom_again h2 [] (p1 + (1 : Nat)) (s.gr + 0) r1 (by omega) with ⟨p2, r2, hb, hr2⟩ | ⟨p, hb⟩
  ·rw [cat_step rfl hb (rep_none (.inl rfl)), cat_end rfl]
   right
   simp only [Out.bind]
   rw [altL_end (.inl rfl)]
   unfold pEnd
   dsimp only
   rw [if_neg (by simp)]
   have hm := alt_mono 32 _ _ _ h.alt
   have hm2 := alt_mono 32 _ _ _ h2.alt
   simp only [] at hm hm2
   rw [find_none_two h.rf h2.rf (g := s2.gr + (s.gr + 0)) (by rw [hr2, hr1]; rfl) (by omega) (by omega)]
   show ((⟨_, s2.gr + (s.gr + 0), false⟩, ⟨0, 0⟩) : ZC × Zj) = _
   rw [Int.add_zero]
   rfl
  ·rw [cat_bad rfl hb]
   exact .inl ⟨p, rfl⟩
 ·rw [cat_bad rfl ha]
  exact .inl ⟨p, rfl⟩
end Go.Proofs.YtadodmjdkphddaaDoor.N2
end
section
set_option linter.unusedSimpArgs false
set_option linter.unusedVariables false
namespace Go.Proofs.YtadodmjdkphddaaDoor.N2
open Go Go.Abs Go.Proofs.Unis Go.Proofs.Norm
set_option maxRecDepth 100000
abbrev bytes (x : ByteArray) : List UInt8 := x.data.toList
theorem sadd_ok {x y : ByteArray} (h : (bytes x).length + (bytes y).length ≤ 1000000) : sadd x y = some (x ++ y) := by
 unfold sadd
 have h1 : x.size = (bytes x).length := rfl
 have h2 : y.size = (bytes y).length := rfl
 have h3 : IntKind.i64.max = 9223372036854775807 := by decide
 rw [if_neg (by rw [h1, h2, h3]; omega)]
theorem bytes_add (x y : ByteArray) : bytes (x ++ y) = bytes x ++ bytes y := by
 show (x ++ y).data.toList = _
 rw [ByteArray.data_append, Array.toList_append]
theorem fresh_cons {c : UInt8} {l : List UInt8} (h : c.toNat < 128) : fresh (c :: l) := fresh_byte h
theorem unis_add {s : List UInt8} (hs : fresh s) (a : List UInt8) : unis (a ++ s) = unis a ++ unis s := unis_app hs a.length a (Nat.le_refl _)
theorem reads_of {x : ByteArray} (h : (parseF x).2.Code = 0) (hf : (parseF x).1.Fold = false) : (bytes x).length ≤ 256 ∧ ∃ n s, Reads (unis (bytes x)) n s ∧ parseF x = (⟨n, s.gr, false⟩, ⟨0, 0⟩) := by
 unfold parseF at h hf ⊢
 split at h
 ·simp at h
 rename_i hx
 rw [if_neg hx] at hf ⊢
 change ¬ 256 < (bytes x).length at hx
 refine ⟨by omega, ?_⟩
 change (pParse (unis (bytes x))).2.Code = 0 at h
 change (pParse (unis (bytes x))).1.Fold = false at hf
 show ∃ n s, Reads (unis (bytes x)) n s ∧ pParse (unis (bytes x)) = _
 have hx' : (bytes x).length ≤ 256 := by omega
 generalize bytes x = l at hx' h hf ⊢
 have hat : At l ⟨unis l, 0, 0, []⟩ := ⟨0, by omega, rfl, rfl⟩
 have hi : Inv l ⟨unis l, 0, 0, []⟩ := ⟨hat, by simp, by simp, by have := hat.len; simp only [] at this; simp; omega⟩
 cases hw : wd [40, 63, 105, 41] ⟨unis l, 0, 0, []⟩ with
 | some s1 =>
  exfalso
  obtain ⟨t1, t2, t3⟩ := word_some wFo hat (by omega) hw
  have e : pParse (unis l) = pEnd true (pAlt 32 s1) := by unfold pParse; rw [hw]
  rw [e] at h hf
  have hb : ∀ c p, pAlt 32 s1 = .bad c p → c ≠ 0 := by
   intro c p hp
   have := alt_val (l := l) (by omega) 32 0 (by omega) (by omega) s1 ((t2.mv hi).inv hi)
   rw [hp] at this
   exact this.1
  obtain ⟨n, s, _, _, _, e4⟩ := pEnd_fold h hb
  rw [e4] at hf
  simp at hf
 | none =>
  have e : pParse (unis l) = pEnd false (pAlt 32 ⟨unis l, 0, 0, []⟩) := by unfold pParse; rw [hw]
  have hb : ∀ c p, pAlt 32 ⟨unis l, 0, 0, []⟩ = .bad c p → c ≠ 0 := by
   intro c p hp
   have := alt_val (l := l) (by omega) 32 0 (by omega) (by omega) _ hi
   rw [hp] at this
   exact this.1
  rw [e] at h
  obtain ⟨n, s, e1, e2, e3, e4⟩ := pEnd_fold h hb
  refine ⟨n, s, ⟨e1, e2, e3, hw, ?_⟩, ?_⟩
  ·rw [e]; exact e4
  ·rw [e]; exact e4
theorem parseF_small {x : ByteArray} (h : (bytes x).length ≤ 256) : parseF x = pParse (unis (bytes x)) := by
 unfold parseF
 rw [if_neg (by show ¬ 256 < (bytes x).length; omega)]
theorem parseF_big {x : ByteArray} (h : 256 < (bytes x).length) : parseF x = (noPat, ⟨12, 0⟩) := by
 unfold parseF
 rw [if_pos h]
theorem size_bytes (x : ByteArray) : x.size = (bytes x).length := rfl
theorem unis_wrap (x t : List UInt8) : unis ((40 :: 63 :: 58 :: x) ++ 41 :: t) = wrapU (unis x) (unis t) := by
 show unis (40 :: 63 :: 58 :: (x ++ 41 :: t)) = _
 rw [unis_ascii (by decide), unis_ascii (by decide), unis_ascii (by decide), unis_add (fresh_cons (by decide)), unis_ascii (by decide)]
 rfl
theorem alt_good9 {l : List UInt8} {n : Z3} {s : St} (h : Reads (unis l) n s) (hl : l.length ≤ 100) : s.gr ≤ 9 := by
 have hat : At l ⟨unis l, 0, 0, []⟩ := ⟨0, by omega, rfl, rfl⟩
 have hi : Inv l ⟨unis l, 0, 0, []⟩ := ⟨hat, by simp, by simp, by have := hat.len; simp only [] at this; simp; omega⟩
 have := alt_val (l := l) (by omega) 32 0 (by omega) (by omega) _ hi
 rw [h.alt] at this
 exact (this.2.inv hi).g9
end Go.Proofs.YtadodmjdkphddaaDoor.N2
end
section
set_option linter.unusedSimpArgs false
set_option linter.unusedVariables false
namespace Go.Proofs.YtadodmjdkphddaaDoor.N2
open Go Go.Abs Go.Proofs.Unis Go.Proofs.Norm
set_option maxRecDepth 100000
inductive NE : Z3 → Z3 → Prop
 | refl (n : Z3) : NE n n
 | row (k : Int) (l l' : List Z3) : k = 2 ∨ k = 3 → l.length = l'.length → (∀ (i : Nat) (x y : Z3), l[i]? = some x → l'[i]? = some y → NE x y) → NE ⟨k, 0, 0, 0, 0, [], l⟩ ⟨k, 0, 0, 0, 0, [], l'⟩
 | rep (lo hi m : Int) (x y : Z3) : NE x y → NE ⟨4, lo, hi, m, 0, [], [x]⟩ ⟨4, lo, hi, m, 0, [], [y]⟩
 | group (r r' : Int) (x y : Z3) : NE x y → NE ⟨5, 0, 0, 0, r, [], [x]⟩ ⟨5, 0, 0, 0, r', [], [y]⟩
 | look (m : Int) (x y : Z3) : NE x y → NE ⟨7, 0, 0, m, 0, [], [x]⟩ ⟨7, 0, 0, m, 0, [], [y]⟩
 | atomic (x y : Z3) : NE x y → NE ⟨8, 0, 0, 0, 0, [], [x]⟩ ⟨8, 0, 0, 0, 0, [], [y]⟩
theorem shp_inv {n : Z3} {v : Sh} (h : Shp n v) :
  (n.Kind = 2 → ∃ V : List Sh, n.Kids.length ≤ 3000 ∧ V.length = n.Kids.length ∧ (∀ (i : Nat) (x : Z3) (v : Sh), n.Kids[i]? = some x → V[i]? = some v → Shp x v) ∧ v = V.foldl catS cat0) ∧
  (n.Kind = 3 → ∃ V : List Sh, n.Kids.length ≤ 3000 ∧ 2 ≤ n.Kids.length ∧ V.length = n.Kids.length ∧ (∀ (i : Nat) (x : Z3) (v : Sh), n.Kids[i]? = some x → V[i]? = some v → Shp x v) ∧ v = { V.foldl altS alt0 with sz := min ((V.foldl altS alt0).sz + 2 * ((n.Kids.length : Int) - 1)) 1048576 }) ∧
  (n.Kind = 4 → ∀ x, n.Kids = [x] → ∃ u, (0 ≤ n.Lo ∧ n.Lo ≤ 64) ∧ (n.Hi = -1 ∨ (n.Lo ≤ n.Hi ∧ n.Hi ≤ 64)) ∧ Shp x u ∧ v = ⟨min (u.lo * n.Lo) 1048576, timesF u.hi n.Hi, repZ n.Lo n.Hi n.Mode u.sz, u.bd⟩) ∧
  (n.Kind = 5 → ∀ x, n.Kids = [x] → ∃ u, Shp x u ∧ v = { u with sz := min (u.sz + 2) 1048576 }) ∧
  (n.Kind = 7 → ∀ x, n.Kids = [x] → ∃ u, Shp x u ∧ v = ⟨0, 0, min (u.sz + 2) 1048576, lookB n.Mode u⟩) ∧
  (n.Kind = 8 → ∀ x, n.Kids = [x] → ∃ u, Shp x u ∧ v = { u with sz := min (u.sz + 2) 1048576 }) := by
 cases h with
 | none => simp [nd0]
 | set l => simp [setN]
 | back r => simp
 | edge k => simp [edge]
 | cat l V h1 h2 h3 => exact ⟨fun _ => ⟨V, h1, h2, h3, rfl⟩, by simp, by simp, by simp, by simp, by simp⟩
 | alt l V h1 h0 h2 h3 => exact ⟨by simp, fun _ => ⟨V, h1, h0, h2, h3, rfl⟩, by simp, by simp, by simp, by simp⟩
 | rep lo hi m x u h1 h2 h3 => exact ⟨by simp, by simp, fun _ y hy => by simp at hy; subst hy; exact ⟨u, h1, h2, h3, rfl⟩, by simp, by simp, by simp⟩
 | group r x u h => exact ⟨by simp, by simp, by simp, fun _ y hy => by simp at hy; subst hy; exact ⟨u, h, rfl⟩, by simp, by simp⟩
 | look m x u h => exact ⟨by simp, by simp, by simp, by simp, fun _ y hy => by simp at hy; subst hy; exact ⟨u, h, rfl⟩, by simp⟩
 | atomic x u h => exact ⟨by simp, by simp, by simp, by simp, by simp, fun _ y hy => by simp at hy; subst hy; exact ⟨u, h, rfl⟩⟩
theorem ne_shp {n n' : Z3} (h : NE n n') : ∀ {v : Sh}, Shp n v → Shp n' v := by
 induction h with
 | refl n => intro v hv; exact hv
 | row k l l' hk hl _ ih =>
  intro v hv
  have get : ∀ {i : Nat} {y : Z3}, l'[i]? = some y → ∃ x, l[i]? = some x := fun {i y} hy => ⟨l[i]'(by have := (List.getElem?_eq_some_iff.1 hy).1; omega), List.getElem?_eq_getElem _⟩
  rcases hk with rfl | rfl
  ·obtain ⟨V, h1, h2, h3, rfl⟩ := (shp_inv hv).1 rfl
   refine .cat l' V (by simp only [] at h1; omega) (by simp only [] at h2; omega) fun i y u hy hu => ?_
   obtain ⟨x, hx⟩ := get hy
   exact ih i x y hx hy (h3 i x u hx hu)
  ·obtain ⟨V, h1, h0, h2, h3, rfl⟩ := (shp_inv hv).2.1 rfl
   dsimp only
   rw [hl]
   refine .alt l' V (by simp only [] at h1; omega) (by simp only [] at h0; omega) (by simp only [] at h2; omega) fun i y u hy hu => ?_
   obtain ⟨x, hx⟩ := get hy
   exact ih i x y hx hy (h3 i x u hx hu)
 | rep lo hi m x y _ ih =>
  intro v hv
  obtain ⟨u, h1, h2, h3, rfl⟩ := (shp_inv hv).2.2.1 rfl x rfl
  exact .rep lo hi m y u h1 h2 (ih h3)
 | group r r' x y _ ih =>
  intro v hv
  obtain ⟨u, h3, rfl⟩ := (shp_inv hv).2.2.2.1 rfl x rfl
  exact .group r' y u (ih h3)
 | look m x y _ ih =>
  intro v hv
  obtain ⟨u, h3, rfl⟩ := (shp_inv hv).2.2.2.2.1 rfl x rfl
  exact .look m y u (ih h3)
 | atomic x y _ ih =>
  intro v hv
  obtain ⟨u, h3, rfl⟩ := (shp_inv hv).2.2.2.2.2 rfl x rfl
  exact .atomic y u (ih h3)
def LE (l l' : List Z3) : Prop := l.length = l'.length ∧ ∀ (i : Nat) (x y : Z3), l[i]? = some x → l'[i]? = some y → NE x y
theorem LE.nil : LE [] [] := ⟨rfl, by simp⟩
theorem LE.snoc {l l' : List Z3} (h : LE l l') {x y : Z3} (hx : NE x y) : LE (l ++ [x]) (l' ++ [y]) := by
 refine ⟨by simp [h.1], fun i a b ha hb => ?_⟩
 by_cases hi : i < l.length
 ·rw [List.getElem?_append_left hi] at ha
  rw [List.getElem?_append_left (by have := h.1; omega)] at hb
  exact h.2 i a b ha hb
 ·rw [List.getElem?_append_right (by omega)] at ha
  rw [List.getElem?_append_right (by have := h.1; omega), ← h.1] at hb
  cases hj : i - l.length with
  | zero => rw [hj] at ha hb; simp at ha hb; subst ha hb; exact hx
  | succ j => rw [hj] at ha; simp at ha
theorem joined_ne (k : Int) (hk : k = 2 ∨ k = 3) : ∀ {l l' : List Z3}, LE l l' → NE (joined k l) (joined k l')
 | [], [], _ => .refl _
 | [], _ :: _, h => by have := h.1; simp at this
 | _ :: _, [], h => by have := h.1; simp at this
 | [x], [y], h => h.2 0 x y rfl rfl
 | [_], _ :: _ :: _, h => by have := h.1; simp at this
 | _ :: _ :: _, [_], h => by have := h.1; simp at this
 | a :: b :: r, a' :: b' :: r', h => .row k _ _ hk h.1 h.2
def RunE (t : List Un) (pre : List Int) (δ : Int) {α : Type} (R : α → α → Prop) (x y : Out α) : Prop := ∀ v a' v' b', x = .ok v a' → y = .ok v' b' → R v v' ∧ Like t pre δ a' b'
section
variable {t : List Un} (ht : Tail t) {pre : List Int} {δ : Int}
theorem Runs.e {α : Type} {R : α → α → Prop} (hR : ∀ v, R v v) {x y : Out α} (h : Runs t pre δ x y) : RunE t pre δ R x y := by
 intro v a' v' b' e1 e2
 obtain ⟨b'', e3, l⟩ := h v a' e1
 rw [e2] at e3
 cases e3
 exact ⟨hR v, l⟩
theorem RunE.bad {α : Type} {R : α → α → Prop} {c p : Int} {y : Out α} : RunE t pre δ R (.bad c p) y := by intro v a v' b e; simp at e
theorem RunE.bind {α β : Type} {R : α → α → Prop} {R' : β → β → Prop} {x y : Out α} {f h : α → St → Out β} (hx : RunE t pre δ R x y) (k : ∀ v v' a b, R v v' → Like t pre δ a b → RunE t pre δ R' (f v a) (h v' b)) : RunE t pre δ R' (x.bind f) (y.bind h) := by
 intro v a' v' b' e1 e2
 obtain ⟨u, s1, h1, h2⟩ := bind_ok e1
 obtain ⟨u', s1', h1', h2'⟩ := bind_ok e2
 obtain ⟨hr, hl⟩ := hx u s1 u' s1' h1 h1'
 exact k u u' s1 s1' hr hl v a' v' b' h2 h2'
theorem RunE.ok {α : Type} {R : α → α → Prop} {v v' : α} {a b : St} (hr : R v v') (h : Like t pre δ a b) : RunE t pre δ R (.ok v a) (.ok v' b) := by
 intro u a' u' b' e1 e2; cases e1; cases e2; exact ⟨hr, h⟩
def mkQ : Option (Int × Int × Int) → Z3 → Z3
 | none, k => k
 | some (lo, hi, m), k => ⟨4, lo, hi, m, 0, [], [k]⟩
theorem quant_q {kid n : Z3} {may : Bool} {p lo hi : Int} {s s' : St} (e : pQuant kid may p lo hi s = .ok n s') : ∃ q, n = mkQ q kid ∧ ∀ k', pQuant k' may p lo hi s = .ok (mkQ q k') s' := by
 cases may with
 | false => simp [pQuant] at e
 | true =>
  unfold pQuant at e ⊢
  simp only [Bool.true_eq_false, if_false] at e ⊢
  split at e
  ·cases e; exact ⟨some (lo, hi, 1), rfl, fun k' => rfl⟩
  split at e
  ·cases e; exact ⟨some (lo, hi, 2), rfl, fun k' => rfl⟩
  ·cases e; exact ⟨some (lo, hi, 0), rfl, fun k' => rfl⟩
theorem rep_q {kid n : Z3} {may : Bool} {s s' : St} (e : pRep kid may s = .ok n s') : ∃ q, n = mkQ q kid ∧ ∀ k', pRep k' may s = .ok (mkQ q k') s' := by
 unfold pRep at e ⊢
 split at e
 ·exact quant_q e
 split at e
 ·exact quant_q e
 split at e
 ·exact quant_q e
 split at e
 ·rename_i s1 hw
  obtain ⟨c, s2, h1, h2⟩ := bind_ok e
  rw [h1]
  exact quant_q h2
 ·cases e
  exact ⟨none, rfl, fun k' => rfl⟩
theorem mkQ_ne {q : Option (Int × Int × Int)} {k k' : Z3} (h : NE k k') : NE (mkQ q k) (mkQ q k') := by
 cases q with
 | none => exact h
 | some p => obtain ⟨lo, hi, m⟩ := p; exact .rep lo hi m k k' h
include ht in
theorem rep_e {a b : St} (h : Like t pre δ a b) {kid kid' : Z3} (hk : NE kid kid') (may : Bool) : RunE t pre δ NE (pRep kid may a) (pRep kid' may b) := by
 intro n a' n' b' e1 e2
 obtain ⟨b'', e3, l⟩ := rep_runs ht h kid may n a' e1
 obtain ⟨q, rfl, hq⟩ := rep_q e3
 rw [hq kid'] at e2
 cases e2
 exact ⟨mkQ_ne hk, l⟩
def NB (x y : Z3 × Bool) : Prop := NE x.1 y.1 ∧ x.2 = y.2
theorem NB.refl (x : Z3 × Bool) : NB x x := ⟨.refl _, rfl⟩
variable {P Q : Int → St → Out (Z3 × Bool)} (HP : ∀ p q a b, Like t pre δ a b → RunE t pre δ NB (P p a) (Q q b))
include ht HP in
theorem atom_e {a b : St} (h : Like t pre δ a b) (hn : a.us ≠ []) : RunE t pre δ NB (pAtom P a) (pAtom Q b) := by
 have k := h.take hn
 unfold pAtom
 rw [h.peek hn]
 split
 ·exact .ok (.refl _) k
 split
 ·exact .ok (.refl _) k
 split
 ·exact .ok (.refl _) k
 split
 ·exact ((esc_runs k _ _).bind (f := fun n s1 => .ok (n, n.Kind != 9) s1) (g := fun n s1 => .ok (n, n.Kind != 9) s1) fun v a b _ h => .ok h).e NB.refl
 split
 ·exact ((class_runs ht k _ _).bind (f := fun n s1 => .ok (n, true) s1) (g := fun n s1 => .ok (n, true) s1) fun v a b _ h => .ok h).e NB.refl
 split
 ·exact HP a.pos b.pos _ _ k
 split
 ·exact RunE.bad
 split
 ·exact RunE.bad
 ·exact .ok (.refl _) k
include ht HP in
theorem catL_e : ∀ (k k' : Nat) (kids kids' : List Z3) (a b : St), k ≤ k' → LE kids kids' → Like t pre δ a b → RunE t pre δ NE (pCatL P k kids a) (pCatL Q k' kids' b) := by
 intro k
 induction k with
 | zero => intro k' kids kids' a b _ _ h; exact RunE.bad
 | succ k ih =>
  intro k' kids kids' a b hk hl h
  obtain ⟨k', rfl⟩ : ∃ j, k' = j + 1 := ⟨k' - 1, by omega⟩
  unfold pCatL
  rw [h.us, stops_app ht]
  split
  ·exact .ok (joined_ne 2 (.inl rfl) hl) h
  rename_i hs
  have hn := ne_stops hs
  refine (atom_e ht HP h hn).bind fun m m' a1 b1 hm h1 => ?_
  rw [← hm.2]
  refine (rep_e ht h1 hm.1 m.2).bind fun n n' a2 b2 hn h2 => ?_
  exact ih _ _ _ _ _ (by omega) (hl.snoc hn) h2
include ht HP in
theorem altL_e : ∀ (k k' : Nat) (kids kids' : List Z3) (a b : St), k ≤ k' → LE kids kids' → Like t pre δ a b → RunE t pre δ NE (pAltL P k kids a) (pAltL Q k' kids' b) := by
 intro k
 induction k with
 | zero => intro k' kids kids' a b _ _ h; exact RunE.bad
 | succ k ih =>
  intro k' kids kids' a b hk hl h
  obtain ⟨k', rfl⟩ : ∃ j, k' = j + 1 := ⟨k' - 1, by omega⟩
  unfold pAltL
  split
  ·rename_i hw
   rw [h.wd_none ht (by simp) hw]
   exact .ok (joined_ne 3 (.inr rfl) hl) h
  ·rename_i a1 hw
   obtain ⟨b1, e1, h1⟩ := h.wd_some hw
   rw [e1]
   dsimp only
   refine (catL_e ht HP _ _ [] [] _ _ h1.len LE.nil h1).bind fun n n' a2 b2 hn h2 => ?_
   exact ih _ _ _ _ _ (by omega) (hl.snoc hn) h2
include ht HP in
theorem alt1_e {a b : St} (h : Like t pre δ a b) : RunE t pre δ NE (pAlt1 P a) (pAlt1 Q b) := by
 unfold pAlt1
 refine (catL_e ht HP _ _ [] [] _ _ h.len LE.nil h).bind fun n n' a2 b2 hn h2 => ?_
 exact altL_e ht HP _ _ _ _ _ _ h2.len (LE.nil.snoc hn) h2
def OE (n n' : Z3) : Prop := (n = nd0 ∧ n' = nd0) ∨ (∃ m, n = ⟨7, 0, 0, m, 0, [], []⟩ ∧ n' = ⟨7, 0, 0, m, 0, [], []⟩) ∨ (n = ⟨8, 0, 0, 0, 0, [], []⟩ ∧ n' = ⟨8, 0, 0, 0, 0, [], []⟩) ∨ ∃ r r', n = ⟨5, 0, 0, 0, r, [], []⟩ ∧ n' = ⟨5, 0, 0, 0, r', [], []⟩
include ht in
theorem open_e {a b : St} (h : Like t pre δ a b) (p q : Int) : RunE t pre δ OE (pOpen p a) (pOpen q b) := by
 unfold pOpen
 split
 ·rename_i a1 hw
  obtain ⟨b1, e1, h1⟩ := h.wd_some hw
  rw [e1]
  exact .ok (.inr (.inl ⟨_, rfl, rfl⟩)) h1
 rename_i hw
 rw [h.wd_none ht (by simp) hw]
 dsimp only
 split
 ·rename_i a1 hw
  obtain ⟨b1, e1, h1⟩ := h.wd_some hw
  rw [e1]
  exact .ok (.inr (.inl ⟨_, rfl, rfl⟩)) h1
 rename_i hw
 rw [h.wd_none ht (by simp) hw]
 dsimp only
 split
 ·rename_i a1 hw
  obtain ⟨b1, e1, h1⟩ := h.wd_some hw
  rw [e1]
  exact .ok (.inr (.inl ⟨_, rfl, rfl⟩)) h1
 rename_i hw
 rw [h.wd_none ht (by simp) hw]
 dsimp only
 split
 ·rename_i a1 hw
  obtain ⟨b1, e1, h1⟩ := h.wd_some hw
  rw [e1]
  exact .ok (.inr (.inl ⟨_, rfl, rfl⟩)) h1
 rename_i hw
 rw [h.wd_none ht (by simp) hw]
 dsimp only
 split
 ·rename_i a1 hw
  obtain ⟨b1, e1, h1⟩ := h.wd_some hw
  rw [e1]
  exact .ok (.inr (.inr (.inl ⟨rfl, rfl⟩))) h1
 rename_i hw
 rw [h.wd_none ht (by simp) hw]
 dsimp only
 split
 ·rename_i a1 hw
  obtain ⟨b1, e1, h1⟩ := h.wd_some hw
  rw [e1]
  exact .ok (.inl ⟨rfl, rfl⟩) h1
 rename_i hw
 rw [h.wd_none ht (by simp) hw]
 dsimp only
 split
 ·exact RunE.bad
 rename_i hp
 rw [if_neg (fun e => hp ((h.pk ht (by omega) (by omega)).1 e))]
 split
 ·exact RunE.bad
 intro v a' v' b' e1 e2
 cases e1
 split at e2
 ·simp at e2
 cases e2
 have := h.gr
 exact ⟨.inr (.inr (.inr ⟨_, _, rfl, rfl⟩)), h.us, by simp only []; omega, h.rf⟩
include ht in
theorem paren_e {A B : St → Out Z3} (HA : ∀ a b, Like t pre δ a b → RunE t pre δ NE (A a) (B b)) (p q : Int) (a b : St) (h : Like t pre δ a b) : RunE t pre δ NB (pParen A p a) (pParen B q b) := by
 unfold pParen
 refine (open_e ht h p q).bind fun n n' a1 b1 ho h1 => ?_
 refine (HA a1 b1 h1).bind fun kid kid' a2 b2 hk h2 => ?_
 split
 ·exact RunE.bad
 ·rename_i a3 hw
  obtain ⟨b3, e3, h3⟩ := h2.wd_some hw
  rw [e3]
  dsimp only
  rcases ho with ⟨rfl, rfl⟩ | ⟨m, rfl, rfl⟩ | ⟨rfl, rfl⟩ | ⟨r, r', rfl, rfl⟩
  ·exact .ok ⟨hk, rfl⟩ h3
  ·rw [if_neg (by simp), if_neg (by simp)]
   exact .ok ⟨.look m kid kid' hk, rfl⟩ h3
  ·rw [if_neg (by simp), if_neg (by simp)]
   exact .ok ⟨.atomic kid kid' hk, rfl⟩ h3
  ·rw [if_neg (by simp), if_neg (by simp)]
   exact .ok ⟨.group r r' kid kid' hk, rfl⟩ h3
end
theorem alt_e {t : List Un} (ht : Tail t) {pre : List Int} {δ : Int} : ∀ (d d' : Nat) (a b : St), Like t pre δ a b → RunE t pre δ NE (pAlt d a) (pAlt d' b) := by
 intro d
 induction d with
 | zero =>
  intro d' a b h
  cases d' with
  | zero => exact alt1_e (P := fun p _ => .bad 25 p) (Q := fun p _ => .bad 25 p) ht (fun p q a b _ => RunE.bad) h
  | succ d' => exact alt1_e (P := fun p _ => .bad 25 p) (Q := fun p s => pParen (pAlt d') p s) ht (fun p q a b _ => RunE.bad) h
 | succ d ih =>
  intro d' a b h
  cases d' with
  | zero => exact alt1_e (P := fun p s => pParen (pAlt d) p s) (Q := fun p _ => .bad 25 p) ht (fun p q a b _ => by intro v a' v' b' _ e; simp at e) h
  | succ d' => exact alt1_e (P := fun p s => pParen (pAlt d) p s) (Q := fun p s => pParen (pAlt d') p s) ht (fun p q a b h => paren_e ht (fun a b h => ih d' a b h) p q a b h) h
end Go.Proofs.YtadodmjdkphddaaDoor.N2
end
section
set_option linter.unusedSimpArgs false
set_option linter.unusedVariables false
namespace Go.Proofs.YtadodmjdkphddaaDoor.N2
open Go Go.Abs Go.Proofs.Unis Go.Proofs.Norm
set_option maxRecDepth 100000
theorem atom_ne {us : List Un} {n : Z3} {s : St} (h : Reads us n s) (t : List Un) (pos gr : Int) (rf : List Zq) {m : Z3 × Bool} {s' : St} (e : pAtom (pP 31) ⟨wrapU us t, pos, gr, rf⟩ = .ok m s') :
  NE n m.1 ∧ m.2 = true ∧ s'.us = t ∧ s'.gr = s.gr + gr ∧ s'.rf.map (·.group) = rf.map (·.group) ++ s.rf.map (·.group) := by
 rw [atom_wrap] at e
 unfold inP at e
 obtain ⟨kid, s2, h1, h2⟩ := bind_ok e
 have hl : Like ((41, 1) :: t) (rf.map (·.group)) gr ⟨us, 0, 0, []⟩ ⟨us ++ (41, 1) :: t, pos + 1 + (2 : Nat), gr, rf⟩ := ⟨rfl, by simp, by simp⟩
 obtain ⟨hn, l⟩ := alt_e (.inr ⟨1, t, rfl⟩) 32 31 _ _ hl n s kid s2 h.alt h1
 have hu : s2.us = (41, 1) :: t := by rw [l.us, h.en]; rfl
 obtain ⟨us', ps, g, r⟩ := s2
 simp only [] at hu
 subst hu
 rw [wd41] at h2
 cases h2
 exact ⟨hn, rfl, rfl, l.gr, l.rf⟩
theorem cat_ok {P : Int → St → Out (Z3 × Bool)} {k : Nat} {kids : List Z3} {s s' : St} {v : Z3} (h : stops s.us = false) (e : pCatL P (k + 1) kids s = .ok v s') :
  ∃ m s1 n s2, pAtom P s = .ok m s1 ∧ pRep m.1 m.2 s1 = .ok n s2 ∧ pCatL P k (kids ++ [n]) s2 = .ok v s' := by
 rw [pCatL, if_neg (by simp [h])] at e
 obtain ⟨m, s1, h1, h2⟩ := bind_ok e
 obtain ⟨n, s2, h3, h4⟩ := bind_ok h2
 exact ⟨m, s1, n, s2, h1, h3, h4⟩
theorem pEnd_code {fold : Bool} {o : Out Z3} (h : (pEnd fold o).2.Code = 0) : (∃ c p, o = .bad c p) ∨ ∃ n s, o = .ok n s ∧ s.us = [] ∧ (pEnd fold o).1.Root = n := by
 cases o with
 | bad c p => exact .inl ⟨c, p, rfl⟩
 | ok n s =>
  right
  unfold pEnd at h ⊢
  dsimp only at h ⊢
  by_cases hu : s.us ≠ []
  ·rw [if_pos hu] at h; exact absurd h (by simp)
  ·rw [if_neg hu] at h ⊢
   cases hf : s.rf.find? (fun x => decide (s.gr < x.group)) with
   | some x => rw [hf] at h; exact absurd h (by simp)
   | none => exact ⟨n, s, rfl, Decidable.not_not.1 hu, rfl⟩
theorem rows_ne {a b : List Un} {n m : Z3} {s s2 : St} (h : Reads a n s) (h2 : Reads b m s2) (hb : ∀ c p, pAlt 32 ⟨wrapU a (wrapU b []), 0, 0, []⟩ = .bad c p → c ≠ 0) (hc : (pParse (wrapU a (wrapU b []))).2.Code = 0) :
  ∃ n' m', NE n n' ∧ NE m m' ∧ (pParse (wrapU a (wrapU b []))).1.Root = ⟨2, 0, 0, 0, 0, [], [n', m']⟩ := by
 have e0 : wd [40, 63, 105, 41] ⟨wrapU a (wrapU b []), 0, 0, []⟩ = none := rfl
 unfold pParse at hc ⊢
 rw [e0] at hc ⊢
 dsimp only at hc ⊢
 rcases pEnd_code hc with ⟨c, p, e⟩ | ⟨r, s', e, hu, hr⟩
 ·rw [e] at hc
  exact absurd hc (hb c p e)
 rw [hr]
 rw [alt_succ, pAlt1, pCat] at e
 obtain ⟨k, hk⟩ : ∃ k, (wrapU a (wrapU b [])).length + 1 = k + 1 + 1 + 1 := ⟨(wrapU a (wrapU b [])).length - 2, by simp⟩
 dsimp only at e
 rw [hk] at e
 obtain ⟨v, s3, e1, e2⟩ := bind_ok e
 obtain ⟨x, s4, y, s5, f1, f2, f3⟩ := cat_ok rfl e1
 obtain ⟨q1, q2, q3, q4, q5⟩ := atom_ne h (wrapU b []) 0 0 [] f1
 obtain ⟨us4, p4, g4, r4⟩ := s4
 simp only [] at q3
 subst q3
 rw [rep_none (.inr (by show (40 : Int) ≠ 42 ∧ (40 : Int) ≠ 43 ∧ (40 : Int) ≠ 63 ∧ (40 : Int) ≠ 123; decide))] at f2
 cases f2
 obtain ⟨x', s6, y', s7, f4, f5, f6⟩ := cat_ok rfl f3
 obtain ⟨u1, u2, u3, u4, u5⟩ := atom_ne h2 [] p4 g4 r4 f4
 obtain ⟨us6, p6, g6, r6⟩ := s6
 simp only [] at u3
 subst u3
 rw [rep_none (.inl rfl)] at f5
 cases f5
 rw [cat_end rfl] at f6
 cases f6
 simp only [List.length_nil] at e2
 rw [altL_end (.inl rfl)] at e2
 cases e2
 exact ⟨x.1, x'.1, q1, u1, rfl⟩
theorem alts_ne {a b : List Un} {n m : Z3} {s s2 : St} (h : Reads a n s) (h2 : Reads b m s2) (hb : ∀ c p, pAlt 32 ⟨wrapU a ((124, 1) :: wrapU b []), 0, 0, []⟩ = .bad c p → c ≠ 0) (hc : (pParse (wrapU a ((124, 1) :: wrapU b []))).2.Code = 0) :
  ∃ n' m', NE n n' ∧ NE m m' ∧ (pParse (wrapU a ((124, 1) :: wrapU b []))).1.Root = ⟨3, 0, 0, 0, 0, [], [n', m']⟩ := by
 have e0 : wd [40, 63, 105, 41] ⟨wrapU a ((124, 1) :: wrapU b []), 0, 0, []⟩ = none := rfl
 unfold pParse at hc ⊢
 rw [e0] at hc ⊢
 dsimp only at hc ⊢
 rcases pEnd_code hc with ⟨c, p, e⟩ | ⟨r, s', e, hu, hr⟩
 ·rw [e] at hc
  exact absurd hc (hb c p e)
 rw [hr]
 rw [alt_succ, pAlt1, pCat] at e
 obtain ⟨k, hk⟩ : ∃ k, (wrapU a ((124, 1) :: wrapU b [])).length + 1 = k + 1 + 1 := ⟨(wrapU a ((124, 1) :: wrapU b [])).length - 1, by simp⟩
 dsimp only at e
 rw [hk] at e
 obtain ⟨v, s3, e1, e2⟩ := bind_ok e
 obtain ⟨x, s4, y, s5, f1, f2, f3⟩ := cat_ok rfl e1
 obtain ⟨q1, q2, q3, q4, q5⟩ := atom_ne h ((124, 1) :: wrapU b []) 0 0 [] f1
 obtain ⟨us4, p4, g4, r4⟩ := s4
 simp only [] at q3
 subst q3
 rw [rep_none (.inr (by show (124 : Int) ≠ 42 ∧ (124 : Int) ≠ 43 ∧ (124 : Int) ≠ 63 ∧ (124 : Int) ≠ 123; decide))] at f2
 cases f2
 rw [cat_end rfl] at f3
 cases f3
 dsimp only at e2
 rw [show (((124, 1) :: wrapU b [] : List Un).length + 1) = ((b ++ [(41, 1)]).length + 1 + 1 + 1) + 1 + 1 by simp, altL_step, pCat] at e2
 obtain ⟨v', s8, e3, e4⟩ := bind_ok e2
 dsimp only at e3
 rw [show (wrapU b []).length + 1 = ((b ++ [(41, 1)]).length + 1 + 1) + 1 + 1 by simp] at e3
 obtain ⟨x', s6, y', s7, f4, f5, f6⟩ := cat_ok rfl e3
 obtain ⟨u1, u2, u3, u4, u5⟩ := atom_ne h2 [] (p4 + (1 : Nat)) g4 r4 f4
 obtain ⟨us6, p6, g6, r6⟩ := s6
 simp only [] at u3
 subst u3
 rw [rep_none (.inl rfl)] at f5
 cases f5
 rw [cat_end rfl] at f6
 cases f6
 rw [altL_end (.inl rfl)] at e4
 cases e4
 exact ⟨x.1, x'.1, q1, u1, rfl⟩
theorem alt_bad {l : List UInt8} (hl : l.length ≤ 1000) : ∀ c p, pAlt 32 ⟨unis l, 0, 0, []⟩ = .bad c p → c ≠ 0 := by
 intro c p hp
 have hat : At l ⟨unis l, 0, 0, []⟩ := ⟨0, by omega, rfl, rfl⟩
 have hi : Inv l ⟨unis l, 0, 0, []⟩ := ⟨hat, by simp, by simp, by have := hat.len; simp only [] at this; simp; omega⟩
 have := alt_val (l := l) hl 32 0 (by omega) (by omega) _ hi
 rw [hp] at this
 exact this.1
theorem catS_zero {a : Sh} (h : a.Ok) : catS cat0 a = a := by
 obtain ⟨w, z0, z1⟩ := h
 unfold Wok at w
 obtain ⟨lo, hi, sz, bd⟩ := a
 simp only [] at w z0 z1
 unfold catS cat0 sumF
 simp only [Int.zero_add, Bool.true_and, Sh.mk.injEq, and_true]
 refine ⟨by omega, ?_, by omega⟩
 by_cases c : hi < 0
 ·rw [if_pos (.inr c)]; omega
 ·rw [if_neg (by omega), if_neg (by omega)]
theorem altS_zero {a : Sh} (h : a.Ok) : altS alt0 a = a := by
 obtain ⟨w, z0, z1⟩ := h
 unfold Wok at w
 obtain ⟨lo, hi, sz, bd⟩ := a
 simp only [] at w z0 z1
 unfold altS alt0
 simp only [Int.zero_add, Bool.true_and, Sh.mk.injEq, and_true]
 refine ⟨by omega, ?_, by omega⟩
 by_cases c : hi < 0
 ·rw [if_pos (.inl c)]; omega
 ·rw [if_neg (by omega)]; omega
end Go.Proofs.YtadodmjdkphddaaDoor.N2
end
section
set_option linter.unusedSimpArgs false
set_option linter.unusedVariables false
namespace Go.Proofs.YtadodmjdkphddaaDoor.N2
open Go Go.Abs Go.Proofs.Unis Go.Proofs.Norm
set_option maxRecDepth 100000
theorem paren_ne {us w : List Un} {n O : Z3} {s : St} {p1 g1 : Int} (h : Reads us n s) (hO : pOpen 0 ⟨w, 0 + 1, 0, []⟩ = .ok O ⟨us ++ [(41, 1)], p1, g1, []⟩) (e0 : wd [40, 63, 105, 41] ⟨(40, 1) :: w, 0, 0, []⟩ = none)
  (hb : ∀ c p, pAlt 32 ⟨(40, 1) :: w, 0, 0, []⟩ = .bad c p → c ≠ 0) (hc : (pParse ((40, 1) :: w)).2.Code = 0) : ∃ n', NE n n' ∧ (pParse ((40, 1) :: w)).1.Root = if O.Kind = 0 then n' else { O with Kids := [n'] } := by
 unfold pParse at hc ⊢
 rw [e0] at hc ⊢
 dsimp only at hc ⊢
 rcases pEnd_code hc with ⟨c, p, e⟩ | ⟨r, s', e, hu, hr⟩
 ·rw [e] at hc
  exact absurd hc (hb c p e)
 rw [hr]
 rw [alt_succ, pAlt1, pCat] at e
 dsimp only at e
 rw [List.length_cons] at e
 obtain ⟨v, s3, e1, e2⟩ := bind_ok e
 obtain ⟨x, s4, y, s5, f1, f2, f3⟩ := cat_ok rfl e1
 have ha : pAtom (pP 31) ⟨(40, 1) :: w, 0, 0, []⟩ = pParen (pAlt 31) 0 ⟨w, 0 + 1, 0, []⟩ := rfl
 rw [ha] at f1
 unfold pParen at f1
 rw [hO] at f1
 dsimp only [Out.bind] at f1
 obtain ⟨kid, s6, g2, g3⟩ := bind_ok f1
 have hl : Like [(41, 1)] (([] : List Zq).map (·.group)) g1 ⟨us, 0, 0, []⟩ ⟨us ++ [(41, 1)], p1, g1, []⟩ := ⟨rfl, by simp, by simp⟩
 obtain ⟨hn, l⟩ := alt_e (.inr ⟨1, [], rfl⟩) 32 31 _ _ hl n s kid s6 h.alt g2
 have hu6 : s6.us = [(41, 1)] := by rw [l.us, h.en]; rfl
 obtain ⟨us6, p6, g6, r6⟩ := s6
 simp only [] at hu6
 subst hu6
 rw [wd41] at g3
 dsimp only at g3
 refine ⟨kid, hn, ?_⟩
 by_cases hk : O.Kind = 0
 ·rw [if_pos hk] at g3 ⊢
  cases g3
  rw [rep_none (.inl rfl)] at f2
  cases f2
  rw [cat_end rfl] at f3
  cases f3
  simp only [List.length_nil] at e2
  rw [altL_end (.inl rfl)] at e2
  cases e2
  rfl
 ·rw [if_neg hk] at g3 ⊢
  cases g3
  rw [rep_none (.inl rfl)] at f2
  cases f2
  rw [cat_end rfl] at f3
  cases f3
  simp only [List.length_nil] at e2
  rw [altL_end (.inl rfl)] at e2
  cases e2
  rfl
theorem open_group {us : List Un} (hp : peek us ≠ 63) : pOpen 0 ⟨us ++ [(41, 1)], 0 + 1, 0, []⟩ = .ok ⟨5, 0, 0, 0, 1, [], []⟩ ⟨us ++ [(41, 1)], 0 + 1, 1, []⟩ := by
 have hpk : peek (us ++ [(41, 1)]) ≠ 63 := by
  cases us with
  | nil => decide
  | cons x r => exact hp
 unfold pOpen
 rw [wd_no hp _ _ (by decide), wd_no hp _ _ (by decide), wd_no hp _ _ (by decide), wd_no hp _ _ (by decide), wd_no hp _ _ (by decide), wd_no hp _ _ (by decide)]
 dsimp only
 rw [if_neg hpk, if_neg (by decide)]
 rfl
theorem fold_no {us : List Un} (hp : peek us ≠ 63) : wd [40, 63, 105, 41] ⟨(40, 1) :: (us ++ [(41, 1)]), 0, 0, []⟩ = none := by
 unfold wd
 dsimp only
 rw [show isW [40, 63, 105, 41] ((40, 1) :: (us ++ [(41, 1)])) = isW [63, 105, 41] (us ++ [(41, 1)]) from rfl, isW_no hp _ _ (by decide)]
theorem unis_ahead : ∀ (p l : List UInt8), (∀ c ∈ p, c.toNat < 128) → unis (p ++ l) = p.map (fun c => ((c.toNat : Int), 1)) ++ unis l
 | [], _, _ => rfl
 | c :: p, l, h => by
  rw [List.cons_append, unis_ascii (h c (List.mem_cons_self ..)), unis_ahead p l fun d hd => h d (List.mem_cons_of_mem _ hd)]
  rfl
end Go.Proofs.YtadodmjdkphddaaDoor.N2
end
