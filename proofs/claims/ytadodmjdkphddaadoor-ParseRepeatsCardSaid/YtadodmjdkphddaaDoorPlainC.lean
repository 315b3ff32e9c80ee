/- A text read again elsewhere. No condition. -/
import Derived.Test.YtadodmjdkphddaaDoorPlainA
import Derived.Test.YtadodmjdkphddaaDoorPlainB

section
set_option linter.unusedSimpArgs false
set_option linter.unusedVariables false
namespace Go.Proofs.YtadodmjdkphddaaDoor.N2
open Go Go.Abs Go.Proofs.Norm
set_option maxRecDepth 100000
def Tail (t : List Un) : Prop := t = [] ∨ ∃ n v, t = (41, n) :: v
structure Like (t : List Un) (pre : List Int) (δ : Int) (a b : St) : Prop where
 us : b.us = a.us ++ t
 gr : b.gr = a.gr + δ
 rf : b.rf.map (·.group) = pre ++ a.rf.map (·.group)
theorem bind_ok {α β : Type} {x : Out α} {f : α → St → Out β} {v : β} {s : St} (h : x.bind f = .ok v s) : ∃ u s1, x = .ok u s1 ∧ f u s1 = .ok v s := by
 cases x with
 | bad c p => simp [Out.bind] at h
 | ok u s1 => exact ⟨u, s1, rfl, h⟩
theorem take_gr (s : St) : (take s).gr = s.gr := by unfold take; split <;> rfl
theorem wd_gr {w : List Int} {s s' : St} (h : wd w s = some s') : s'.gr = s.gr := by
 unfold wd at h
 split at h
 ·cases h; rfl
 ·simp at h
theorem plain_gr {u p v : Int} {s s' : St} (h : pPlain u p s = .ok v s') : s'.gr = s.gr := by
 unfold pPlain at h
 split at h
 ·cases h; rfl
 split at h
 ·cases h; rfl
 split at h
 ·cases h; rfl
 split at h
 ·split at h
  ·split at h
   ·cases h; rw [take_gr, take_gr]
   ·simp at h
  ·simp at h
 split at h
 ·cases h; rfl
 ·simp at h
theorem esc_gr {p : Int} {v : Z8} {s s' : St} (h : pEsc p s = .ok v s') : s'.gr = s.gr := by
 unfold pEsc at h
 split at h
 ·simp at h
 split at h
 ·cases h; exact take_gr s
 split at h
 ·cases h; exact take_gr s
 split at h
 ·cases h; exact take_gr s
 split at h
 ·cases h; exact take_gr s
 ·obtain ⟨u, s1, h1, h2⟩ := bind_ok h
  cases h2
  exact (plain_gr h1).trans (take_gr s)
theorem mem_gr {v : Int × List R2 × Bool} {s s' : St} (h : pMem s = .ok v s') : s'.gr = s.gr := by
 unfold pMem at h
 split at h
 ·cases h; exact take_gr s
 split at h
 ·simp at h
 split at h
 ·cases h; rw [take_gr, take_gr]
 ·obtain ⟨u, s1, h1, h2⟩ := bind_ok h
  cases h2
  rw [plain_gr h1, take_gr, take_gr]
theorem classL_gr (p : Int) (no : Bool) : ∀ (k : Nat) (fst : Bool) (all : List R2) (s s' : St) (v : Z8), pClassL p no k fst all s = .ok v s' → s'.gr = s.gr := by
 intro k
 induction k with
 | zero => intro fst all s s' v h; simp [pClassL] at h
 | succ k ih =>
  intro fst all s s' v h
  unfold pClassL at h
  split at h
  ·simp at h
  split at h
  ·split at h
   ·simp at h
   ·cases h; exact take_gr s
  split at h
  ·simp at h
  obtain ⟨m, s1, h1, h2⟩ := bind_ok h
  have e1 := mem_gr h1
  split at h2
  ·split at h2
   ·simp at h2
   ·exact (ih _ _ _ _ _ h2).trans e1
  split at h2
  ·exact (ih _ _ _ _ _ h2).trans e1
  ·rename_i s2 hw
   have e2 := wd_gr hw
   split at h2
   ·simp at h2
   obtain ⟨m2, s3, h3, h4⟩ := bind_ok h2
   have e3 := mem_gr h3
   split at h4
   ·simp at h4
   ·exact (ih _ _ _ _ _ h4).trans (e3.trans (e2.trans e1))
theorem class_gr {p : Int} {v : Z8} {s s' : St} (h : pClass p s = .ok v s') : s'.gr = s.gr := by
 unfold pClass at h
 split at h
 ·rename_i s1 hw
  exact (classL_gr _ _ _ _ _ _ _ _ h).trans (wd_gr hw)
 ·exact classL_gr _ _ _ _ _ _ _ _ h
theorem num_gr (s : St) : (pNum s).2.gr = s.gr := by
 unfold pNum
 split
 ·split
  ·show (take (take s)).gr = _
   rw [take_gr, take_gr]
  ·exact take_gr s
 ·rfl
theorem fin_gr {p lo hi : Int} {v : Int × Int} {s s' : St} (h : pFin p lo hi s = .ok v s') : s'.gr = s.gr := by
 unfold pFin at h
 split at h
 ·simp at h
 split at h
 ·simp at h
 ·rename_i s1 hw
  cases h
  exact wd_gr hw
theorem counts_gr {p : Int} {v : Int × Int} {s s' : St} (h : pCounts p s = .ok v s') : s'.gr = s.gr := by
 unfold pCounts at h
 split at h
 ·exact (fin_gr h).trans (num_gr s)
 rename_i s2 hw
 have e := (wd_gr hw).trans (num_gr s)
 split at h
 ·split at h
  ·simp at h
  rename_i s4 hw2
  split at h
  ·cases h; exact (wd_gr hw2).trans ((num_gr s2).trans e)
  ·simp at h
 ·exact (fin_gr h).trans ((num_gr s2).trans e)
theorem quant_gr {kid n : Z8} {may : Bool} {p lo hi : Int} {s s' : St} (h : pQuant kid may p lo hi s = .ok n s') : s'.gr = s.gr := by
 unfold pQuant at h
 split at h
 ·simp at h
 split at h
 ·rename_i s1 hw; cases h; exact wd_gr hw
 split at h
 ·rename_i s1 hw; cases h; exact wd_gr hw
 ·cases h; rfl
theorem rep_gr {kid n : Z8} {may : Bool} {s s' : St} (h : pRep kid may s = .ok n s') : s'.gr = s.gr := by
 unfold pRep at h
 split at h
 ·rename_i s1 hw; exact (quant_gr h).trans (wd_gr hw)
 split at h
 ·rename_i s1 hw; exact (quant_gr h).trans (wd_gr hw)
 split at h
 ·rename_i s1 hw; exact (quant_gr h).trans (wd_gr hw)
 split at h
 ·rename_i s1 hw
  obtain ⟨c, s2, h1, h2⟩ := bind_ok h
  exact (quant_gr h2).trans ((counts_gr h1).trans (wd_gr hw))
 ·cases h; rfl
def Mono {α : Type} (P : Int → St → Out α) : Prop := ∀ p s v s', P p s = .ok v s' → s.gr ≤ s'.gr
section
variable {P : Int → St → Out (Z8 × Bool)} (M : Mono P)
include M
theorem atom_mono {s s' : St} {v : Z8 × Bool} (h : pAtom P s = .ok v s') : s.gr ≤ s'.gr := by
 unfold pAtom at h
 have ht := take_gr s
 split at h
 ·cases h; omega
 split at h
 ·cases h; omega
 split at h
 ·cases h; omega
 split at h
 ·obtain ⟨u, s1, h1, h2⟩ := bind_ok h
  cases h2
  have := esc_gr h1
  omega
 split at h
 ·obtain ⟨u, s1, h1, h2⟩ := bind_ok h
  cases h2
  have := class_gr h1
  omega
 split at h
 ·have := M _ _ _ _ h
  omega
 split at h
 ·simp at h
 split at h
 ·simp at h
 ·cases h; omega
theorem catL_mono : ∀ (k : Nat) (kids : List Z8) (s s' : St) (v : Z8), pCatL P k kids s = .ok v s' → s.gr ≤ s'.gr := by
 intro k
 induction k with
 | zero => intro kids s s' v h; simp [pCatL] at h
 | succ k ih =>
  intro kids s s' v h
  unfold pCatL at h
  split at h
  ·cases h; exact Int.le_refl _
  obtain ⟨m, s1, h1, h2⟩ := bind_ok h
  obtain ⟨n, s2, h3, h4⟩ := bind_ok h2
  have a1 := atom_mono M h1
  have a2 := rep_gr h3
  have a3 := ih _ _ _ _ h4
  omega
theorem altL_mono : ∀ (k : Nat) (kids : List Z8) (s s' : St) (v : Z8), pAltL P k kids s = .ok v s' → s.gr ≤ s'.gr := by
 intro k
 induction k with
 | zero => intro kids s s' v h; simp [pAltL] at h
 | succ k ih =>
  intro kids s s' v h
  unfold pAltL at h
  split at h
  ·cases h; exact Int.le_refl _
  rename_i s1 hw
  obtain ⟨n, s2, h3, h4⟩ := bind_ok h
  have a1 := wd_gr hw
  have a2 := catL_mono M _ _ _ _ _ h3
  have a3 := ih _ _ _ _ h4
  omega
theorem alt1_mono {s s' : St} {v : Z8} (h : pAlt1 P s = .ok v s') : s.gr ≤ s'.gr := by
 unfold pAlt1 at h
 obtain ⟨n, s2, h3, h4⟩ := bind_ok h
 have a2 := catL_mono M _ _ _ _ _ h3
 have a3 := altL_mono M _ _ _ _ _ h4
 omega
end
theorem open_gr {p : Int} {s s' : St} {n : Z8} (h : pOpen p s = .ok n s') : s'.gr = s.gr ∨ (s'.gr = s.gr + 1 ∧ n.Kind = 5) := by
 unfold pOpen at h
 split at h
 ·rename_i s1 hw; cases h; exact .inl (wd_gr hw)
 split at h
 ·rename_i s1 hw; cases h; exact .inl (wd_gr hw)
 split at h
 ·rename_i s1 hw; cases h; exact .inl (wd_gr hw)
 split at h
 ·rename_i s1 hw; cases h; exact .inl (wd_gr hw)
 split at h
 ·rename_i s1 hw; cases h; exact .inl (wd_gr hw)
 split at h
 ·rename_i s1 hw; cases h; exact .inl (wd_gr hw)
 split at h
 ·simp at h
 split at h
 ·simp at h
 ·cases h; exact .inr ⟨rfl, rfl⟩
theorem paren_mono {A : St → Out Z8} (M : ∀ s v s', A s = .ok v s' → s.gr ≤ s'.gr) : Mono (pParen A) := by
 intro p s v s' h
 unfold pParen at h
 obtain ⟨n, s1, h1, h2⟩ := bind_ok h
 obtain ⟨kid, s2, h3, h4⟩ := bind_ok h2
 have a1 := open_gr h1
 have a2 := M _ _ _ h3
 split at h4
 ·simp at h4
 rename_i s3 hw
 have a3 := wd_gr hw
 split at h4
 ·cases h4; omega
 ·cases h4; omega
theorem alt_mono : ∀ (d : Nat) (s : St) (v : Z8) (s' : St), pAlt d s = .ok v s' → s.gr ≤ s'.gr := by
 intro d
 induction d with
 | zero => intro s v s' h; exact alt1_mono (P := fun p _ => .bad 25 p) (fun p s v s' h => by simp at h) h
 | succ d ih => intro s v s' h; exact alt1_mono (paren_mono ih) h
end Go.Proofs.YtadodmjdkphddaaDoor.N2
end
section
set_option linter.unusedSimpArgs false
set_option linter.unusedVariables false
namespace Go.Proofs.YtadodmjdkphddaaDoor.N2
open Go Go.Abs Go.Proofs.Norm
set_option maxRecDepth 100000
section
variable {t : List Un} (ht : Tail t) {pre : List Int} {δ : Int}
theorem peek_app {us : List Un} (h : us ≠ []) : peek (us ++ t) = peek us := by
 cases us with
 | nil => exact absurd rfl h
 | cons x r => rfl
include ht in
theorem peek_tail : peek t = -1 ∨ peek t = 41 := by
 rcases ht with rfl | ⟨n, v, rfl⟩
 ·exact .inl rfl
 ·exact .inr rfl
include ht in
theorem peek_iff {us : List Un} {c : Int} (h1 : c ≠ -1) (h2 : c ≠ 41) : peek (us ++ t) = c ↔ peek us = c := by
 by_cases h : us = []
 ·subst h
  have e : peek ([] : List Un) = -1 := rfl
  rw [List.nil_append, e]
  rcases peek_tail ht with h3 | h3 <;> rw [h3] <;> omega
 ·rw [peek_app h]
theorem Like.ne {a b : St} (h : Like t pre δ a b) (hn : a.us ≠ []) : b.us ≠ [] := by
 rw [h.us]
 simp [hn]
theorem Like.peek {a b : St} (h : Like t pre δ a b) (hn : a.us ≠ []) : peek b.us = N2.peek a.us := by rw [h.us, peek_app hn]
include ht in
theorem Like.pk {a b : St} (h : Like t pre δ a b) {c : Int} (h1 : c ≠ -1) (h2 : c ≠ 41) : N2.peek b.us = c ↔ N2.peek a.us = c := by rw [h.us]; exact peek_iff ht h1 h2
theorem ne_of_peek {us : List Un} (h : peek us ≠ -1) : us ≠ [] := fun e => h (by rw [e]; rfl)
theorem Like.take {a b : St} (h : Like t pre δ a b) (hn : a.us ≠ []) : Like t pre δ (take a) (take b) := by
 obtain ⟨ua, pa, ga, ra⟩ := a
 obtain ⟨ub, pb, gb, rb⟩ := b
 cases ua with
 | nil => exact absurd rfl hn
 | cons x r =>
  have h1 := h.us
  simp only [List.cons_append] at h1
  subst h1
  exact ⟨rfl, h.gr, h.rf⟩
theorem isW_some {w : List Int} : ∀ {us r : List Un}, isW w us = some r → isW w (us ++ t) = some (r ++ t) := by
 induction w with
 | nil => intro us r h; cases h; rfl
 | cons c w ih =>
  intro us r h
  cases us with
  | nil => simp [isW] at h
  | cons x us =>
   obtain ⟨u, n⟩ := x
   simp only [isW, List.cons_append] at h ⊢
   split at h
   ·rename_i hc; rw [if_pos hc]; exact ih h
   ·simp at h
include ht in
theorem isW_none {w : List Int} (hw : ∀ c ∈ w, c ≠ 41) : ∀ {us : List Un}, isW w us = none → isW w (us ++ t) = none := by
 induction w with
 | nil => intro us h; simp [isW] at h
 | cons c w ih =>
  intro us h
  cases us with
  | nil =>
   rcases ht with rfl | ⟨n, v, rfl⟩
   ·rfl
   ·have := hw c (List.mem_cons_self ..)
    simp only [List.nil_append, isW]
    rw [if_neg (fun e => this e.symm)]
  | cons x us =>
   obtain ⟨u, n⟩ := x
   simp only [isW, List.cons_append] at h ⊢
   split
   ·rename_i hc; rw [if_pos hc] at h; exact ih (fun c h => hw c (List.mem_cons_of_mem _ h)) h
   ·rfl
theorem Like.wd_some {a b a' : St} (h : Like t pre δ a b) {w : List Int} (e : wd w a = some a') : ∃ b', wd w b = some b' ∧ Like t pre δ a' b' := by
 unfold wd at e ⊢
 rw [h.us]
 split at e
 ·rename_i r hr
  cases e
  rw [isW_some hr]
  exact ⟨_, rfl, rfl, h.gr, h.rf⟩
 ·simp at e
include ht in
theorem Like.wd_none {a b : St} (h : Like t pre δ a b) {w : List Int} (hw : ∀ c ∈ w, c ≠ 41) (e : wd w a = none) : wd w b = none := by
 unfold wd at e ⊢
 rw [h.us]
 split at e
 ·simp at e
 ·rename_i hr
  rw [isW_none ht hw hr]
def Runs (t : List Un) (pre : List Int) (δ : Int) {α : Type} (x y : Out α) : Prop := ∀ v a', x = .ok v a' → ∃ b', y = .ok v b' ∧ Like t pre δ a' b'
theorem Runs.ok {α : Type} {v : α} {a b : St} (h : Like t pre δ a b) : Runs t pre δ (.ok v a) (.ok v b) := by
 intro v' a' e; cases e; exact ⟨b, rfl, h⟩
theorem Runs.bad {α : Type} {c p : Int} {y : Out α} : Runs t pre δ (.bad c p) y := by intro v a e; simp at e
theorem Runs.bind {α β : Type} {x y : Out α} {f g : α → St → Out β} (h : Runs t pre δ x y) (k : ∀ v a b, x = .ok v a → Like t pre δ a b → Runs t pre δ (f v a) (g v b)) : Runs t pre δ (x.bind f) (y.bind g) := by
 intro v a' e
 obtain ⟨u, s1, h1, h2⟩ := bind_ok e
 obtain ⟨b1, e1, l1⟩ := h u s1 h1
 obtain ⟨b', e2, l2⟩ := k u s1 b1 h1 l1 v a' h2
 exact ⟨b', by rw [e1]; exact e2, l2⟩
theorem hex_ne {us : List Un} (h : 0 ≤ hexF (peek us)) : us ≠ [] := by
 intro e
 rw [e] at h
 exact absurd h (by decide)
theorem plain_runs {a b : St} (h : Like t pre δ a b) (u p q : Int) : Runs t pre δ (pPlain u p a) (pPlain u q b) := by
 unfold pPlain
 split
 ·exact .ok h
 split
 ·exact .ok h
 split
 ·exact .ok h
 split
 ·by_cases h1 : 0 ≤ hexF (N2.peek a.us)
  ·have n1 := hex_ne h1
   have e1 := h.peek n1
   rw [if_pos h1, if_pos (show 0 ≤ hexF (N2.peek b.us) by rw [e1]; exact h1)]
   by_cases h2 : 0 ≤ hexF (N2.peek (N2.take a).us)
   ·have n2 := hex_ne h2
    have e2 := (h.take n1).peek n2
    rw [if_pos h2, if_pos (show 0 ≤ hexF (N2.peek (N2.take b).us) by rw [e2]; exact h2), e1, e2]
    exact .ok ((h.take n1).take n2)
   ·rw [if_neg h2]
    exact .bad
  ·rw [if_neg h1]
   exact .bad
 split
 ·exact .ok h
 ·exact .bad
theorem esc_runs {a b : St} (h : Like t pre δ a b) (p q : Int) : Runs t pre δ (pEsc p a) (pEsc q b) := by
 unfold pEsc
 split
 ·exact .bad
 rename_i hn
 rw [if_neg (h.ne hn), h.peek hn]
 split
 ·exact .ok (h.take hn)
 split
 ·exact .ok (h.take hn)
 split
 ·exact .ok (h.take hn)
 split
 ·refine .ok ?_
  have h2 := h.take hn
  exact ⟨h2.us, h2.gr, by simp [h.rf]⟩
 ·exact (plain_runs (h.take hn) _ _ _).bind fun v a b _ h => .ok h
theorem mem_runs {a b : St} (h : Like t pre δ a b) (hn : a.us ≠ []) : Runs t pre δ (pMem a) (pMem b) := by
 unfold pMem
 rw [h.peek hn]
 split
 ·exact .ok (h.take hn)
 split
 ·exact .bad
 rename_i h2
 have k := h.take hn
 rw [if_neg (k.ne h2), k.peek h2]
 split
 ·exact .ok (k.take h2)
 ·exact (plain_runs (k.take h2) _ _ _).bind fun v a b _ h => .ok h
include ht in
theorem classL_runs (p q : Int) (no : Bool) : ∀ (k k' : Nat) (fst : Bool) (all : List R2) (a b : St), k ≤ k' → Like t pre δ a b → Runs t pre δ (pClassL p no k fst all a) (pClassL q no k' fst all b) := by
 intro k
 induction k with
 | zero => intro k' fst all a b _ h; exact .bad
 | succ k ih =>
  intro k' fst all a b hk h
  obtain ⟨k', rfl⟩ : ∃ j, k' = j + 1 := ⟨k' - 1, by omega⟩
  have hk' : k ≤ k' := by omega
  unfold pClassL
  split
  ·exact .bad
  rename_i hn
  rw [if_neg (h.ne hn), h.peek hn]
  split
  ·split
   ·exact .bad
   ·exact .ok (h.take hn)
  split
  ·exact .bad
  refine (mem_runs h hn).bind fun m a1 b1 _ h1 => ?_
  split
  ·split
   ·exact .bad
   ·rename_i hc
    rw [if_neg (fun e => hc ((h1.pk ht (by omega) (by omega)).1 e))]
    exact ih _ _ _ _ _ hk' h1
  split
  ·rename_i hw
   rw [h1.wd_none ht (by simp) hw]
   exact ih _ _ _ _ _ hk' h1
  ·rename_i a2 hw
   obtain ⟨b2, e2, h2⟩ := h1.wd_some hw
   rw [e2]
   dsimp only
   split
   ·exact .bad
   rename_i hc
   have n2 : a2.us ≠ [] := fun e => hc (.inl e)
   rw [if_neg (by rw [h2.peek n2]; intro e; rcases e with e | e; exact h2.ne n2 e; exact hc (.inr e))]
   refine (mem_runs h2 n2).bind fun m2 a3 b3 _ h3 => ?_
   split
   ·exact .bad
   ·exact ih _ _ _ _ _ hk' h3
include ht in
theorem class_runs {a b : St} (h : Like t pre δ a b) (p q : Int) : Runs t pre δ (pClass p a) (pClass q b) := by
 unfold pClass
 have len : ∀ {a b : St}, Like t pre δ a b → a.us.length + 1 ≤ b.us.length + 1 := by
  intro a b h
  rw [h.us, List.length_append]
  omega
 split
 ·rename_i a1 hw
  obtain ⟨b1, e1, h1⟩ := h.wd_some hw
  rw [e1]
  exact classL_runs ht _ _ _ _ _ _ _ _ _ (len h1) h1
 ·rename_i hw
  rw [h.wd_none ht (by simp) hw]
  exact classL_runs ht _ _ _ _ _ _ _ _ _ (len h) h
theorem digit_range {u : Int} : digit u = true ↔ 48 ≤ u ∧ u ≤ 57 := by unfold digit; simp
include ht in
theorem digit_app {us : List Un} : digit (peek (us ++ t)) = digit (peek us) := by
 by_cases h : us = []
 ·subst h
  rw [List.nil_append]
  rcases peek_tail ht with e | e <;> rw [e] <;> rfl
 ·rw [peek_app h]
theorem digit_ne {us : List Un} (h : digit (peek us) = true) : us ≠ [] := by
 intro e
 rw [e] at h
 exact absurd h (by decide)
include ht in
theorem num_like {a b : St} (h : Like t pre δ a b) : (pNum b).1 = (pNum a).1 ∧ Like t pre δ (pNum a).2 (pNum b).2 := by
 unfold pNum
 have e1 : digit (peek b.us) = digit (peek a.us) := by rw [h.us]; exact digit_app ht
 rw [e1]
 by_cases c1 : digit (peek a.us) = true
 ·have n1 := digit_ne c1
  have k := h.take n1
  have e2 : digit (peek (take b).us) = digit (peek (take a).us) := by rw [k.us]; exact digit_app ht
  rw [if_pos c1, if_pos c1, e2]
  by_cases c2 : digit (peek (take a).us) = true
  ·have n2 := digit_ne c2
   rw [if_pos c2, if_pos c2, h.peek n1, k.peek n2]
   exact ⟨rfl, k.take n2⟩
  ·rw [if_neg c2, if_neg c2, h.peek n1]
   exact ⟨rfl, k⟩
 ·rw [if_neg c1, if_neg c1]
  exact ⟨rfl, h⟩
theorem fin_runs {a b : St} (h : Like t pre δ a b) (p q lo hi : Int) : Runs t pre δ (pFin p lo hi a) (pFin q lo hi b) := by
 unfold pFin
 split
 ·exact .bad
 split
 ·exact .bad
 ·rename_i a1 hw
  obtain ⟨b1, e1, h1⟩ := h.wd_some hw
  rw [e1]
  exact .ok h1
include ht in
theorem counts_runs {a b : St} (h : Like t pre δ a b) (p q : Int) : Runs t pre δ (pCounts p a) (pCounts q b) := by
 unfold pCounts
 obtain ⟨e1, h1⟩ := num_like ht h
 rw [e1]
 split
 ·rename_i hw
  rw [h1.wd_none ht (by simp) hw]
  exact fin_runs h1 _ _ _ _
 ·rename_i a2 hw
  obtain ⟨b2, e2, h2⟩ := h1.wd_some hw
  obtain ⟨e3, h3⟩ := num_like ht h2
  rw [e2]
  dsimp only
  rw [e3]
  split
  ·split
   ·exact .bad
   ·rename_i a4 hw4
    obtain ⟨b4, e4, h4⟩ := h3.wd_some hw4
    rw [e4]
    dsimp only
    split
    ·exact .ok h4
    ·exact .bad
  ·exact fin_runs h3 _ _ _ _
include ht in
theorem quant_runs {a b : St} (h : Like t pre δ a b) (kid : Z8) (may : Bool) (p q lo hi : Int) : Runs t pre δ (pQuant kid may p lo hi a) (pQuant kid may q lo hi b) := by
 unfold pQuant
 split
 ·exact .bad
 split
 ·rename_i a1 hw
  obtain ⟨b1, e1, h1⟩ := h.wd_some hw
  rw [e1]
  exact .ok h1
 rename_i hw
 rw [h.wd_none ht (by simp) hw]
 dsimp only
 split
 ·rename_i a1 hw
  obtain ⟨b1, e1, h1⟩ := h.wd_some hw
  rw [e1]
  exact .ok h1
 ·rename_i hw
  rw [h.wd_none ht (by simp) hw]
  exact .ok h
include ht in
theorem rep_runs {a b : St} (h : Like t pre δ a b) (kid : Z8) (may : Bool) : Runs t pre δ (pRep kid may a) (pRep kid may b) := by
 unfold pRep
 split
 ·rename_i a1 hw
  obtain ⟨b1, e1, h1⟩ := h.wd_some hw
  rw [e1]
  exact quant_runs ht h1 _ _ _ _ _ _
 rename_i hw
 rw [h.wd_none ht (by simp) hw]
 dsimp only
 split
 ·rename_i a1 hw
  obtain ⟨b1, e1, h1⟩ := h.wd_some hw
  rw [e1]
  exact quant_runs ht h1 _ _ _ _ _ _
 rename_i hw
 rw [h.wd_none ht (by simp) hw]
 dsimp only
 split
 ·rename_i a1 hw
  obtain ⟨b1, e1, h1⟩ := h.wd_some hw
  rw [e1]
  exact quant_runs ht h1 _ _ _ _ _ _
 rename_i hw
 rw [h.wd_none ht (by simp) hw]
 dsimp only
 split
 ·rename_i a1 hw
  obtain ⟨b1, e1, h1⟩ := h.wd_some hw
  rw [e1]
  exact (counts_runs ht h1 _ _).bind fun c a b _ h => quant_runs ht h _ _ _ _ _ _
 ·rename_i hw
  rw [h.wd_none ht (by simp) hw]
  exact .ok h
end
end Go.Proofs.YtadodmjdkphddaaDoor.N2
end
section
set_option linter.unusedSimpArgs false
set_option linter.unusedVariables false
namespace Go.Proofs.YtadodmjdkphddaaDoor.N2
open Go Go.Abs Go.Proofs.Norm
set_option maxRecDepth 100000
def RunD (t : List Un) (pre : List Int) (δ : Int) (D : Prop) {α : Type} (x y : Out α) (g : Int) : Prop := ∀ v a', x = .ok v a' → (δ = 0 ∨ a'.gr = g) → (∃ b', y = .ok v b' ∧ Like t pre δ a' b') ∨ (D ∧ ∃ p, y = .bad 25 p)
section
variable {t : List Un} (ht : Tail t) {pre : List Int} {δ : Int} {D : Prop}
theorem Runs.d {α : Type} {x y : Out α} {g : Int} (h : Runs t pre δ x y) : RunD t pre δ D x y g := fun v a' e _ => .inl (h v a' e)
theorem RunD.bind {α β : Type} {x y : Out α} {f h : α → St → Out β} {g : Int} (hx : RunD t pre δ D x y g) (m1 : ∀ v a, x = .ok v a → g ≤ a.gr) (m2 : ∀ v a u s, x = .ok v a → f v a = .ok u s → a.gr ≤ s.gr)
  (k : ∀ v a b, x = .ok v a → Like t pre δ a b → RunD t pre δ D (f v a) (h v b) a.gr) : RunD t pre δ D (x.bind f) (y.bind h) g := by
 intro v a' e hd
 obtain ⟨u, s1, h1, h2⟩ := bind_ok e
 have q1 := m1 _ _ h1
 have q2 := m2 _ _ _ _ h1 h2
 rcases hx u s1 h1 (by omega) with ⟨b1, e1, l1⟩ | ⟨hD, p, hp⟩
 ·rcases k u s1 b1 h1 l1 v a' h2 (by omega) with ⟨b', e2, l2⟩ | ⟨hD, p, hp⟩
  ·exact .inl ⟨b', by rw [e1]; exact e2, l2⟩
  ·exact .inr ⟨hD, p, by rw [e1]; exact hp⟩
 ·exact .inr ⟨hD, p, by rw [hp]; rfl⟩
variable {P Q : Int → St → Out (Z8 × Bool)} (M : Mono P) (HP : ∀ p q a b, Like t pre δ a b → RunD t pre δ D (P p a) (Q q b) a.gr)
include ht HP in
theorem atom_run {a b : St} (h : Like t pre δ a b) (hn : a.us ≠ []) : RunD t pre δ D (pAtom P a) (pAtom Q b) a.gr := by
 have k := h.take hn
 unfold pAtom
 rw [h.peek hn]
 split
 ·exact (Runs.ok k).d
 split
 ·exact (Runs.ok k).d
 split
 ·exact (Runs.ok k).d
 split
 ·exact ((esc_runs k _ _).bind (f := fun n s1 => .ok (n, n.Kind != 9) s1) (g := fun n s1 => .ok (n, n.Kind != 9) s1) fun v a b _ h => .ok h).d
 split
 ·exact ((class_runs ht k _ _).bind (f := fun n s1 => .ok (n, true) s1) (g := fun n s1 => .ok (n, true) s1) fun v a b _ h => .ok h).d
 split
 ·have := HP a.pos b.pos _ _ k
  rwa [take_gr] at this
 split
 ·exact Runs.bad.d
 split
 ·exact Runs.bad.d
 ·exact (Runs.ok k).d
include ht in
theorem stops_app {us : List Un} : stops (us ++ t) = stops us := by
 by_cases h : us = []
 ·subst h
  rcases ht with rfl | ⟨n, v, rfl⟩ <;> rfl
 ·unfold stops
  rw [peek_app h]
  cases us with
  | nil => exact absurd rfl h
  | cons x r => rfl
theorem ne_stops {us : List Un} (h : ¬ stops us = true) : us ≠ [] := by
 rintro rfl
 exact h rfl
include ht M HP in
theorem catL_run : ∀ (k k' : Nat) (kids : List Z8) (a b : St), k ≤ k' → Like t pre δ a b → RunD t pre δ D (pCatL P k kids a) (pCatL Q k' kids b) a.gr := by
 intro k
 induction k with
 | zero => intro k' kids a b _ h; exact Runs.bad.d
 | succ k ih =>
  intro k' kids a b hk h
  obtain ⟨k', rfl⟩ : ∃ j, k' = j + 1 := ⟨k' - 1, by omega⟩
  unfold pCatL
  rw [h.us, stops_app ht]
  split
  ·exact (Runs.ok h).d
  rename_i hs
  have hn := ne_stops hs
  refine (atom_run ht HP h hn).bind (fun v a e => atom_mono M e) ?_ fun m a1 b1 _ h1 => ?_
  ·intro m a1 u s e1 e2
   obtain ⟨n, s2, h3, h4⟩ := bind_ok e2
   have := rep_gr h3
   have := catL_mono M _ _ _ _ _ h4
   omega
  ·refine (rep_runs ht h1 _ _).d.bind (fun v a e => by have := rep_gr e; omega) (fun v a u s _ e => catL_mono M _ _ _ _ _ e) fun n a2 b2 _ h2 => ?_
   exact ih _ _ _ _ (by omega) h2
theorem Like.len {a b : St} (h : Like t pre δ a b) : a.us.length + 1 ≤ b.us.length + 1 := by
 rw [h.us, List.length_append]
 omega
include ht M HP in
theorem altL_run : ∀ (k k' : Nat) (kids : List Z8) (a b : St), k ≤ k' → Like t pre δ a b → RunD t pre δ D (pAltL P k kids a) (pAltL Q k' kids b) a.gr := by
 intro k
 induction k with
 | zero => intro k' kids a b _ h; exact Runs.bad.d
 | succ k ih =>
  intro k' kids a b hk h
  obtain ⟨k', rfl⟩ : ∃ j, k' = j + 1 := ⟨k' - 1, by omega⟩
  unfold pAltL
  split
  ·rename_i hw
   rw [h.wd_none ht (by simp) hw]
   exact (Runs.ok h).d
  ·rename_i a1 hw
   obtain ⟨b1, e1, h1⟩ := h.wd_some hw
   rw [e1]
   dsimp only
   rw [← wd_gr hw]
   refine (catL_run ht M HP _ _ _ _ _ h1.len h1).bind (fun v a e => catL_mono M _ _ _ _ _ e) (fun v a u s _ e => altL_mono M _ _ _ _ _ e) fun n a2 b2 _ h2 => ?_
   exact ih _ _ _ _ (by omega) h2
include ht M HP in
theorem alt1_run {a b : St} (h : Like t pre δ a b) : RunD t pre δ D (pAlt1 P a) (pAlt1 Q b) a.gr := by
 unfold pAlt1
 refine (catL_run ht M HP _ _ _ _ _ h.len h).bind (fun v a e => catL_mono M _ _ _ _ _ e) (fun v a u s _ e => altL_mono M _ _ _ _ _ e) fun n a2 b2 _ h2 => ?_
 exact altL_run ht M HP _ _ _ _ _ h2.len h2
include ht in
theorem open_run {a b : St} (h : Like t pre δ a b) (p q : Int) : ∀ n a', pOpen p a = .ok n a' → (δ = 0 ∨ a'.gr = a.gr) → ∃ b', pOpen q b = .ok n b' ∧ Like t pre δ a' b' := by
 intro n a' e hd
 unfold pOpen at e ⊢
 split at e
 ·rename_i a1 hw
  obtain ⟨b1, e1, h1⟩ := h.wd_some hw
  cases e
  rw [e1]
  exact ⟨_, rfl, h1⟩
 rename_i hw
 rw [h.wd_none ht (by simp) hw]
 dsimp only
 split at e
 ·rename_i a1 hw
  obtain ⟨b1, e1, h1⟩ := h.wd_some hw
  cases e
  rw [e1]
  exact ⟨_, rfl, h1⟩
 rename_i hw
 rw [h.wd_none ht (by simp) hw]
 dsimp only
 split at e
 ·rename_i a1 hw
  obtain ⟨b1, e1, h1⟩ := h.wd_some hw
  cases e
  rw [e1]
  exact ⟨_, rfl, h1⟩
 rename_i hw
 rw [h.wd_none ht (by simp) hw]
 dsimp only
 split at e
 ·rename_i a1 hw
  obtain ⟨b1, e1, h1⟩ := h.wd_some hw
  cases e
  rw [e1]
  exact ⟨_, rfl, h1⟩
 rename_i hw
 rw [h.wd_none ht (by simp) hw]
 dsimp only
 split at e
 ·rename_i a1 hw
  obtain ⟨b1, e1, h1⟩ := h.wd_some hw
  cases e
  rw [e1]
  exact ⟨_, rfl, h1⟩
 rename_i hw
 rw [h.wd_none ht (by simp) hw]
 dsimp only
 split at e
 ·rename_i a1 hw
  obtain ⟨b1, e1, h1⟩ := h.wd_some hw
  cases e
  rw [e1]
  exact ⟨_, rfl, h1⟩
 rename_i hw
 rw [h.wd_none ht (by simp) hw]
 dsimp only
 split at e
 ·simp at e
 rename_i hp
 rw [if_neg (fun e => hp ((h.pk ht (by omega) (by omega)).1 e))]
 split at e
 ·simp at e
 rename_i h9
 cases e
 have h0 : δ = 0 := by
  rcases hd with hd | hd
  ·exact hd
  ·simp only [] at hd; omega
 have hg := h.gr
 rw [if_neg (by omega), show b.gr = a.gr by omega]
 exact ⟨_, rfl, h.us, by simp only []; omega, h.rf⟩
include ht in
theorem paren_run {A B : St → Out Z8} (MA : ∀ s v s', A s = .ok v s' → s.gr ≤ s'.gr) (HA : ∀ a b, Like t pre δ a b → RunD t pre δ D (A a) (B b) a.gr) (p q : Int) (a b : St) (h : Like t pre δ a b) : RunD t pre δ D (pParen A p a) (pParen B q b) a.gr := by
 unfold pParen
 have m1 : ∀ n s, pOpen p a = .ok n s → a.gr ≤ s.gr := by
  intro n s e
  have := open_gr e
  omega
 refine RunD.bind (fun n a' e hd => .inl (open_run ht h p q n a' e hd)) m1 ?_ ?_
 ·intro n s u s' e1 e2
  obtain ⟨kid, s2, h3, h4⟩ := bind_ok e2
  have := MA _ _ _ h3
  split at h4
  ·simp at h4
  rename_i s3 hw
  have := wd_gr hw
  split at h4 <;> cases h4 <;> omega
 ·intro n a1 b1 _ h1
  refine (HA a1 b1 h1).bind (fun v s e => MA _ _ _ e) ?_ ?_
  ·intro kid s2 u s' _ h4
   split at h4
   ·simp at h4
   rename_i s3 hw
   have := wd_gr hw
   split at h4 <;> cases h4 <;> omega
  ·intro kid a2 b2 _ h2
   split
   ·exact Runs.bad.d
   ·rename_i a3 hw
    obtain ⟨b3, e3, h3⟩ := h2.wd_some hw
    rw [e3]
    dsimp only
    split
    ·exact (Runs.ok h3).d
    ·exact (Runs.ok h3).d
end
theorem alt_run {t : List Un} (ht : Tail t) {pre : List Int} {δ : Int} : ∀ (d' d : Nat) (a b : St), d' ≤ d → Like t pre δ a b → RunD t pre δ (d' < d) (pAlt d a) (pAlt d' b) a.gr := by
 intro d'
 induction d' with
 | zero =>
  intro d a b hd h
  cases d with
  | zero => exact alt1_run (P := fun p _ => .bad 25 p) (Q := fun p _ => .bad 25 p) ht (fun p s v s' h => by simp at h) (fun p q a b _ => Runs.bad.d) h
  | succ d =>
   refine alt1_run (P := fun p s => pParen (pAlt d) p s) (Q := fun p _ => .bad 25 p) ht (paren_mono (alt_mono d)) (fun p q a b _ => ?_) h
   intro v a' _ _
   exact .inr ⟨by omega, q, rfl⟩
 | succ d' ih =>
  intro d a b hd h
  obtain ⟨d, rfl⟩ : ∃ j, d = j + 1 := ⟨d - 1, by omega⟩
  refine alt1_run (P := fun p s => pParen (pAlt d) p s) (Q := fun p s => pParen (pAlt d') p s) ht (paren_mono (alt_mono d)) (fun p q a b h => ?_) h
  refine paren_run ht (alt_mono d) (fun a b h => ?_) p q a b h
  intro v a' e hg
  rcases ih d a b (by omega) h v a' e hg with h1 | ⟨h1, h2⟩
  ·exact .inl h1
  ·exact .inr ⟨by omega, h2⟩
end Go.Proofs.YtadodmjdkphddaaDoor.N2
end
section
set_option linter.unusedSimpArgs false
set_option linter.unusedVariables false
namespace Go.Proofs.YtadodmjdkphddaaDoor.N2
open Go Go.Abs Go.Proofs.Norm
set_option maxRecDepth 100000
abbrev pP (d : Nat) : Int → St → Out (Z8 × Bool) := fun p s => pParen (pAlt d) p s
theorem alt_succ (d : Nat) (s : St) : pAlt (d + 1) s = pAlt1 (pP d) s := rfl
def inP (d : Nat) (p : Int) (s : St) : Out (Z8 × Bool) :=
 (pAlt d s).bind fun kid s2 => match wd [41] s2 with
  | none => .bad 20 p
  | some s3 => .ok (kid, true) s3
theorem atom_wrap (d : Nat) (w : List Un) (pos gr : Int) (rf : List Zq) : pAtom (pP d) ⟨(40, 1) :: (63, 1) :: (58, 1) :: w, pos, gr, rf⟩ = inP d pos ⟨w, pos + 1 + (2 : Nat), gr, rf⟩ := rfl
theorem rep_none {kid : Z8} {may : Bool} {s : St} (h : s.us = [] ∨ (peek s.us ≠ 42 ∧ peek s.us ≠ 43 ∧ peek s.us ≠ 63 ∧ peek s.us ≠ 123)) : pRep kid may s = .ok kid s := by
 have k : ∀ c, c = 42 ∨ c = 43 ∨ c = 63 ∨ c = 123 → wd [c] s = none := by
  intro c hc
  unfold wd
  obtain ⟨us, pos, gr, rf⟩ := s
  cases us with
  | nil => rfl
  | cons x r =>
   obtain ⟨u, n⟩ := x
   have h' : u ≠ 42 ∧ u ≠ 43 ∧ u ≠ 63 ∧ u ≠ 123 := by
    rcases h with h | h
    ·simp at h
    ·exact h
   simp only [isW]
   rw [if_neg (by omega)]
 unfold pRep
 rw [k 42 (by omega), k 43 (by omega), k 63 (by omega), k 123 (by omega)]
theorem cat_step {P : Int → St → Out (Z8 × Bool)} {k : Nat} {kids : List Z8} {s s1 s2 : St} {m : Z8 × Bool} {n : Z8} (h : stops s.us = false) (h1 : pAtom P s = .ok m s1) (h2 : pRep m.1 m.2 s1 = .ok n s2) :
  pCatL P (k + 1) kids s = pCatL P k (kids ++ [n]) s2 := by
 rw [pCatL, if_neg (by simp [h]), h1]
 dsimp only [Out.bind]
 rw [h2]
theorem cat_bad {P : Int → St → Out (Z8 × Bool)} {k : Nat} {kids : List Z8} {s : St} {c p : Int} (h : stops s.us = false) (h1 : pAtom P s = .bad c p) : pCatL P (k + 1) kids s = .bad c p := by
 rw [pCatL, if_neg (by simp [h]), h1]
 rfl
theorem cat_end {P : Int → St → Out (Z8 × Bool)} {k : Nat} {kids : List Z8} {s : St} (h : stops s.us = true) : pCatL P (k + 1) kids s = .ok (joined 2 kids) s := by
 rw [pCatL, if_pos h]
theorem altL_end {P : Int → St → Out (Z8 × Bool)} {k : Nat} {kids : List Z8} {s : St} (h : s.us = [] ∨ peek s.us ≠ 124) : pAltL P (k + 1) kids s = .ok (joined 3 kids) s := by
 have e : wd [124] s = none := by
  unfold wd
  obtain ⟨us, pos, gr, rf⟩ := s
  cases us with
  | nil => rfl
  | cons x r =>
   obtain ⟨u, n⟩ := x
   have h' : u ≠ 124 := by
    rcases h with h | h
    ·simp at h
    ·exact h
   simp only [isW]
   rw [if_neg h']
 rw [pAltL, e]
structure Reads (us : List Un) (n : Z8) (s : St) : Prop where
 alt : pAlt 32 ⟨us, 0, 0, []⟩ = .ok n s
 en : s.us = []
 rf : s.rf.find? (fun x => decide (s.gr < x.group)) = none
 fo : wd [40, 63, 105, 41] ⟨us, 0, 0, []⟩ = none
 res : pParse us = (⟨n, s.gr, false⟩, ⟨0, 0⟩)
theorem pEnd_fold {fold : Bool} {o : Out Z8} (h : (pEnd fold o).2.Code = 0) (hb : ∀ c p, o = .bad c p → c ≠ 0) : ∃ n s, o = .ok n s ∧ s.us = [] ∧ s.rf.find? (fun x => decide (s.gr < x.group)) = none ∧ pEnd fold o = (⟨n, s.gr, fold⟩, ⟨0, 0⟩) := by
 cases o with
 | bad c p => exact absurd h (hb c p rfl)
 | ok n s =>
  unfold pEnd at h ⊢
  dsimp only at h ⊢
  by_cases hu : s.us ≠ []
  ·rw [if_pos hu] at h; exact absurd h (by simp)
  ·rw [if_neg hu] at h ⊢
   have hu' : s.us = [] := Decidable.not_not.1 hu
   cases hf : s.rf.find? (fun x => decide (s.gr < x.group)) with
   | some x => rw [hf] at h; exact absurd h (by simp)
   | none => exact ⟨n, s, rfl, hu', hf, rfl⟩
theorem reads_again {us : List Un} {n : Z8} {s : St} (h : Reads us n s) {t : List Un} (ht : Tail t) (d : Nat) (hd : d ≤ 32) (δ pos : Int) (rf : List Zq) (hδ : δ = 0 ∨ s.gr = 0) :
  (∃ s', pAlt d ⟨us ++ t, pos, δ, rf⟩ = .ok n s' ∧ s'.us = t ∧ s'.gr = s.gr + δ ∧ s'.rf.map (·.group) = rf.map (·.group) ++ s.rf.map (·.group)) ∨ (d < 32 ∧ ∃ p, pAlt d ⟨us ++ t, pos, δ, rf⟩ = .bad 25 p) := by
 have hl : Like t (rf.map (·.group)) δ ⟨us, 0, 0, []⟩ ⟨us ++ t, pos, δ, rf⟩ := ⟨rfl, by simp, by simp⟩
 rcases alt_run ht d 32 _ _ hd hl n s h.alt hδ with ⟨b', e, l⟩ | h
 ·exact .inl ⟨b', e, by rw [l.us, h.en]; rfl, l.gr, l.rf⟩
 ·exact .inr h
theorem find_none_of {R R' : List Zq} {g g' : Int} (h : R.find? (fun x => decide (g < x.group)) = none) (e : R'.map (·.group) = R.map (·.group)) (hg : g ≤ g') : R'.find? (fun x => decide (g' < x.group)) = none := by
 rw [List.find?_eq_none] at *
 intro x hx
 have : x.group ∈ R.map (·.group) := e ▸ List.mem_map_of_mem hx
 obtain ⟨y, hy, hyx⟩ := List.mem_map.1 this
 have := h y hy
 simp only [decide_eq_true_eq] at this ⊢
 omega
theorem wd41 (v : List Un) (m : Int) (pos gr : Int) (rf : List Zq) : wd [41] ⟨(41, m) :: v, pos, gr, rf⟩ = some ⟨v, pos + (1 : Nat), gr, rf⟩ := rfl
theorem inP_ok {d : Nat} {w v : List Un} {n : Z8} {s' : St} {m pos p gr : Int} {rf : List Zq} (e : pAlt d ⟨w, pos, gr, rf⟩ = .ok n s') (hu : s'.us = (41, m) :: v) :
  inP d p ⟨w, pos, gr, rf⟩ = .ok (n, true) ⟨v, s'.pos + (1 : Nat), s'.gr, s'.rf⟩ := by
 unfold inP
 rw [e]
 obtain ⟨us, ps, g, r⟩ := s'
 simp only [] at hu
 subst hu
 rfl
theorem inP_bad {d : Nat} {s : St} {p c q : Int} (e : pAlt d s = .bad c q) : inP d p s = .bad c q := by
 unfold inP
 rw [e]
 rfl
theorem wrap_plain {us : List Un} {n : Z8} {s : St} (h : Reads us n s) :
  (∃ p, pParse ((40, 1) :: (63, 1) :: (58, 1) :: (us ++ [(41, 1)])) = (noPat, ⟨25, p⟩)) ∨ pParse ((40, 1) :: (63, 1) :: (58, 1) :: (us ++ [(41, 1)])) = (⟨n, s.gr, false⟩, ⟨0, 0⟩) := by
 have e0 : wd [40, 63, 105, 41] ⟨(40, 1) :: (63, 1) :: (58, 1) :: (us ++ [(41, 1)]), 0, 0, []⟩ = none := rfl
 unfold pParse
 rw [e0, alt_succ, pAlt1, pCat]
 have hs : stops ((40, 1) :: (63, 1) :: (58, 1) :: (us ++ [(41, 1)])) = false := rfl
 have ha := atom_wrap 31 (us ++ [(41, 1)]) 0 0 []
 have ht : Tail [(41, 1)] := .inr ⟨1, [], rfl⟩
 rcases reads_again h ht 31 (by omega) 0 (0 + 1 + (2 : Nat)) [] (.inl rfl) with ⟨s', e1, e2, e3, e4⟩ | ⟨_, p, e1⟩
 ·rw [inP_ok e1 e2] at ha
  rw [cat_step hs ha (rep_none (.inl rfl))]
  right
  simp only [List.length_cons]
  rw [cat_end rfl]
  simp only [Out.bind, List.length_nil]
  rw [altL_end (.inl rfl)]
  unfold pEnd
  dsimp only
  rw [if_neg (by simp), find_none_of h.rf e4 (by omega)]
  show ((⟨n, s'.gr, false⟩, ⟨0, 0⟩) : ZD × Zi) = _
  rw [e3, Int.add_zero]
 ·left
  rw [inP_bad e1] at ha
  rw [cat_bad hs ha]
  exact ⟨p, rfl⟩
theorem fold_plain {us : List Un} {n : Z8} {s : St} (h : Reads us n s) : pParse ((40, 1) :: (63, 1) :: (105, 1) :: (41, 1) :: us) = (⟨n, s.gr, true⟩, ⟨0, 0⟩) := by
 have e0 : wd [40, 63, 105, 41] ⟨(40, 1) :: (63, 1) :: (105, 1) :: (41, 1) :: us, 0, 0, []⟩ = some ⟨us, 0 + (4 : Nat), 0, []⟩ := rfl
 unfold pParse
 rw [e0]
 dsimp only
 rcases reads_again h (.inl rfl) 32 (by omega) 0 (0 + (4 : Nat)) [] (.inl rfl) with ⟨s', e1, e2, e3, e4⟩ | ⟨h, _⟩
 ·rw [List.append_nil] at e1
  rw [e1]
  unfold pEnd
  dsimp only
  rw [if_neg (by simp [e2]), find_none_of h.rf e4 (by omega)]
  show ((⟨n, s'.gr, true⟩, ⟨0, 0⟩) : ZD × Zi) = _
  rw [e3, Int.add_zero]
 ·omega
theorem Reads.head {us : List Un} {n : Z8} {s : St} (h : Reads us n s) : peek us ≠ 63 := by
 intro e
 have hs : stops us = false := by
  cases us with
  | nil => exact absurd e (by decide)
  | cons x r => unfold stops; rw [e]; rfl
 have ha : pAtom (pP 31) ⟨us, 0, 0, []⟩ = .bad 23 0 := by
  unfold pAtom
  simp only [e]
  rfl
 have := h.alt
 rw [alt_succ, pAlt1, pCat, cat_bad hs ha] at this
 simp [Out.bind] at this
theorem isW_no {us : List Un} (h : peek us ≠ 63) (w : List Int) (t : List Un) (ht : peek t ≠ 63) : isW (63 :: w) (us ++ t) = none := by
 cases us with
 | nil =>
  cases t with
  | nil => rfl
  | cons x r =>
   obtain ⟨u, n⟩ := x
   have h' : u ≠ 63 := ht
   simp only [List.nil_append, isW]
   rw [if_neg h']
 | cons x r =>
  obtain ⟨u, n⟩ := x
  have h' : u ≠ 63 := h
  simp only [List.cons_append, isW]
  rw [if_neg h']
theorem wd_no {us : List Un} (h : peek us ≠ 63) (w : List Int) (t : List Un) (ht : peek t ≠ 63) (pos gr : Int) (rf : List Zq) : wd (63 :: w) ⟨us ++ t, pos, gr, rf⟩ = none := by
 unfold wd
 dsimp only
 rw [isW_no h w t ht]
theorem group_plain {us : List Un} {n : Z8} {s : St} (h : Reads us n s) (h0 : s.gr = 0) :
  (∃ p, pParse ((40, 1) :: (us ++ [(41, 1)])) = (noPat, ⟨25, p⟩)) ∨ pParse ((40, 1) :: (us ++ [(41, 1)])) = (⟨⟨5, 0, 0, 0, 1, [], [n]⟩, 1, false⟩, ⟨0, 0⟩) := by
 have hp := h.head
 have e0 : wd [40, 63, 105, 41] ⟨(40, 1) :: (us ++ [(41, 1)]), 0, 0, []⟩ = none := by
  unfold wd
  dsimp only
  rw [show isW [40, 63, 105, 41] ((40, 1) :: (us ++ [(41, 1)])) = isW [63, 105, 41] (us ++ [(41, 1)]) from rfl, isW_no hp _ _ (by decide)]
 unfold pParse
 rw [e0, alt_succ, pAlt1, pCat]
 have hs : stops ((40, 1) :: (us ++ [(41, 1)])) = false := rfl
 have hpk : peek (us ++ [(41, 1)]) ≠ 63 := by
  cases us with
  | nil => decide
  | cons x r => exact hp
 have ho : pOpen 0 ⟨us ++ [(41, 1)], 0 + 1, 0, []⟩ = .ok ⟨5, 0, 0, 0, 1, [], []⟩ ⟨us ++ [(41, 1)], 0 + 1, 1, []⟩ := by
  unfold pOpen
  rw [wd_no hp _ _ (by decide), wd_no hp _ _ (by decide), wd_no hp _ _ (by decide), wd_no hp _ _ (by decide), wd_no hp _ _ (by decide), wd_no hp _ _ (by decide)]
  dsimp only
  rw [if_neg hpk, if_neg (by decide)]
  rfl
 have ht : Tail [(41, 1)] := .inr ⟨1, [], rfl⟩
 have ha : pAtom (pP 31) ⟨(40, 1) :: (us ++ [(41, 1)]), 0, 0, []⟩ = pParen (pAlt 31) 0 ⟨us ++ [(41, 1)], 0 + 1, 0, []⟩ := rfl
 unfold pParen at ha
 rw [ho] at ha
 dsimp only [Out.bind] at ha
 rcases reads_again h ht 31 (by omega) 1 (0 + 1) [] (.inr h0) with ⟨s', e1, e2, e3, e4⟩ | ⟨_, p, e1⟩
 ·rw [e1] at ha
  dsimp only at ha
  obtain ⟨us', ps, g, r⟩ := s'
  simp only [] at e2 e3 e4
  subst e2
  rw [wd41] at ha
  dsimp only at ha
  rw [if_neg (by decide)] at ha
  rw [cat_step hs ha (rep_none (.inl rfl))]
  right
  simp only [List.length_cons]
  rw [cat_end rfl]
  simp only [Out.bind, List.length_nil]
  rw [altL_end (.inl rfl)]
  unfold pEnd
  dsimp only
  rw [if_neg (by simp), find_none_of h.rf e4 (by omega)]
  show ((⟨_, g, false⟩, ⟨0, 0⟩) : ZD × Zi) = _
  rw [e3, h0]
  rfl
 ·left
  rw [e1] at ha
  rw [cat_bad hs ha]
  exact ⟨p, rfl⟩
end Go.Proofs.YtadodmjdkphddaaDoor.N2
end
section
set_option linter.unusedSimpArgs false
set_option linter.unusedVariables false
namespace Go.Proofs.YtadodmjdkphddaaDoor.N2
open Go Go.Abs Go.Proofs.Norm
set_option maxRecDepth 100000
abbrev wrapU (us t : List Un) : List Un := (40, 1) :: (63, 1) :: (58, 1) :: (us ++ (41, 1) :: t)
theorem find_none_two {R R1 R2 : List Zq} {g1 g2 g : Int} (h1 : R1.find? (fun x => decide (g1 < x.group)) = none) (h2 : R2.find? (fun x => decide (g2 < x.group)) = none)
  (e : R.map (·.group) = R1.map (·.group) ++ R2.map (·.group)) (hg1 : g1 ≤ g) (hg2 : g2 ≤ g) : R.find? (fun x => decide (g < x.group)) = none := by
 rw [List.find?_eq_none] at *
 intro x hx
 have : x.group ∈ R1.map (·.group) ++ R2.map (·.group) := e ▸ List.mem_map_of_mem hx
 rcases List.mem_append.1 this with hm | hm
 ·obtain ⟨y, hy, hyx⟩ := List.mem_map.1 hm
  have := h1 y hy
  simp only [decide_eq_true_eq] at this ⊢
  omega
 ·obtain ⟨y, hy, hyx⟩ := List.mem_map.1 hm
  have := h2 y hy
  simp only [decide_eq_true_eq] at this ⊢
  omega
theorem atom_again {us : List Un} {n : Z8} {s : St} (h : Reads us n s) (t : List Un) (pos gr : Int) (rf : List Zq) (hg : gr = 0 ∨ s.gr = 0) :
  (∃ pos' rf', pAtom (pP 31) ⟨wrapU us t, pos, gr, rf⟩ = .ok (n, true) ⟨t, pos', s.gr + gr, rf'⟩ ∧ rf'.map (·.group) = rf.map (·.group) ++ s.rf.map (·.group)) ∨ ∃ p, pAtom (pP 31) ⟨wrapU us t, pos, gr, rf⟩ = .bad 25 p := by
 have ha := atom_wrap 31 (us ++ (41, 1) :: t) pos gr rf
 rcases reads_again h (t := (41, 1) :: t) (.inr ⟨1, t, rfl⟩) 31 (by omega) gr (pos + 1 + (2 : Nat)) rf hg with ⟨s', e1, e2, e3, e4⟩ | ⟨_, p, e1⟩
 ·left
  rw [inP_ok e1 e2] at ha
  obtain ⟨us', ps, g, r⟩ := s'
  simp only [] at e3 e4
  subst e3
  exact ⟨_, r, ha, e4⟩
 ·right
  rw [inP_bad e1] at ha
  exact ⟨p, ha⟩
theorem rows_plain {a b : List Un} {n m : Z8} {s s2 : St} (h : Reads a n s) (h2 : Reads b m s2) (h0 : s.gr = 0) (h02 : s2.gr = 0) :
  (∃ p, pParse (wrapU a (wrapU b [])) = (noPat, ⟨25, p⟩)) ∨ pParse (wrapU a (wrapU b [])) = (⟨⟨2, 0, 0, 0, 0, [], [n, m]⟩, 0, false⟩, ⟨0, 0⟩) := by
 have e0 : wd [40, 63, 105, 41] ⟨wrapU a (wrapU b []), 0, 0, []⟩ = none := rfl
 unfold pParse
 rw [e0, alt_succ, pAlt1, pCat]
 obtain ⟨k, hk⟩ : ∃ k, (wrapU a (wrapU b [])).length + 1 = k + 1 + 1 + 1 := ⟨(wrapU a (wrapU b [])).length - 2, by simp⟩
 dsimp only
 rw [hk]
 rcases atom_again h (wrapU b []) 0 0 [] (.inl rfl) with ⟨p1, r1, ha, hr1⟩ | ⟨p, ha⟩
 ·rw [cat_step rfl ha (rep_none (.inr (by show (40 : Int) ≠ 42 ∧ (40 : Int) ≠ 43 ∧ (40 : Int) ≠ 63 ∧ (40 : Int) ≠ 123; decide)))]
  rcases atom_again h2 [] p1 (s.gr + 0) r1 (.inl (by omega)) with ⟨p2, r2, hb, hr2⟩ | ⟨p, hb⟩
  ·rw [cat_step rfl hb (rep_none (.inl rfl)), cat_end rfl]
   right
   simp only [Out.bind, List.length_nil]
   rw [altL_end (.inl rfl)]
   unfold pEnd
   dsimp only
   rw [if_neg (by simp), find_none_two h.rf h2.rf (g := s2.gr + (s.gr + 0)) (by rw [hr2, hr1]; rfl) (by omega) (by omega)]
   show ((⟨_, s2.gr + (s.gr + 0), false⟩, ⟨0, 0⟩) : ZD × Zi) = _
   rw [h0, h02]
   rfl
  ·rw [cat_bad rfl hb]
   exact .inl ⟨p, rfl⟩
 ·rw [cat_bad rfl ha]
  exact .inl ⟨p, rfl⟩
theorem altL_step {P : Int → St → Out (Z8 × Bool)} {k : Nat} {kids : List Z8} {us : List Un} {pos gr : Int} {rf : List Zq} :
  pAltL P (k + 1) kids ⟨(124, 1) :: us, pos, gr, rf⟩ = (pCat P ⟨us, pos + (1 : Nat), gr, rf⟩).bind fun n s2 => pAltL P k (kids ++ [n]) s2 := rfl
theorem alts_plain {a b : List Un} {n m : Z8} {s s2 : St} (h : Reads a n s) (h2 : Reads b m s2) (hg : s.gr = 0 ∨ s2.gr = 0) :
  (∃ p, pParse (wrapU a ((124, 1) :: wrapU b [])) = (noPat, ⟨25, p⟩)) ∨ pParse (wrapU a ((124, 1) :: wrapU b [])) = (⟨⟨3, 0, 0, 0, 0, [], [n, m]⟩, s2.gr + s.gr, false⟩, ⟨0, 0⟩) := by
 have e0 : wd [40, 63, 105, 41] ⟨wrapU a ((124, 1) :: wrapU b []), 0, 0, []⟩ = none := rfl
 unfold pParse
 rw [e0, alt_succ, pAlt1, pCat]
 obtain ⟨k, hk⟩ : ∃ k, (wrapU a ((124, 1) :: wrapU b [])).length + 1 = k + 1 + 1 := ⟨(wrapU a ((124, 1) :: wrapU b [])).length - 1, by simp⟩
 dsimp only
 rw [hk]
 rcases atom_again h ((124, 1) :: wrapU b []) 0 0 [] (.inl rfl) with ⟨p1, r1, ha, hr1⟩ | ⟨p, ha⟩
 ·rw [cat_step rfl ha (rep_none (.inr (by show (124 : Int) ≠ 42 ∧ (124 : Int) ≠ 43 ∧ (124 : Int) ≠ 63 ∧ (124 : Int) ≠ 123; decide))), cat_end rfl]
  dsimp only [Out.bind]
  rw [show (((124, 1) :: wrapU b [] : List Un).length + 1) = ((b ++ [(41, 1)]).length + 1 + 1 + 1) + 1 + 1 by simp, altL_step, pCat]
  dsimp only
  rw [show (wrapU b []).length + 1 = ((b ++ [(41, 1)]).length + 1 + 1) + 1 + 1 by simp]
  rcases atom_again h2 [] (p1 + (1 : Nat)) (s.gr + 0) r1 (by omega) with ⟨p2, r2, hb, hr2⟩ | ⟨p, hb⟩
  ·rw [cat_step rfl hb (rep_none (.inl rfl)), cat_end rfl]
   right
   simp only [Out.bind]
   rw [altL_end (.inl rfl)]
   unfold pEnd
   dsimp only
   rw [if_neg (by simp)]
   have hm := alt_mono 32 _ _ _ h.alt
   have hm2 := alt_mono 32 _ _ _ h2.alt
   simp only [] at hm hm2
   rw [find_none_two h.rf h2.rf (g := s2.gr + (s.gr + 0)) (by rw [hr2, hr1]; rfl) (by omega) (by omega)]
   show ((⟨_, s2.gr + (s.gr + 0), false⟩, ⟨0, 0⟩) : ZD × Zi) = _
   rw [Int.add_zero]
   rfl
  ·rw [cat_bad rfl hb]
   exact .inl ⟨p, rfl⟩
 ·rw [cat_bad rfl ha]
  exact .inl ⟨p, rfl⟩
end Go.Proofs.YtadodmjdkphddaaDoor.N2
end
section
set_option linter.unusedSimpArgs false
set_option linter.unusedVariables false
namespace Go.Proofs.YtadodmjdkphddaaDoor.N2
open Go Go.Abs Go.Proofs.Unis Go.Proofs.Norm
set_option maxRecDepth 100000
abbrev bytes (x : ByteArray) : List UInt8 := x.data.toList
theorem sadd_ok {x y : ByteArray} (h : (bytes x).length + (bytes y).length ≤ 1000000) : sadd x y = some (x ++ y) := by
 unfold sadd
 have h1 : x.size = (bytes x).length := rfl
 have h2 : y.size = (bytes y).length := rfl
 have h3 : IntKind.i64.max = 9223372036854775807 := by decide
 rw [if_neg (by rw [h1, h2, h3]; omega)]
theorem bytes_add (x y : ByteArray) : bytes (x ++ y) = bytes x ++ bytes y := by
 show (x ++ y).data.toList = _
 rw [ByteArray.data_append, Array.toList_append]
theorem fresh_cons {c : UInt8} {l : List UInt8} (h : c.toNat < 128) : fresh (c :: l) := fresh_byte h
theorem unis_add {s : List UInt8} (hs : fresh s) (a : List UInt8) : unis (a ++ s) = unis a ++ unis s := unis_app hs a.length a (Nat.le_refl _)
theorem reads_of {x : ByteArray} (h : (parseF x).2.Code = 0) (hf : (parseF x).1.Fold = false) : (bytes x).length ≤ 256 ∧ ∃ n s, Reads (unis (bytes x)) n s ∧ parseF x = (⟨n, s.gr, false⟩, ⟨0, 0⟩) := by
 unfold parseF at h hf ⊢
 split at h
 ·simp at h
 rename_i hx
 rw [if_neg hx] at hf ⊢
 change ¬ 256 < (bytes x).length at hx
 refine ⟨by omega, ?_⟩
 change (pParse (unis (bytes x))).2.Code = 0 at h
 change (pParse (unis (bytes x))).1.Fold = false at hf
 show ∃ n s, Reads (unis (bytes x)) n s ∧ pParse (unis (bytes x)) = _
 have hx' : (bytes x).length ≤ 256 := by omega
 generalize bytes x = l at hx' h hf ⊢
 have hat : At l ⟨unis l, 0, 0, []⟩ := ⟨0, by omega, rfl, rfl⟩
 have hi : Inv l ⟨unis l, 0, 0, []⟩ := ⟨hat, by simp, by simp, by have := hat.len; simp only [] at this; simp; omega⟩
 cases hw : wd [40, 63, 105, 41] ⟨unis l, 0, 0, []⟩ with
 | some s1 =>
  exfalso
  obtain ⟨t1, t2, t3⟩ := word_some wFo hat (by omega) hw
  have e : pParse (unis l) = pEnd true (pAlt 32 s1) := by unfold pParse; rw [hw]
  rw [e] at h hf
  have hb : ∀ c p, pAlt 32 s1 = .bad c p → c ≠ 0 := by
   intro c p hp
   have := alt_val (l := l) (by omega) 32 0 (by omega) (by omega) s1 ((t2.mv hi).inv hi)
   rw [hp] at this
   exact this.1
  obtain ⟨n, s, _, _, _, e4⟩ := pEnd_fold h hb
  rw [e4] at hf
  simp at hf
 | none =>
  have e : pParse (unis l) = pEnd false (pAlt 32 ⟨unis l, 0, 0, []⟩) := by unfold pParse; rw [hw]
  have hb : ∀ c p, pAlt 32 ⟨unis l, 0, 0, []⟩ = .bad c p → c ≠ 0 := by
   intro c p hp
   have := alt_val (l := l) (by omega) 32 0 (by omega) (by omega) _ hi
   rw [hp] at this
   exact this.1
  rw [e] at h
  obtain ⟨n, s, e1, e2, e3, e4⟩ := pEnd_fold h hb
  refine ⟨n, s, ⟨e1, e2, e3, hw, ?_⟩, ?_⟩
  ·rw [e]; exact e4
  ·rw [e]; exact e4
theorem parseF_small {x : ByteArray} (h : (bytes x).length ≤ 256) : parseF x = pParse (unis (bytes x)) := by
 unfold parseF
 rw [if_neg (by show ¬ 256 < (bytes x).length; omega)]
theorem parseF_big {x : ByteArray} (h : 256 < (bytes x).length) : parseF x = (noPat, ⟨12, 0⟩) := by
 unfold parseF
 rw [if_pos h]
theorem size_bytes (x : ByteArray) : x.size = (bytes x).length := rfl
theorem unis_wrap (x t : List UInt8) : unis ((40 :: 63 :: 58 :: x) ++ 41 :: t) = wrapU (unis x) (unis t) := by
 show unis (40 :: 63 :: 58 :: (x ++ 41 :: t)) = _
 rw [unis_ascii (by decide), unis_ascii (by decide), unis_ascii (by decide), unis_add (fresh_cons (by decide)), unis_ascii (by decide)]
 rfl
theorem alt_good9 {l : List UInt8} {n : Z8} {s : St} (h : Reads (unis l) n s) (hl : l.length ≤ 100) : s.gr ≤ 9 := by
 have hat : At l ⟨unis l, 0, 0, []⟩ := ⟨0, by omega, rfl, rfl⟩
 have hi : Inv l ⟨unis l, 0, 0, []⟩ := ⟨hat, by simp, by simp, by have := hat.len; simp only [] at this; simp; omega⟩
 have := alt_val (l := l) (by omega) 32 0 (by omega) (by omega) _ hi
 rw [h.alt] at this
 exact (this.2.inv hi).g9
end Go.Proofs.YtadodmjdkphddaaDoor.N2
end
section
set_option linter.unusedSimpArgs false
set_option linter.unusedVariables false
namespace Go.Proofs.YtadodmjdkphddaaDoor.N2
open Go Go.Abs Go.Proofs.Unis Go.Proofs.Norm
set_option maxRecDepth 100000
def encN (n : Nat) : List Nat :=
 if n < 128 then [n] else if n < 2048 then [192 + n / 64, 128 + n % 64]
 else if n < 65536 then [224 + n / 4096, 128 + n / 64 % 64, 128 + n % 64]
 else [240 + n / 262144, 128 + n / 4096 % 64, 128 + n / 64 % 64, 128 + n % 64]
def encB (n : Nat) : List UInt8 := (encN n).map UInt8.ofNat
theorem u8_id {n : Int} (h0 : 0 ≤ n) (h1 : n < 256) : IntKind.u8.wrap n = n := by
 show (if (false && decide (n % 256 ≥ 128)) = true then n % 256 - 256 else n % 256) = n
 rw [if_neg (by simp)]
 omega
theorem enc_lt {n : Nat} (h : n ≤ 1114111) : ∀ x ∈ encN n, x < 256 := by
 unfold encN
 intro x hx
 split at hx
 ·simp at hx; omega
 split at hx
 ·simp at hx; omega
 split at hx
 ·simp at hx; omega
 ·simp at hx; omega
theorem tdivN (n k : Nat) : Int.tdiv (n : Int) (k : Int) = ((n / k : Nat) : Int) := rfl
theorem tmodN (n k : Nat) : Int.tmod (n : Int) (k : Int) = ((n % k : Nat) : Int) := rfl
theorem bytesI_val {n : Nat} (h : n ≤ 1114111) : Z6e (n : Int) = some ((encN n).map fun (x : Nat) => (x : Int)) := by
 have e : ∀ (a : Nat) (z : Int) (b : Nat), z = a → a + b < 256 → IntKind.u8.wrap (IntKind.i64.wrap (z + (b : Int))) = ((a + b : Nat) : Int) := by
  intro a z b hz hab
  subst hz
  rw [wrap_i64 (by omega) (by omega), u8_id (by omega) (by omega)]
  omega
 have w : ∀ a : Nat, a ≤ 1114111 → IntKind.i64.wrap (a : Int) = (a : Int) := fun a ha => wrap_i64 (by omega) (by omega)
 have d1 : Int.tdiv (n : Int) 64 = ((n / 64 : Nat) : Int) := tdivN n 64
 have d2 : Int.tdiv (n : Int) 4096 = ((n / 4096 : Nat) : Int) := tdivN n 4096
 have d3 : Int.tdiv (n : Int) 262144 = ((n / 262144 : Nat) : Int) := tdivN n 262144
 have m1 : Int.tmod (n : Int) 64 = ((n % 64 : Nat) : Int) := tmodN n 64
 have m2 : Int.tmod ((n / 64 : Nat) : Int) 64 = ((n / 64 % 64 : Nat) : Int) := tmodN _ 64
 have m3 : Int.tmod ((n / 4096 : Nat) : Int) 64 = ((n / 4096 % 64 : Nat) : Int) := tmodN _ 64
 have w1 := w (n / 64) (by omega)
 have w2 := w (n / 4096) (by omega)
 have w3 := w (n / 262144) (by omega)
 apply Zck
 unfold Z7C Z6b Z68 Z67
 rw [d1, d2, d3, w1, w2, w3, m1, m2, m3]
 unfold encN
 by_cases c1 : n < 128
 ·rw [if_pos (dc_pos (by omega)), if_pos c1, u8_id (by omega) (by omega)]
  rfl
 rw [if_neg (dc_neg (by omega)), if_neg c1]
 by_cases c2 : n < 2048
 ·rw [if_pos (dc_pos (by omega)), if_pos c2, e 192 192 (n / 64) rfl (by omega), e 128 128 (n % 64) rfl (by omega)]
  rfl
 rw [if_neg (dc_neg (by omega)), if_neg c2]
 by_cases c3 : n < 65536
 ·rw [if_pos (dc_pos (by omega)), if_pos c3, e 224 224 (n / 4096) rfl (by omega), e 128 128 (n / 64 % 64) rfl (by omega), e 128 128 (n % 64) rfl (by omega)]
  rfl
 rw [if_neg (dc_neg (by omega)), if_neg c3, e 240 240 (n / 262144) rfl (by omega), e 128 128 (n / 4096 % 64) rfl (by omega), e 128 128 (n / 64 % 64) rfl (by omega), e 128 128 (n % 64) rfl (by omega)]
 rfl
theorem strI_enc {n : Nat} : bytes (strI ((encN n).map fun (x : Nat) => (x : Int))) = encB n := by
 show (List.map _ _) = _
 unfold encB
 rw [List.map_map]
 rfl
theorem nth_cons {a : Nat} {l : List UInt8} (h : a < 256) : nth (UInt8.ofNat a :: l) 0 = a := by
 show (UInt8.ofNat a).toNat = a
 rw [UInt8.toNat_ofNat']
 omega
theorem nth_succ (b : UInt8) (l : List UInt8) (j : Nat) : nth (b :: l) (j + 1) = nth l j := by
 unfold nth
 rw [List.getD_cons_succ]
theorem dec2 {n L c d : Nat} (h0 : 128 ≤ n) (h1 : n < 2048) (hL : 1 < L) : dec L (192 + n / 64) (128 + n % 64) c d = (n, 2) := by
 unfold dec
 rw [if_neg (by omega), if_pos (by omega), if_pos (by omega)]
 congr 1
 omega
theorem dec3 {n L d : Nat} (h0 : 2048 ≤ n) (h1 : n < 65536) (hv : n < 55296 ∨ 57344 ≤ n) (hL : 2 < L) : dec L (224 + n / 4096) (128 + n / 64 % 64) (128 + n % 64) d = (n, 3) := by
 unfold dec
 have e : (224 + n / 4096) % 16 * 4096 + (128 + n / 64 % 64) % 64 * 64 + (128 + n % 64) % 64 = n := by omega
 rw [if_neg (by omega), if_neg (by omega), if_pos (by omega), e, if_pos ⟨h0, (valid_iff n).2 (by omega)⟩]
theorem dec4 {n L : Nat} (h0 : 65536 ≤ n) (h1 : n ≤ 1114111) (hL : 3 < L) : dec L (240 + n / 262144) (128 + n / 4096 % 64) (128 + n / 64 % 64) (128 + n % 64) = (n, 4) := by
 unfold dec
 have e : (240 + n / 262144) % 8 * 262144 + (128 + n / 4096 % 64) % 64 * 4096 + (128 + n / 64 % 64) % 64 * 64 + (128 + n % 64) % 64 = n := by omega
 rw [if_neg (by omega), if_neg (by omega), if_neg (by omega), if_pos (by omega), e, if_pos ⟨h0, (valid_iff n).2 (by omega)⟩]
theorem unis_enc {n : Nat} (h : n ≤ 1114111) (hv : n < 55296 ∨ 57344 ≤ n) (l : List UInt8) : unis (encB n ++ l) = ((n : Int), ((encN n).length : Int)) :: unis l := by
 unfold encB encN
 by_cases c1 : n < 128
 ·rw [if_pos c1]
  have : (UInt8.ofNat n).toNat = n := by rw [UInt8.toNat_ofNat']; omega
  show unis (UInt8.ofNat n :: l) = _
  rw [unis_ascii (by omega), this]
  rfl
 rw [if_neg c1]
 by_cases c2 : n < 2048
 ·rw [if_pos c2]
  show unis (UInt8.ofNat (192 + n / 64) :: UInt8.ofNat (128 + n % 64) :: l) = _
  have eU : U (UInt8.ofNat (192 + n / 64) :: UInt8.ofNat (128 + n % 64) :: l) = ((n : Int), 2) := by
   unfold U
   rw [nth_succ, nth_cons (by omega), nth_cons (by omega), dec2 (by omega) c2 (by simp), strayed_good (.inl (by decide))]
  rw [unis_step (by simp), eU]
  rfl
 rw [if_neg c2]
 by_cases c3 : n < 65536
 ·rw [if_pos c3]
  show unis (UInt8.ofNat (224 + n / 4096) :: UInt8.ofNat (128 + n / 64 % 64) :: UInt8.ofNat (128 + n % 64) :: l) = _
  have eU : U (UInt8.ofNat (224 + n / 4096) :: UInt8.ofNat (128 + n / 64 % 64) :: UInt8.ofNat (128 + n % 64) :: l) = ((n : Int), 3) := by
   unfold U
   rw [nth_succ, nth_succ _ _ 1, nth_succ _ _ 0, nth_cons (by omega), nth_cons (by omega), nth_cons (by omega), dec3 (by omega) c3 hv (by simp), strayed_good (.inl (by decide))]
  rw [unis_step (by simp), eU]
  rfl
 rw [if_neg c3]
 show unis (UInt8.ofNat (240 + n / 262144) :: UInt8.ofNat (128 + n / 4096 % 64) :: UInt8.ofNat (128 + n / 64 % 64) :: UInt8.ofNat (128 + n % 64) :: l) = _
 have eU : U (UInt8.ofNat (240 + n / 262144) :: UInt8.ofNat (128 + n / 4096 % 64) :: UInt8.ofNat (128 + n / 64 % 64) :: UInt8.ofNat (128 + n % 64) :: l) = ((n : Int), 4) := by
  unfold U
  rw [nth_succ, nth_succ _ _ 1, nth_succ _ _ 0, nth_succ _ _ 2, nth_succ _ _ 1, nth_succ _ _ 0, nth_cons (by omega), nth_cons (by omega), nth_cons (by omega), nth_cons (by omega), dec4 (by omega) h (by simp), strayed_good (.inl (by decide))]
 rw [unis_step (by simp), eU]
 rfl
end Go.Proofs.YtadodmjdkphddaaDoor.N2
end
