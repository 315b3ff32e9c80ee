/- A text read again elsewhere. No condition. -/
import Derived.Test.YtocikhhkicahoaaDoorPlainA
import Derived.Test.YtocikhhkicahoaaDoorPlainB

set_option linter.unusedSimpArgs false
set_option linter.unusedVariables false
set_option linter.defProp false
section
namespace Go.Proofs.YtocikhhkicahoaaDoor.N2
open Go Go.Abs Go.Proofs.Norm
set_option maxRecDepth 100000
def Tail (t : List Un) : Prop := t = [] ∨ ∃ n v, t = (41, n) :: v
structure Like (t : List Un) (pre : List Int) (δ : Int) (a b : St) : Prop where
 us : b.us = a.us ++ t
 gr : b.gr = a.gr + δ
 rf : b.rf.map (·.group) = pre ++ a.rf.map (·.group)
theorem bind_ok {α β : Type} {x : Out α} {f : α → St → Out β} {v : β} {s : St} (h : x.bind f = .ok v s) : ∃ u s1, x = .ok u s1 ∧ f u s1 = .ok v s := by
 cases x with
 | bad c p => simp [Out.bind] at h
 | ok u s1 => exact ⟨u, s1, rfl, h⟩
theorem Z6z (s : St) : (take s).gr = s.gr := by unfold take; split <;> rfl
theorem Z7P {w : List Int} {s s' : St} (h : wd w s = some s') : s'.gr = s.gr := by
 unfold wd at h
 split at h
 ·cases h; rfl
 ·simp at h
theorem ZvY {u p v : Int} {s s' : St} (h : Z8u u p s = .ok v s') : s'.gr = s.gr := by
 unfold Z8u at h
 split at h
 ·cases h; rfl
 split at h
 ·cases h; rfl
 split at h
 ·cases h; rfl
 split at h
 ·split at h
  ·split at h
   ·cases h; rw [Z6z, Z6z]
   ·simp at h
  ·simp at h
 split at h
 ·cases h; rfl
 ·simp at h
theorem ZFT {p : Int} {v : Z9} {s s' : St} (h : pEsc p s = .ok v s') : s'.gr = s.gr := by
 unfold pEsc at h
 split at h
 ·simp at h
 split at h
 ·cases h; exact Z6z s
 split at h
 ·cases h; exact Z6z s
 split at h
 ·cases h; exact Z6z s
 split at h
 ·cases h; exact Z6z s
 ·obtain ⟨u, s1, h1, h2⟩ := bind_ok h
  cases h2
  exact (ZvY h1).trans (Z6z s)
theorem ZCl {v : Int × List R2 × Bool} {s s' : St} (h : pMem s = .ok v s') : s'.gr = s.gr := by
 unfold pMem at h
 split at h
 ·cases h; exact Z6z s
 split at h
 ·simp at h
 split at h
 ·cases h; rw [Z6z, Z6z]
 ·obtain ⟨u, s1, h1, h2⟩ := bind_ok h
  cases h2
  rw [ZvY h1, Z6z, Z6z]
theorem Zsn (p : Int) (no : Bool) : ∀ (k : Nat) (fst : Bool) (all : List R2) (s s' : St) (v : Z9), Z6y p no k fst all s = .ok v s' → s'.gr = s.gr := by
 intro k
 induction k with
 | zero => intro fst all s s' v h; simp [Z6y] at h
 | succ k ih =>
  intro fst all s s' v h
  unfold Z6y at h
  split at h
  ·simp at h
  split at h
  ·split at h
   ·simp at h
   ·cases h; exact Z6z s
  split at h
  ·simp at h
  obtain ⟨m, s1, h1, h2⟩ := bind_ok h
  have e1 := ZCl h1
  split at h2
  ·split at h2
   ·simp at h2
   ·exact (ih _ _ _ _ _ h2).trans e1
  split at h2
  ·exact (ih _ _ _ _ _ h2).trans e1
  ·rename_i s2 hw
   have e2 := Z7P hw
   split at h2
   ·simp at h2
   obtain ⟨m2, s3, h3, h4⟩ := bind_ok h2
   have e3 := ZCl h3
   split at h4
   ·simp at h4
   ·exact (ih _ _ _ _ _ h4).trans (e3.trans (e2.trans e1))
theorem ZDi {p : Int} {v : Z9} {s s' : St} (h : ZcM p s = .ok v s') : s'.gr = s.gr := by
 unfold ZcM at h
 split at h
 ·rename_i s1 hw
  exact (Zsn _ _ _ _ _ _ _ _ h).trans (Z7P hw)
 ·exact Zsn _ _ _ _ _ _ _ _ h
theorem Zrc (s : St) : (pNum s).2.gr = s.gr := by
 unfold pNum
 split
 ·split
  ·show (take (take s)).gr = _
   rw [Z6z, Z6z]
  ·exact Z6z s
 ·rfl
theorem ZCc {p lo hi : Int} {v : Int × Int} {s s' : St} (h : pFin p lo hi s = .ok v s') : s'.gr = s.gr := by
 unfold pFin at h
 split at h
 ·simp at h
 split at h
 ·simp at h
 ·rename_i s1 hw
  cases h
  exact Z7P hw
theorem ZzN {p : Int} {v : Int × Int} {s s' : St} (h : Za0 p s = .ok v s') : s'.gr = s.gr := by
 unfold Za0 at h
 split at h
 ·exact (ZCc h).trans (Zrc s)
 rename_i s2 hw
 have e := (Z7P hw).trans (Zrc s)
 split at h
 ·split at h
  ·simp at h
  rename_i s4 hw2
  split at h
  ·cases h; exact (Z7P hw2).trans ((Zrc s2).trans e)
  ·simp at h
 ·exact (ZCc h).trans ((Zrc s2).trans e)
theorem Zm3 {kid n : Z9} {may : Bool} {p lo hi : Int} {s s' : St} (h : Zbb kid may p lo hi s = .ok n s') : s'.gr = s.gr := by
 unfold Zbb at h
 split at h
 ·simp at h
 split at h
 ·rename_i s1 hw; cases h; exact Z7P hw
 split at h
 ·rename_i s1 hw; cases h; exact Z7P hw
 ·cases h; rfl
theorem Zwe {kid n : Z9} {may : Bool} {s s' : St} (h : pRep kid may s = .ok n s') : s'.gr = s.gr := by
 unfold pRep at h
 split at h
 ·rename_i s1 hw; exact (Zm3 h).trans (Z7P hw)
 split at h
 ·rename_i s1 hw; exact (Zm3 h).trans (Z7P hw)
 split at h
 ·rename_i s1 hw; exact (Zm3 h).trans (Z7P hw)
 split at h
 ·rename_i s1 hw
  obtain ⟨c, s2, h1, h2⟩ := bind_ok h
  exact (Zm3 h2).trans ((ZzN h1).trans (Z7P hw))
 ·cases h; rfl
def Mono {α : Type} (P : Int → St → Out α) : Prop := ∀ p s v s', P p s = .ok v s' → s.gr ≤ s'.gr
section
variable {P : Int → St → Out (Z9 × Bool)} (M : Mono P)
include M
theorem Zsl {s s' : St} {v : Z9 × Bool} (h : ZaO P s = .ok v s') : s.gr ≤ s'.gr := by
 unfold ZaO at h
 have ht := Z6z s
 split at h
 ·cases h; omega
 split at h
 ·cases h; omega
 split at h
 ·cases h; omega
 split at h
 ·obtain ⟨u, s1, h1, h2⟩ := bind_ok h
  cases h2
  have := ZFT h1
  omega
 split at h
 ·obtain ⟨u, s1, h1, h2⟩ := bind_ok h
  cases h2
  have := ZDi h1
  omega
 split at h
 ·have := M _ _ _ _ h
  omega
 split at h
 ·simp at h
 split at h
 ·simp at h
 ·cases h; omega
theorem ZeC : ∀ (k : Nat) (kids : List Z9) (s s' : St) (v : Z9), ZaP P k kids s = .ok v s' → s.gr ≤ s'.gr := by
 intro k
 induction k with
 | zero => intro kids s s' v h; simp [ZaP] at h
 | succ k ih =>
  intro kids s s' v h
  unfold ZaP at h
  split at h
  ·cases h; exact ZdJ _
  obtain ⟨m, s1, h1, h2⟩ := bind_ok h
  obtain ⟨n, s2, h3, h4⟩ := bind_ok h2
  have a1 := Zsl M h1
  have a2 := Zwe h3
  have a3 := ih _ _ _ _ h4
  omega
theorem Zmt : ∀ (k : Nat) (kids : List Z9) (s s' : St) (v : Z9), Zdl P k kids s = .ok v s' → s.gr ≤ s'.gr := by
 intro k
 induction k with
 | zero => intro kids s s' v h; simp [Zdl] at h
 | succ k ih =>
  intro kids s s' v h
  unfold Zdl at h
  split at h
  ·cases h; exact ZdJ _
  rename_i s1 hw
  obtain ⟨n, s2, h3, h4⟩ := bind_ok h
  have a1 := Z7P hw
  have a2 := ZeC M _ _ _ _ _ h3
  have a3 := ih _ _ _ _ h4
  omega
theorem Zsk {s s' : St} {v : Z9} (h : Zdk P s = .ok v s') : s.gr ≤ s'.gr := by
 unfold Zdk at h
 obtain ⟨n, s2, h3, h4⟩ := bind_ok h
 have a2 := ZeC M _ _ _ _ _ h3
 have a3 := Zmt M _ _ _ _ _ h4
 omega
end
theorem Zxq {p : Int} {s s' : St} {n : Z9} (h : Ziw p s = .ok n s') : s'.gr = s.gr ∨ (s'.gr = s.gr + 1 ∧ n.Kind = 5) := by
 unfold Ziw at h
 split at h
 ·rename_i s1 hw; cases h; exact .inl (Z7P hw)
 split at h
 ·rename_i s1 hw; cases h; exact .inl (Z7P hw)
 split at h
 ·rename_i s1 hw; cases h; exact .inl (Z7P hw)
 split at h
 ·rename_i s1 hw; cases h; exact .inl (Z7P hw)
 split at h
 ·rename_i s1 hw; cases h; exact .inl (Z7P hw)
 split at h
 ·rename_i s1 hw; cases h; exact .inl (Z7P hw)
 split at h
 ·simp at h
 split at h
 ·simp at h
 ·cases h; exact .inr ⟨rfl, rfl⟩
theorem ZlS {A : St → Out Z9} (M : ∀ s v s', A s = .ok v s' → s.gr ≤ s'.gr) : Mono (Z9C A) := by
 intro p s v s' h
 unfold Z9C at h
 obtain ⟨n, s1, h1, h2⟩ := bind_ok h
 obtain ⟨kid, s2, h3, h4⟩ := bind_ok h2
 have a1 := Zxq h1
 have a2 := M _ _ _ h3
 split at h4
 ·simp at h4
 rename_i s3 hw
 have a3 := Z7P hw
 split at h4
 ·cases h4; omega
 ·cases h4; omega
theorem ZoQ : ∀ (d : Nat) (s : St) (v : Z9) (s' : St), pAlt d s = .ok v s' → s.gr ≤ s'.gr := by
 intro d
 induction d with
 | zero => intro s v s' h; exact Zsk (P := fun p _ => .bad 25 p) (fun p s v s' h => by simp at h) h
 | succ d ih => intro s v s' h; exact Zsk (ZlS ih) h
end Go.Proofs.YtocikhhkicahoaaDoor.N2
end
section
namespace Go.Proofs.YtocikhhkicahoaaDoor.N2
open Go Go.Abs Go.Proofs.Norm
set_option maxRecDepth 100000
section
variable {t : List Un} (ht : Tail t) {pre : List Int} {δ : Int}
theorem ZlU {us : List Un} (h : us ≠ []) : peek (us ++ t) = peek us := by
 cases us with
 | nil => exact absurd rfl h
 | cons x r => rfl
include ht in
theorem ZsF : peek t = -1 ∨ peek t = 41 := by
 rcases ht with rfl | ⟨n, v, rfl⟩
 ·exact .inl rfl
 ·exact .inr rfl
include ht in
theorem ZE3 {us : List Un} {c : Int} (h1 : c ≠ -1) (h2 : c ≠ 41) : peek (us ++ t) = c ↔ peek us = c := by
 by_cases h : us = []
 ·subst h
  have e : peek ([] : List Un) = -1 := rfl
  rw [ZbJ, e]
  rcases ZsF ht with h3 | h3 <;> rw [h3] <;> omega
 ·rw [ZlU h]
theorem Like.ne {a b : St} (h : Like t pre δ a b) (hn : a.us ≠ []) : b.us ≠ [] := by
 rw [h.us]
 simp [hn]
theorem Like.peek {a b : St} (h : Like t pre δ a b) (hn : a.us ≠ []) : peek b.us = N2.peek a.us := by rw [h.us, ZlU hn]
include ht in
theorem Like.pk {a b : St} (h : Like t pre δ a b) {c : Int} (h1 : c ≠ -1) (h2 : c ≠ 41) : N2.peek b.us = c ↔ N2.peek a.us = c := by rw [h.us]; exact ZE3 ht h1 h2
theorem Like.take {a b : St} (h : Like t pre δ a b) (hn : a.us ≠ []) : Like t pre δ (take a) (take b) := by
 obtain ⟨ua, pa, ga, ra⟩ := a
 obtain ⟨ub, pb, gb, rb⟩ := b
 cases ua with
 | nil => exact absurd rfl hn
 | cons x r =>
  have h1 := h.us
  simp only [ZbI] at h1
  subst h1
  exact ⟨rfl, h.gr, h.rf⟩
theorem ZDH {w : List Int} : ∀ {us r : List Un}, isW w us = some r → isW w (us ++ t) = some (r ++ t) := by
 induction w with
 | nil => intro us r h; cases h; rfl
 | cons c w ih =>
  intro us r h
  cases us with
  | nil => simp [isW] at h
  | cons x us =>
   obtain ⟨u, n⟩ := x
   simp only [isW, ZbI] at h ⊢
   split at h
   ·rename_i hc; rw [if_pos hc]; exact ih h
   ·simp at h
include ht in
theorem ZDG {w : List Int} (hw : ∀ c ∈ w, c ≠ 41) : ∀ {us : List Un}, isW w us = none → isW w (us ++ t) = none := by
 induction w with
 | nil => intro us h; simp [isW] at h
 | cons c w ih =>
  intro us h
  cases us with
  | nil =>
   rcases ht with rfl | ⟨n, v, rfl⟩
   ·rfl
   ·have := hw c (ZbH ..)
    simp only [ZbJ, isW]
    rw [if_neg (fun e => this e.symm)]
  | cons x us =>
   obtain ⟨u, n⟩ := x
   simp only [isW, ZbI] at h ⊢
   split
   ·rename_i hc; rw [if_pos hc] at h; exact ih (fun c h => hw c (ZcP _ h)) h
   ·rfl
theorem Like.wd_some {a b a' : St} (h : Like t pre δ a b) {w : List Int} (e : wd w a = some a') : ∃ b', wd w b = some b' ∧ Like t pre δ a' b' := by
 unfold wd at e ⊢
 rw [h.us]
 split at e
 ·rename_i r hr
  cases e
  rw [ZDH hr]
  exact ⟨_, rfl, rfl, h.gr, h.rf⟩
 ·simp at e
include ht in
theorem Like.wd_none {a b : St} (h : Like t pre δ a b) {w : List Int} (hw : ∀ c ∈ w, c ≠ 41) (e : wd w a = none) : wd w b = none := by
 unfold wd at e ⊢
 rw [h.us]
 split at e
 ·simp at e
 ·rename_i hr
  rw [ZDG ht hw hr]
def Runs (t : List Un) (pre : List Int) (δ : Int) {α : Type} (x y : Out α) : Prop := ∀ v a', x = .ok v a' → ∃ b', y = .ok v b' ∧ Like t pre δ a' b'
theorem Runs.ok {α : Type} {v : α} {a b : St} (h : Like t pre δ a b) : Runs t pre δ (.ok v a) (.ok v b) := by
 intro v' a' e; cases e; exact ⟨b, rfl, h⟩
theorem Runs.bad {α : Type} {c p : Int} {y : Out α} : Runs t pre δ (.bad c p) y := by intro v a e; simp at e
theorem Runs.bind {α β : Type} {x y : Out α} {f g : α → St → Out β} (h : Runs t pre δ x y) (k : ∀ v a b, x = .ok v a → Like t pre δ a b → Runs t pre δ (f v a) (g v b)) : Runs t pre δ (x.bind f) (y.bind g) := by
 intro v a' e
 obtain ⟨u, s1, h1, h2⟩ := bind_ok e
 obtain ⟨b1, e1, l1⟩ := h u s1 h1
 obtain ⟨b', e2, l2⟩ := k u s1 b1 h1 l1 v a' h2
 exact ⟨b', by rw [e1]; exact e2, l2⟩
theorem ZCg {us : List Un} (h : 0 ≤ hexF (peek us)) : us ≠ [] := by
 intro e
 rw [e] at h
 exact absurd h (by decide)
theorem Zrg {a b : St} (h : Like t pre δ a b) (u p q : Int) : Runs t pre δ (Z8u u p a) (Z8u u q b) := by
 unfold Z8u
 split
 ·exact .ok h
 split
 ·exact .ok h
 split
 ·exact .ok h
 split
 ·by_cases h1 : 0 ≤ hexF (N2.peek a.us)
  ·have n1 := ZCg h1
   have e1 := h.peek n1
   rw [if_pos h1, if_pos (show 0 ≤ hexF (N2.peek b.us) by rw [e1]; exact h1)]
   by_cases h2 : 0 ≤ hexF (N2.peek (N2.take a).us)
   ·have n2 := ZCg h2
    have e2 := (h.take n1).peek n2
    rw [if_pos h2, if_pos (show 0 ≤ hexF (N2.peek (N2.take b).us) by rw [e2]; exact h2), e1, e2]
    exact .ok ((h.take n1).take n2)
   ·rw [if_neg h2]
    exact .bad
  ·rw [if_neg h1]
   exact .bad
 split
 ·exact .ok h
 ·exact .bad
theorem ZDr {a b : St} (h : Like t pre δ a b) (p q : Int) : Runs t pre δ (pEsc p a) (pEsc q b) := by
 unfold pEsc
 split
 ·exact .bad
 rename_i hn
 rw [if_neg (h.ne hn), h.peek hn]
 split
 ·exact .ok (h.take hn)
 split
 ·exact .ok (h.take hn)
 split
 ·exact .ok (h.take hn)
 split
 ·refine .ok ?_
  have h2 := h.take hn
  exact ⟨h2.us, h2.gr, by simp [h.rf]⟩
 ·exact (Zrg (h.take hn) _ _ _).bind fun v a b _ h => .ok h
theorem ZvL {a b : St} (h : Like t pre δ a b) (hn : a.us ≠ []) : Runs t pre δ (pMem a) (pMem b) := by
 unfold pMem
 rw [h.peek hn]
 split
 ·exact .ok (h.take hn)
 split
 ·exact .bad
 rename_i h2
 have k := h.take hn
 rw [if_neg (k.ne h2), k.peek h2]
 split
 ·exact .ok (k.take h2)
 ·exact (Zrg (k.take h2) _ _ _).bind fun v a b _ h => .ok h
include ht in
theorem Zow (p q : Int) (no : Bool) : ∀ (k k' : Nat) (fst : Bool) (all : List R2) (a b : St), k ≤ k' → Like t pre δ a b → Runs t pre δ (Z6y p no k fst all a) (Z6y q no k' fst all b) := by
 intro k
 induction k with
 | zero => intro k' fst all a b _ h; exact .bad
 | succ k ih =>
  intro k' fst all a b hk h
  obtain ⟨k', rfl⟩ : ∃ j, k' = j + 1 := ⟨k' - 1, by omega⟩
  have hk' : k ≤ k' := by omega
  unfold Z6y
  split
  ·exact .bad
  rename_i hn
  rw [if_neg (h.ne hn), h.peek hn]
  split
  ·split
   ·exact .bad
   ·exact .ok (h.take hn)
  split
  ·exact .bad
  refine (ZvL h hn).bind fun m a1 b1 _ h1 => ?_
  split
  ·split
   ·exact .bad
   ·rename_i hc
    rw [if_neg (fun e => hc ((h1.pk ht (by omega) (by omega)).1 e))]
    exact ih _ _ _ _ _ hk' h1
  split
  ·rename_i hw
   rw [h1.wd_none ht (by simp) hw]
   exact ih _ _ _ _ _ hk' h1
  ·rename_i a2 hw
   obtain ⟨b2, e2, h2⟩ := h1.wd_some hw
   rw [e2]
   dsimp only
   split
   ·exact .bad
   rename_i hc
   have n2 : a2.us ≠ [] := fun e => hc (.inl e)
   rw [if_neg (by rw [h2.peek n2]; intro e; rcases e with e | e; exact h2.ne n2 e; exact hc (.inr e))]
   refine (ZvL h2 n2).bind fun m2 a3 b3 _ h3 => ?_
   split
   ·exact .bad
   ·exact ih _ _ _ _ _ hk' h3
include ht in
theorem ZxM {a b : St} (h : Like t pre δ a b) (p q : Int) : Runs t pre δ (ZcM p a) (ZcM q b) := by
 unfold ZcM
 have len : ∀ {a b : St}, Like t pre δ a b → a.us.length + 1 ≤ b.us.length + 1 := by
  intro a b h
  rw [h.us, q3_]
  omega
 split
 ·rename_i a1 hw
  obtain ⟨b1, e1, h1⟩ := h.wd_some hw
  rw [e1]
  exact Zow ht _ _ _ _ _ _ _ _ _ (len h1) h1
 ·rename_i hw
  rw [h.wd_none ht (by simp) hw]
  exact Zow ht _ _ _ _ _ _ _ _ _ (len h) h
include ht in
theorem Zso {us : List Un} : digit (peek (us ++ t)) = digit (peek us) := by
 by_cases h : us = []
 ·subst h
  rw [ZbJ]
  rcases ZsF ht with e | e <;> rw [e] <;> rfl
 ·rw [ZlU h]
theorem Ztl {us : List Un} (h : digit (peek us) = true) : us ≠ [] := by
 intro e
 rw [e] at h
 exact absurd h (by decide)
include ht in
theorem ZvR {a b : St} (h : Like t pre δ a b) : (pNum b).1 = (pNum a).1 ∧ Like t pre δ (pNum a).2 (pNum b).2 := by
 unfold pNum
 have e1 : digit (peek b.us) = digit (peek a.us) := by rw [h.us]; exact Zso ht
 rw [e1]
 by_cases c1 : digit (peek a.us) = true
 ·have n1 := Ztl c1
  have k := h.take n1
  have e2 : digit (peek (take b).us) = digit (peek (take a).us) := by rw [k.us]; exact Zso ht
  rw [if_pos c1, if_pos c1, e2]
  by_cases c2 : digit (peek (take a).us) = true
  ·have n2 := Ztl c2
   rw [if_pos c2, if_pos c2, h.peek n1, k.peek n2]
   exact ⟨rfl, k.take n2⟩
  ·rw [if_neg c2, if_neg c2, h.peek n1]
   exact ⟨rfl, k⟩
 ·rw [if_neg c1, if_neg c1]
  exact ⟨rfl, h⟩
theorem ZvC {a b : St} (h : Like t pre δ a b) (p q lo hi : Int) : Runs t pre δ (pFin p lo hi a) (pFin q lo hi b) := by
 unfold pFin
 split
 ·exact .bad
 split
 ·exact .bad
 ·rename_i a1 hw
  obtain ⟨b1, e1, h1⟩ := h.wd_some hw
  rw [e1]
  exact .ok h1
include ht in
theorem ZwG {a b : St} (h : Like t pre δ a b) (p q : Int) : Runs t pre δ (Za0 p a) (Za0 q b) := by
 unfold Za0
 obtain ⟨e1, h1⟩ := ZvR ht h
 rw [e1]
 split
 ·rename_i hw
  rw [h1.wd_none ht (by simp) hw]
  exact ZvC h1 _ _ _ _
 ·rename_i a2 hw
  obtain ⟨b2, e2, h2⟩ := h1.wd_some hw
  obtain ⟨e3, h3⟩ := ZvR ht h2
  rw [e2]
  dsimp only
  rw [e3]
  split
  ·split
   ·exact .bad
   ·rename_i a4 hw4
    obtain ⟨b4, e4, h4⟩ := h3.wd_some hw4
    rw [e4]
    dsimp only
    split
    ·exact .ok h4
    ·exact .bad
  ·exact ZvC h3 _ _ _ _
include ht in
theorem ZiA {a b : St} (h : Like t pre δ a b) (kid : Z9) (may : Bool) (p q lo hi : Int) : Runs t pre δ (Zbb kid may p lo hi a) (Zbb kid may q lo hi b) := by
 unfold Zbb
 split
 ·exact .bad
 split
 ·rename_i a1 hw
  obtain ⟨b1, e1, h1⟩ := h.wd_some hw
  rw [e1]
  exact .ok h1
 rename_i hw
 rw [h.wd_none ht (by simp) hw]
 dsimp only
 split
 ·rename_i a1 hw
  obtain ⟨b1, e1, h1⟩ := h.wd_some hw
  rw [e1]
  exact .ok h1
 ·rename_i hw
  rw [h.wd_none ht (by simp) hw]
  exact .ok h
include ht in
theorem ZEf {a b : St} (h : Like t pre δ a b) (kid : Z9) (may : Bool) : Runs t pre δ (pRep kid may a) (pRep kid may b) := by
 unfold pRep
 split
 ·rename_i a1 hw
  obtain ⟨b1, e1, h1⟩ := h.wd_some hw
  rw [e1]
  exact ZiA ht h1 _ _ _ _ _ _
 rename_i hw
 rw [h.wd_none ht (by simp) hw]
 dsimp only
 split
 ·rename_i a1 hw
  obtain ⟨b1, e1, h1⟩ := h.wd_some hw
  rw [e1]
  exact ZiA ht h1 _ _ _ _ _ _
 rename_i hw
 rw [h.wd_none ht (by simp) hw]
 dsimp only
 split
 ·rename_i a1 hw
  obtain ⟨b1, e1, h1⟩ := h.wd_some hw
  rw [e1]
  exact ZiA ht h1 _ _ _ _ _ _
 rename_i hw
 rw [h.wd_none ht (by simp) hw]
 dsimp only
 split
 ·rename_i a1 hw
  obtain ⟨b1, e1, h1⟩ := h.wd_some hw
  rw [e1]
  exact (ZwG ht h1 _ _).bind fun c a b _ h => ZiA ht h _ _ _ _ _ _
 ·rename_i hw
  rw [h.wd_none ht (by simp) hw]
  exact .ok h
end
end Go.Proofs.YtocikhhkicahoaaDoor.N2
end
section
namespace Go.Proofs.YtocikhhkicahoaaDoor.N2
open Go Go.Abs Go.Proofs.Norm
set_option maxRecDepth 100000
def RunD (t : List Un) (pre : List Int) (δ : Int) (D : Prop) {α : Type} (x y : Out α) (g : Int) : Prop := ∀ v a', x = .ok v a' → (δ = 0 ∨ a'.gr = g) → (∃ b', y = .ok v b' ∧ Like t pre δ a' b') ∨ (D ∧ ∃ p, y = .bad 25 p)
section
variable {t : List Un} (ht : Tail t) {pre : List Int} {δ : Int} {D : Prop}
theorem Runs.d {α : Type} {x y : Out α} {g : Int} (h : Runs t pre δ x y) : RunD t pre δ D x y g := fun v a' e _ => .inl (h v a' e)
theorem RunD.bind {α β : Type} {x y : Out α} {f h : α → St → Out β} {g : Int} (hx : RunD t pre δ D x y g) (m1 : ∀ v a, x = .ok v a → g ≤ a.gr) (m2 : ∀ v a u s, x = .ok v a → f v a = .ok u s → a.gr ≤ s.gr)
  (k : ∀ v a b, x = .ok v a → Like t pre δ a b → RunD t pre δ D (f v a) (h v b) a.gr) : RunD t pre δ D (x.bind f) (y.bind h) g := by
 intro v a' e hd
 obtain ⟨u, s1, h1, h2⟩ := bind_ok e
 have q1 := m1 _ _ h1
 have q2 := m2 _ _ _ _ h1 h2
 rcases hx u s1 h1 (by omega) with ⟨b1, e1, l1⟩ | ⟨hD, p, hp⟩
 ·rcases k u s1 b1 h1 l1 v a' h2 (by omega) with ⟨b', e2, l2⟩ | ⟨hD, p, hp⟩
  ·exact .inl ⟨b', by rw [e1]; exact e2, l2⟩
  ·exact .inr ⟨hD, p, by rw [e1]; exact hp⟩
 ·exact .inr ⟨hD, p, by rw [hp]; rfl⟩
variable {P Q : Int → St → Out (Z9 × Bool)} (M : Mono P) (HP : ∀ p q a b, Like t pre δ a b → RunD t pre δ D (P p a) (Q q b) a.gr)
include ht HP in
theorem ZDg {a b : St} (h : Like t pre δ a b) (hn : a.us ≠ []) : RunD t pre δ D (ZaO P a) (ZaO Q b) a.gr := by
 have k := h.take hn
 unfold ZaO
 rw [h.peek hn]
 split
 ·exact (Runs.ok k).d
 split
 ·exact (Runs.ok k).d
 split
 ·exact (Runs.ok k).d
 split
 ·exact ((ZDr k _ _).bind (f := fun n s1 => .ok (n, n.Kind != 9) s1) (g := fun n s1 => .ok (n, n.Kind != 9) s1) fun v a b _ h => .ok h).d
 split
 ·exact ((ZxM ht k _ _).bind (f := fun n s1 => .ok (n, true) s1) (g := fun n s1 => .ok (n, true) s1) fun v a b _ h => .ok h).d
 split
 ·have := HP a.pos b.pos _ _ k
  rwa [Z6z] at this
 split
 ·exact Runs.bad.d
 split
 ·exact Runs.bad.d
 ·exact (Runs.ok k).d
include ht in
theorem ZCV {us : List Un} : stops (us ++ t) = stops us := by
 by_cases h : us = []
 ·subst h
  rcases ht with rfl | ⟨n, v, rfl⟩ <;> rfl
 ·unfold stops
  rw [ZlU h]
  cases us with
  | nil => exact absurd rfl h
  | cons x r => rfl
theorem ZDP {us : List Un} (h : ¬ stops us = true) : us ≠ [] := by
 rintro rfl
 exact h rfl
include ht M HP in
theorem Zth : ∀ (k k' : Nat) (kids : List Z9) (a b : St), k ≤ k' → Like t pre δ a b → RunD t pre δ D (ZaP P k kids a) (ZaP Q k' kids b) a.gr := by
 intro k
 induction k with
 | zero => intro k' kids a b _ h; exact Runs.bad.d
 | succ k ih =>
  intro k' kids a b hk h
  obtain ⟨k', rfl⟩ : ∃ j, k' = j + 1 := ⟨k' - 1, by omega⟩
  unfold ZaP
  rw [h.us, ZCV ht]
  split
  ·exact (Runs.ok h).d
  rename_i hs
  have hn := ZDP hs
  refine (ZDg ht HP h hn).bind (fun v a e => Zsl M e) ?_ fun m a1 b1 _ h1 => ?_
  ·intro m a1 u s e1 e2
   obtain ⟨n, s2, h3, h4⟩ := bind_ok e2
   have := Zwe h3
   have := ZeC M _ _ _ _ _ h4
   omega
  ·refine (ZEf ht h1 _ _).d.bind (fun v a e => by have := Zwe e; omega) (fun v a u s _ e => ZeC M _ _ _ _ _ e) fun n a2 b2 _ h2 => ?_
   exact ih _ _ _ _ (by omega) h2
theorem Like.len {a b : St} (h : Like t pre δ a b) : a.us.length + 1 ≤ b.us.length + 1 := by
 rw [h.us, q3_]
 omega
include ht M HP in
theorem ZDb : ∀ (k k' : Nat) (kids : List Z9) (a b : St), k ≤ k' → Like t pre δ a b → RunD t pre δ D (Zdl P k kids a) (Zdl Q k' kids b) a.gr := by
 intro k
 induction k with
 | zero => intro k' kids a b _ h; exact Runs.bad.d
 | succ k ih =>
  intro k' kids a b hk h
  obtain ⟨k', rfl⟩ : ∃ j, k' = j + 1 := ⟨k' - 1, by omega⟩
  unfold Zdl
  split
  ·rename_i hw
   rw [h.wd_none ht (by simp) hw]
   exact (Runs.ok h).d
  ·rename_i a1 hw
   obtain ⟨b1, e1, h1⟩ := h.wd_some hw
   rw [e1]
   dsimp only
   rw [← Z7P hw]
   refine (Zth ht M HP _ _ _ _ _ h1.len h1).bind (fun v a e => ZeC M _ _ _ _ _ e) (fun v a u s _ e => Zmt M _ _ _ _ _ e) fun n a2 b2 _ h2 => ?_
   exact ih _ _ _ _ (by omega) h2
include ht M HP in
theorem ZoP {a b : St} (h : Like t pre δ a b) : RunD t pre δ D (Zdk P a) (Zdk Q b) a.gr := by
 unfold Zdk
 refine (Zth ht M HP _ _ _ _ _ h.len h).bind (fun v a e => ZeC M _ _ _ _ _ e) (fun v a u s _ e => Zmt M _ _ _ _ _ e) fun n a2 b2 _ h2 => ?_
 exact ZDb ht M HP _ _ _ _ _ h2.len h2
include ht in
theorem ZE1 {a b : St} (h : Like t pre δ a b) (p q : Int) : ∀ n a', Ziw p a = .ok n a' → (δ = 0 ∨ a'.gr = a.gr) → ∃ b', Ziw q b = .ok n b' ∧ Like t pre δ a' b' := by
 intro n a' e hd
 unfold Ziw at e ⊢
 split at e
 ·rename_i a1 hw
  obtain ⟨b1, e1, h1⟩ := h.wd_some hw
  cases e
  rw [e1]
  exact ⟨_, rfl, h1⟩
 rename_i hw
 rw [h.wd_none ht (by simp) hw]
 dsimp only
 split at e
 ·rename_i a1 hw
  obtain ⟨b1, e1, h1⟩ := h.wd_some hw
  cases e
  rw [e1]
  exact ⟨_, rfl, h1⟩
 rename_i hw
 rw [h.wd_none ht (by simp) hw]
 dsimp only
 split at e
 ·rename_i a1 hw
  obtain ⟨b1, e1, h1⟩ := h.wd_some hw
  cases e
  rw [e1]
  exact ⟨_, rfl, h1⟩
 rename_i hw
 rw [h.wd_none ht (by simp) hw]
 dsimp only
 split at e
 ·rename_i a1 hw
  obtain ⟨b1, e1, h1⟩ := h.wd_some hw
  cases e
  rw [e1]
  exact ⟨_, rfl, h1⟩
 rename_i hw
 rw [h.wd_none ht (by simp) hw]
 dsimp only
 split at e
 ·rename_i a1 hw
  obtain ⟨b1, e1, h1⟩ := h.wd_some hw
  cases e
  rw [e1]
  exact ⟨_, rfl, h1⟩
 rename_i hw
 rw [h.wd_none ht (by simp) hw]
 dsimp only
 split at e
 ·rename_i a1 hw
  obtain ⟨b1, e1, h1⟩ := h.wd_some hw
  cases e
  rw [e1]
  exact ⟨_, rfl, h1⟩
 rename_i hw
 rw [h.wd_none ht (by simp) hw]
 dsimp only
 split at e
 ·simp at e
 rename_i hp
 rw [if_neg (fun e => hp ((h.pk ht (by omega) (by omega)).1 e))]
 split at e
 ·simp at e
 rename_i h9
 cases e
 have h0 : δ = 0 := by
  rcases hd with hd | hd
  ·exact hd
  ·simp only [] at hd; omega
 have hg := h.gr
 rw [if_neg (by omega), show b.gr = a.gr by omega]
 exact ⟨_, rfl, h.us, by simp only []; omega, h.rf⟩
include ht in
theorem ZCI {A B : St → Out Z9} (MA : ∀ s v s', A s = .ok v s' → s.gr ≤ s'.gr) (HA : ∀ a b, Like t pre δ a b → RunD t pre δ D (A a) (B b) a.gr) (p q : Int) (a b : St) (h : Like t pre δ a b) : RunD t pre δ D (Z9C A p a) (Z9C B q b) a.gr := by
 unfold Z9C
 have m1 : ∀ n s, Ziw p a = .ok n s → a.gr ≤ s.gr := by
  intro n s e
  have := Zxq e
  omega
 refine RunD.bind (fun n a' e hd => .inl (ZE1 ht h p q n a' e hd)) m1 ?_ ?_
 ·intro n s u s' e1 e2
  obtain ⟨kid, s2, h3, h4⟩ := bind_ok e2
  have := MA _ _ _ h3
  split at h4
  ·simp at h4
  rename_i s3 hw
  have := Z7P hw
  split at h4 <;> cases h4 <;> omega
 ·intro n a1 b1 _ h1
  refine (HA a1 b1 h1).bind (fun v s e => MA _ _ _ e) ?_ ?_
  ·intro kid s2 u s' _ h4
   split at h4
   ·simp at h4
   rename_i s3 hw
   have := Z7P hw
   split at h4 <;> cases h4 <;> omega
  ·intro kid a2 b2 _ h2
   split
   ·exact Runs.bad.d
   ·rename_i a3 hw
    obtain ⟨b3, e3, h3⟩ := h2.wd_some hw
    rw [e3]
    dsimp only
    split
    ·exact (Runs.ok h3).d
    ·exact (Runs.ok h3).d
end
theorem ZF2 {t : List Un} (ht : Tail t) {pre : List Int} {δ : Int} : ∀ (d' d : Nat) (a b : St), d' ≤ d → Like t pre δ a b → RunD t pre δ (d' < d) (pAlt d a) (pAlt d' b) a.gr := by
 intro d'
 induction d' with
 | zero =>
  intro d a b hd h
  cases d with
  | zero => exact ZoP (P := fun p _ => .bad 25 p) (Q := fun p _ => .bad 25 p) ht (fun p s v s' h => by simp at h) (fun p q a b _ => Runs.bad.d) h
  | succ d =>
   refine ZoP (P := fun p s => Z9C (pAlt d) p s) (Q := fun p _ => .bad 25 p) ht (ZlS (ZoQ d)) (fun p q a b _ => ?_) h
   intro v a' _ _
   exact .inr ⟨by omega, q, rfl⟩
 | succ d' ih =>
  intro d a b hd h
  obtain ⟨d, rfl⟩ : ∃ j, d = j + 1 := ⟨d - 1, by omega⟩
  refine ZoP (P := fun p s => Z9C (pAlt d) p s) (Q := fun p s => Z9C (pAlt d') p s) ht (ZlS (ZoQ d)) (fun p q a b h => ?_) h
  refine ZCI ht (ZoQ d) (fun a b h => ?_) p q a b h
  intro v a' e hg
  rcases ih d a b (by omega) h v a' e hg with h1 | ⟨h1, h2⟩
  ·exact .inl h1
  ·exact .inr ⟨by omega, h2⟩
end Go.Proofs.YtocikhhkicahoaaDoor.N2
end
section
namespace Go.Proofs.YtocikhhkicahoaaDoor.N2
open Go Go.Abs Go.Proofs.Norm
set_option maxRecDepth 100000
abbrev pP (d : Nat) : Int → St → Out (Z9 × Bool) := fun p s => Z9C (pAlt d) p s
theorem ZDf (d : Nat) (s : St) : pAlt (d + 1) s = Zdk (pP d) s := rfl
theorem ZF4 {P : Int → St → Out (Z9 × Bool)} {k : Nat} {kids : List Z9} {s : St} {c p : Int} (h : stops s.us = false) (h1 : ZaO P s = .bad c p) : ZaP P (k + 1) kids s = .bad c p := by
 rw [ZaP, if_neg (by simp [h]), h1]
 rfl
structure Reads (us : List Un) (n : Z9) (s : St) : Prop where
 alt : pAlt 32 ⟨us, 0, 0, []⟩ = .ok n s
 en : s.us = []
 rf : s.rf.find? (fun x => decide (s.gr < x.group)) = none
 fo : wd [40, 63, 105, 41] ⟨us, 0, 0, []⟩ = none
 res : Z7Y us = (⟨n, s.gr, false⟩, ⟨0, 0⟩)
theorem ZsC {fold : Bool} {o : Out Z9} (h : (pEnd fold o).2.Code = 0) (hb : ∀ c p, o = .bad c p → c ≠ 0) : ∃ n s, o = .ok n s ∧ s.us = [] ∧ s.rf.find? (fun x => decide (s.gr < x.group)) = none ∧ pEnd fold o = (⟨n, s.gr, fold⟩, ⟨0, 0⟩) := by
 cases o with
 | bad c p => exact absurd h (hb c p rfl)
 | ok n s =>
  unfold pEnd at h ⊢
  dsimp only at h ⊢
  by_cases hu : s.us ≠ []
  ·rw [if_pos hu] at h; exact absurd h (by simp)
  ·rw [if_neg hu] at h ⊢
   have hu' : s.us = [] := Decidable.not_not.1 hu
   cases hf : s.rf.find? (fun x => decide (s.gr < x.group)) with
   | some x => rw [hf] at h; exact absurd h (by simp)
   | none => exact ⟨n, s, rfl, hu', hf, rfl⟩
theorem ZwU {us : List Un} {n : Z9} {s : St} (h : Reads us n s) {t : List Un} (ht : Tail t) (d : Nat) (hd : d ≤ 32) (δ pos : Int) (rf : List Zz) (hδ : δ = 0 ∨ s.gr = 0) :
  (∃ s', pAlt d ⟨us ++ t, pos, δ, rf⟩ = .ok n s' ∧ s'.us = t ∧ s'.gr = s.gr + δ ∧ s'.rf.map (·.group) = rf.map (·.group) ++ s.rf.map (·.group)) ∨ (d < 32 ∧ ∃ p, pAlt d ⟨us ++ t, pos, δ, rf⟩ = .bad 25 p) := by
 have hl : Like t (rf.map (·.group)) δ ⟨us, 0, 0, []⟩ ⟨us ++ t, pos, δ, rf⟩ := ⟨rfl, by simp, by simp⟩
 rcases ZF2 ht d 32 _ _ hd hl n s h.alt hδ with ⟨b', e, l⟩ | h
 ·exact .inl ⟨b', e, by rw [l.us, h.en]; rfl, l.gr, l.rf⟩
 ·exact .inr h
theorem ZvD {R R' : List Zz} {g g' : Int} (h : R.find? (fun x => decide (g < x.group)) = none) (e : R'.map (·.group) = R.map (·.group)) (hg : g ≤ g') : R'.find? (fun x => decide (g' < x.group)) = none := by
 rw [List.find?_eq_none] at *
 intro x hx
 have : x.group ∈ R.map (·.group) := e ▸ List.mem_map_of_mem hx
 obtain ⟨y, hy, hyx⟩ := Z6K.1 this
 have := h y hy
 simp only [decide_eq_true_eq] at this ⊢
 omega
theorem ZyX {us : List Un} {n : Z9} {s : St} (h : Reads us n s) : Z7Y ((40, 1) :: (63, 1) :: (105, 1) :: (41, 1) :: us) = (⟨n, s.gr, true⟩, ⟨0, 0⟩) := by
 have e0 : wd [40, 63, 105, 41] ⟨(40, 1) :: (63, 1) :: (105, 1) :: (41, 1) :: us, 0, 0, []⟩ = some ⟨us, 0 + (4 : Nat), 0, []⟩ := rfl
 unfold Z7Y
 rw [e0]
 dsimp only
 rcases ZwU h (.inl rfl) 32 (by omega) 0 (0 + (4 : Nat)) [] (.inl rfl) with ⟨s', e1, e2, e3, e4⟩ | ⟨h, _⟩
 ·rw [Zjh] at e1
  rw [e1]
  unfold pEnd
  dsimp only
  rw [if_neg (by simp [e2]), ZvD h.rf e4 (by omega)]
  show ((⟨n, s'.gr, true⟩, ⟨0, 0⟩) : Z1b × Z12) = _
  rw [e3, Int.add_zero]
 ·omega
theorem Reads.head {us : List Un} {n : Z9} {s : St} (h : Reads us n s) : peek us ≠ 63 := by
 intro e
 have hs : stops us = false := by
  cases us with
  | nil => exact absurd e (by decide)
  | cons x r => unfold stops; rw [e]; rfl
 have ha : ZaO (pP 31) ⟨us, 0, 0, []⟩ = .bad 23 0 := by
  unfold ZaO
  simp only [e]
  rfl
 have := h.alt
 rw [ZDf, Zdk, pCat, ZF4 hs ha] at this
 simp [Out.bind] at this

end Go.Proofs.YtocikhhkicahoaaDoor.N2
end
section
namespace Go.Proofs.YtocikhhkicahoaaDoor.N2
open Go Go.Abs Go.Proofs.Unis Go.Proofs.Norm
set_option maxRecDepth 100000
abbrev bytes (x : ByteArray) : List UInt8 := x.data.toList
theorem Zod {x y : ByteArray} (h : (bytes x).length + (bytes y).length ≤ 1000000) : sadd x y = some (x ++ y) := by
 unfold sadd
 have h1 : x.size = (bytes x).length := rfl
 have h2 : y.size = (bytes y).length := rfl
 have h3 : IntKind.i64.max = 9223372036854775807 := by decide
 rw [if_neg (by rw [h1, h2, h3]; omega)]
theorem ZzH (x y : ByteArray) : bytes (x ++ y) = bytes x ++ bytes y := by
 show (x ++ y).data.toList = _
 rw [ByteArray.data_append, Array.toList_append]
theorem ZEc {x : ByteArray} (h : (Z4h x).2.Code = 0) (hf : (Z4h x).1.Fold = false) : (bytes x).length ≤ 256 ∧ ∃ n s, Reads (unis (bytes x)) n s ∧ Z4h x = (⟨n, s.gr, false⟩, ⟨0, 0⟩) := by
 unfold Z4h at h hf ⊢
 split at h
 ·simp at h
 rename_i hx
 rw [if_neg hx] at hf ⊢
 change ¬ 256 < (bytes x).length at hx
 refine ⟨by omega, ?_⟩
 change (Z7Y (unis (bytes x))).2.Code = 0 at h
 change (Z7Y (unis (bytes x))).1.Fold = false at hf
 show ∃ n s, Reads (unis (bytes x)) n s ∧ Z7Y (unis (bytes x)) = _
 have hx' : (bytes x).length ≤ 256 := by omega
 generalize bytes x = l at hx' h hf ⊢
 have hat : At l ⟨unis l, 0, 0, []⟩ := ⟨0, by omega, rfl, rfl⟩
 have hi : Inv l ⟨unis l, 0, 0, []⟩ := ⟨hat, by simp, by simp, by have := hat.len; simp only [] at this; simp; omega⟩
 cases hw : wd [40, 63, 105, 41] ⟨unis l, 0, 0, []⟩ with
 | some s1 =>
  exfalso
  obtain ⟨t1, t2, t3⟩ := Z2w wFo hat (by omega) hw
  have e : Z7Y (unis l) = pEnd true (pAlt 32 s1) := by unfold Z7Y; rw [hw]
  rw [e] at h hf
  have hb : ∀ c p, pAlt 32 s1 = .bad c p → c ≠ 0 := by
   intro c p hp
   have := ZnP (l := l) (by omega) 32 0 (by omega) (by omega) s1 ((t2.mv hi).inv hi)
   rw [hp] at this
   exact this.1
  obtain ⟨n, s, _, _, _, e4⟩ := ZsC h hb
  rw [e4] at hf
  simp at hf
 | none =>
  have e : Z7Y (unis l) = pEnd false (pAlt 32 ⟨unis l, 0, 0, []⟩) := by unfold Z7Y; rw [hw]
  have hb : ∀ c p, pAlt 32 ⟨unis l, 0, 0, []⟩ = .bad c p → c ≠ 0 := by
   intro c p hp
   have := ZnP (l := l) (by omega) 32 0 (by omega) (by omega) _ hi
   rw [hp] at this
   exact this.1
  rw [e] at h
  obtain ⟨n, s, e1, e2, e3, e4⟩ := ZsC h hb
  refine ⟨n, s, ⟨e1, e2, e3, hw, ?_⟩, ?_⟩
  ·rw [e]; exact e4
  ·rw [e]; exact e4
theorem Znn {x : ByteArray} (h : (bytes x).length ≤ 256) : Z4h x = Z7Y (unis (bytes x)) := by
 unfold Z4h
 rw [if_neg (by show ¬ 256 < (bytes x).length; omega)]
theorem Zzq (x : ByteArray) : x.size = (bytes x).length := rfl
end Go.Proofs.YtocikhhkicahoaaDoor.N2
end
section
namespace Go.Proofs.YtocikhhkicahoaaDoor.N2
open Go Go.Abs Go.Proofs.Unis Go.Proofs.Norm
set_option maxRecDepth 100000
inductive NE : Z9 → Z9 → Prop
 | refl (n : Z9) : NE n n
 | row (k : Int) (l l' : List Z9) : k = 2 ∨ k = 3 → l.length = l'.length → (∀ (i : Nat) (x y : Z9), l[i]? = some x → l'[i]? = some y → NE x y) → NE ⟨k, 0, 0, 0, 0, [], l⟩ ⟨k, 0, 0, 0, 0, [], l'⟩
 | rep (lo hi m : Int) (x y : Z9) : NE x y → NE ⟨4, lo, hi, m, 0, [], [x]⟩ ⟨4, lo, hi, m, 0, [], [y]⟩
 | group (r r' : Int) (x y : Z9) : NE x y → NE ⟨5, 0, 0, 0, r, [], [x]⟩ ⟨5, 0, 0, 0, r', [], [y]⟩
 | look (m : Int) (x y : Z9) : NE x y → NE ⟨7, 0, 0, m, 0, [], [x]⟩ ⟨7, 0, 0, m, 0, [], [y]⟩
 | atomic (x y : Z9) : NE x y → NE ⟨8, 0, 0, 0, 0, [], [x]⟩ ⟨8, 0, 0, 0, 0, [], [y]⟩
def LE (l l' : List Z9) : Prop := l.length = l'.length ∧ ∀ (i : Nat) (x y : Z9), l[i]? = some x → l'[i]? = some y → NE x y
theorem LE.nil : LE [] [] := ⟨rfl, by simp⟩
def RunE (t : List Un) (pre : List Int) (δ : Int) {α : Type} (R : α → α → Prop) (x y : Out α) : Prop := ∀ v a' v' b', x = .ok v a' → y = .ok v' b' → R v v' ∧ Like t pre δ a' b'
section
variable {t : List Un} (ht : Tail t) {pre : List Int} {δ : Int}
theorem Runs.e {α : Type} {R : α → α → Prop} (hR : ∀ v, R v v) {x y : Out α} (h : Runs t pre δ x y) : RunE t pre δ R x y := by
 intro v a' v' b' e1 e2
 obtain ⟨b'', e3, l⟩ := h v a' e1
 rw [e2] at e3
 cases e3
 exact ⟨hR v, l⟩
theorem RunE.bad {α : Type} {R : α → α → Prop} {c p : Int} {y : Out α} : RunE t pre δ R (.bad c p) y := by intro v a v' b e; simp at e
theorem RunE.bind {α β : Type} {R : α → α → Prop} {R' : β → β → Prop} {x y : Out α} {f h : α → St → Out β} (hx : RunE t pre δ R x y) (k : ∀ v v' a b, R v v' → Like t pre δ a b → RunE t pre δ R' (f v a) (h v' b)) : RunE t pre δ R' (x.bind f) (y.bind h) := by
 intro v a' v' b' e1 e2
 obtain ⟨u, s1, h1, h2⟩ := bind_ok e1
 obtain ⟨u', s1', h1', h2'⟩ := bind_ok e2
 obtain ⟨hr, hl⟩ := hx u s1 u' s1' h1 h1'
 exact k u u' s1 s1' hr hl v a' v' b' h2 h2'
theorem RunE.ok {α : Type} {R : α → α → Prop} {v v' : α} {a b : St} (hr : R v v') (h : Like t pre δ a b) : RunE t pre δ R (.ok v a) (.ok v' b) := by
 intro u a' u' b' e1 e2; cases e1; cases e2; exact ⟨hr, h⟩
def NB (x y : Z9 × Bool) : Prop := NE x.1 y.1 ∧ x.2 = y.2
theorem NB.refl (x : Z9 × Bool) : NB x x := ⟨.refl _, rfl⟩
variable {P Q : Int → St → Out (Z9 × Bool)} (HP : ∀ p q a b, Like t pre δ a b → RunE t pre δ NB (P p a) (Q q b))
end
end Go.Proofs.YtocikhhkicahoaaDoor.N2
end
