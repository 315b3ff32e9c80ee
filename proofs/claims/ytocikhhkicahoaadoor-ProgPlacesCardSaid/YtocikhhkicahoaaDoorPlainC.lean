/- A text read again elsewhere. No condition. -/
import Derived.Test.YtocikhhkicahoaaDoorPlainA
import Derived.Test.YtocikhhkicahoaaDoorPlainB

set_option linter.unusedSimpArgs false
set_option linter.unusedVariables false
set_option linter.defProp false
section
namespace Go.Proofs.YtocikhhkicahoaaDoor.N2
open Go Go.Abs Go.Proofs.Norm
set_option maxRecDepth 100000
def Tail (t : List Un) : Prop := t = [] ∨ ∃ n v, t = (41, n) :: v
structure Like (t : List Un) (pre : List Int) (δ : Int) (a b : St) : Prop where
 us : b.us = a.us ++ t
 gr : b.gr = a.gr + δ
 rf : b.rf.map (·.group) = pre ++ a.rf.map (·.group)
theorem bind_ok {α β : Type} {x : Out α} {f : α → St → Out β} {v : β} {s : St} (h : x.bind f = .ok v s) : ∃ u s1, x = .ok u s1 ∧ f u s1 = .ok v s := by
 cases x with
 | bad c p => simp [Out.bind] at h
 | ok u s1 => exact ⟨u, s1, rfl, h⟩
theorem Z6V (s : St) : (take s).gr = s.gr := by unfold take; split <;> rfl
theorem Z8y {w : List Int} {s s' : St} (h : wd w s = some s') : s'.gr = s.gr := by
 unfold wd at h
 split at h
 ·cases h; rfl
 ·simp at h
theorem Zvj {u p v : Int} {s s' : St} (h : Z8R u p s = .ok v s') : s'.gr = s.gr := by
 unfold Z8R at h
 split at h
 ·cases h; rfl
 split at h
 ·cases h; rfl
 split at h
 ·cases h; rfl
 split at h
 ·split at h
  ·split at h
   ·cases h; rw [Z6V, Z6V]
   ·simp at h
  ·simp at h
 split at h
 ·cases h; rfl
 ·simp at h
theorem ZBv {v : Int × List R2 × Bool} {s s' : St} (h : pMem s = .ok v s') : s'.gr = s.gr := by
 unfold pMem at h
 split at h
 ·cases h; exact Z6V s
 split at h
 ·simp at h
 split at h
 ·cases h; rw [Z6V, Z6V]
 ·obtain ⟨u, s1, h1, h2⟩ := bind_ok h
  cases h2
  rw [Zvj h1, Z6V, Z6V]
theorem ZrO (p : Int) (no : Bool) : ∀ (k : Nat) (fst : Bool) (all : List R2) (s s' : St) (v : Z9), Z5h p no k fst all s = .ok v s' → s'.gr = s.gr := by
 intro k
 induction k with
 | zero => intro fst all s s' v h; simp [Z5h] at h
 | succ k ih =>
  intro fst all s s' v h
  unfold Z5h at h
  split at h
  ·simp at h
  split at h
  ·split at h
   ·simp at h
   ·cases h; exact Z6V s
  split at h
  ·simp at h
  obtain ⟨m, s1, h1, h2⟩ := bind_ok h
  have e1 := ZBv h1
  split at h2
  ·split at h2
   ·simp at h2
   ·exact (ih _ _ _ _ _ h2).trans e1
  split at h2
  ·exact (ih _ _ _ _ _ h2).trans e1
  ·rename_i s2 hw
   have e2 := Z8y hw
   split at h2
   ·simp at h2
   obtain ⟨m2, s3, h3, h4⟩ := bind_ok h2
   have e3 := ZBv h3
   split at h4
   ·simp at h4
   ·exact (ih _ _ _ _ _ h4).trans (e3.trans (e2.trans e1))
theorem ZCo {p : Int} {v : Z9} {s s' : St} (h : Zby p s = .ok v s') : s'.gr = s.gr := by
 unfold Zby at h
 split at h
 ·rename_i s1 hw
  exact (ZrO _ _ _ _ _ _ _ _ h).trans (Z8y hw)
 ·exact ZrO _ _ _ _ _ _ _ _ h
theorem ZqB (s : St) : (pNum s).2.gr = s.gr := by
 unfold pNum
 split
 ·split
  ·show (take (take s)).gr = _
   rw [Z6V, Z6V]
  ·exact Z6V s
 ·rfl
theorem ZBl {p lo hi : Int} {v : Int × Int} {s s' : St} (h : pFin p lo hi s = .ok v s') : s'.gr = s.gr := by
 unfold pFin at h
 split at h
 ·simp at h
 split at h
 ·simp at h
 ·rename_i s1 hw
  cases h
  exact Z8y hw
theorem Zz4 {p : Int} {v : Int × Int} {s s' : St} (h : ZaW p s = .ok v s') : s'.gr = s.gr := by
 unfold ZaW at h
 split at h
 ·exact (ZBl h).trans (ZqB s)
 rename_i s2 hw
 have e := (Z8y hw).trans (ZqB s)
 split at h
 ·split at h
  ·simp at h
  rename_i s4 hw2
  split at h
  ·cases h; exact (Z8y hw2).trans ((ZqB s2).trans e)
  ·simp at h
 ·exact (ZBl h).trans ((ZqB s2).trans e)
theorem Zlz {kid n : Z9} {may : Bool} {p lo hi : Int} {s s' : St} (h : Z8S kid may p lo hi s = .ok n s') : s'.gr = s.gr := by
 unfold Z8S at h
 split at h
 ·simp at h
 split at h
 ·rename_i s1 hw; cases h; exact Z8y hw
 split at h
 ·rename_i s1 hw; cases h; exact Z8y hw
 ·cases h; rfl
theorem ZH1 {kid n : Z9} {may : Bool} {s s' : St} (h : pRep kid may s = .ok n s') : s'.gr = s.gr := by
 unfold pRep at h
 split at h
 ·rename_i s1 hw; exact (Zlz h).trans (Z8y hw)
 split at h
 ·rename_i s1 hw; exact (Zlz h).trans (Z8y hw)
 split at h
 ·rename_i s1 hw; exact (Zlz h).trans (Z8y hw)
 split at h
 ·rename_i s1 hw
  obtain ⟨c, s2, h1, h2⟩ := bind_ok h
  exact (Zlz h2).trans ((Zz4 h1).trans (Z8y hw))
 ·cases h; rfl
def Mono {α : Type} (P : Int → St → Out α) : Prop := ∀ p s v s', P p s = .ok v s' → s.gr ≤ s'.gr
section
variable {P : Int → St → Out (Z9 × Bool)} (M : Mono P)
include M
end
end Go.Proofs.YtocikhhkicahoaaDoor.N2
end
section
namespace Go.Proofs.YtocikhhkicahoaaDoor.N2
open Go Go.Abs Go.Proofs.Norm
set_option maxRecDepth 100000
section
variable {t : List Un} (ht : Tail t) {pre : List Int} {δ : Int}
theorem ZD7 {us : List Un} (h : us ≠ []) : peek (us ++ t) = peek us := by
 cases us with
 | nil => exact absurd rfl h
 | cons x r => rfl
theorem Like.ne {a b : St} (h : Like t pre δ a b) (hn : a.us ≠ []) : b.us ≠ [] := by
 rw [h.us]
 simp [hn]
theorem Like.peek {a b : St} (h : Like t pre δ a b) (hn : a.us ≠ []) : peek b.us = N2.peek a.us := by rw [h.us, ZD7 hn]
theorem Like.take {a b : St} (h : Like t pre δ a b) (hn : a.us ≠ []) : Like t pre δ (take a) (take b) := by
 obtain ⟨ua, pa, ga, ra⟩ := a
 obtain ⟨ub, pb, gb, rb⟩ := b
 cases ua with
 | nil => exact absurd rfl hn
 | cons x r =>
  have h1 := h.us
  simp only [ZcA] at h1
  subst h1
  exact ⟨rfl, h.gr, h.rf⟩
def Runs (t : List Un) (pre : List Int) (δ : Int) {α : Type} (x y : Out α) : Prop := ∀ v a', x = .ok v a' → ∃ b', y = .ok v b' ∧ Like t pre δ a' b'
theorem Runs.ok {α : Type} {v : α} {a b : St} (h : Like t pre δ a b) : Runs t pre δ (.ok v a) (.ok v b) := by
 intro v' a' e; cases e; exact ⟨b, rfl, h⟩
theorem Runs.bad {α : Type} {c p : Int} {y : Out α} : Runs t pre δ (.bad c p) y := by intro v a e; simp at e
theorem Runs.bind {α β : Type} {x y : Out α} {f g : α → St → Out β} (h : Runs t pre δ x y) (k : ∀ v a b, x = .ok v a → Like t pre δ a b → Runs t pre δ (f v a) (g v b)) : Runs t pre δ (x.bind f) (y.bind g) := by
 intro v a' e
 obtain ⟨u, s1, h1, h2⟩ := bind_ok e
 obtain ⟨b1, e1, l1⟩ := h u s1 h1
 obtain ⟨b', e2, l2⟩ := k u s1 b1 h1 l1 v a' h2
 exact ⟨b', by rw [e1]; exact e2, l2⟩
end
end Go.Proofs.YtocikhhkicahoaaDoor.N2
end
section
namespace Go.Proofs.YtocikhhkicahoaaDoor.N2
open Go Go.Abs Go.Proofs.Norm
set_option maxRecDepth 100000
def RunD (t : List Un) (pre : List Int) (δ : Int) (D : Prop) {α : Type} (x y : Out α) (g : Int) : Prop := ∀ v a', x = .ok v a' → (δ = 0 ∨ a'.gr = g) → (∃ b', y = .ok v b' ∧ Like t pre δ a' b') ∨ (D ∧ ∃ p, y = .bad 25 p)
section
variable {t : List Un} (ht : Tail t) {pre : List Int} {δ : Int} {D : Prop}
theorem Runs.d {α : Type} {x y : Out α} {g : Int} (h : Runs t pre δ x y) : RunD t pre δ D x y g := fun v a' e _ => .inl (h v a' e)
theorem RunD.bind {α β : Type} {x y : Out α} {f h : α → St → Out β} {g : Int} (hx : RunD t pre δ D x y g) (m1 : ∀ v a, x = .ok v a → g ≤ a.gr) (m2 : ∀ v a u s, x = .ok v a → f v a = .ok u s → a.gr ≤ s.gr)
  (k : ∀ v a b, x = .ok v a → Like t pre δ a b → RunD t pre δ D (f v a) (h v b) a.gr) : RunD t pre δ D (x.bind f) (y.bind h) g := by
 intro v a' e hd
 obtain ⟨u, s1, h1, h2⟩ := bind_ok e
 have q1 := m1 _ _ h1
 have q2 := m2 _ _ _ _ h1 h2
 rcases hx u s1 h1 (by omega) with ⟨b1, e1, l1⟩ | ⟨hD, p, hp⟩
 ·rcases k u s1 b1 h1 l1 v a' h2 (by omega) with ⟨b', e2, l2⟩ | ⟨hD, p, hp⟩
  ·exact .inl ⟨b', by rw [e1]; exact e2, l2⟩
  ·exact .inr ⟨hD, p, by rw [e1]; exact hp⟩
 ·exact .inr ⟨hD, p, by rw [hp]; rfl⟩
variable {P Q : Int → St → Out (Z9 × Bool)} (M : Mono P) (HP : ∀ p q a b, Like t pre δ a b → RunD t pre δ D (P p a) (Q q b) a.gr)
theorem Like.len {a b : St} (h : Like t pre δ a b) : a.us.length + 1 ≤ b.us.length + 1 := by
 rw [h.us, q3_]
 omega
end
end Go.Proofs.YtocikhhkicahoaaDoor.N2
end
section
namespace Go.Proofs.YtocikhhkicahoaaDoor.N2
open Go Go.Abs Go.Proofs.Norm
set_option maxRecDepth 100000
abbrev pP (d : Nat) : Int → St → Out (Z9 × Bool) := fun p s => Zff (pAlt d) p s
theorem ZCk (d : Nat) (s : St) : pAlt (d + 1) s = Zgp (pP d) s := rfl
theorem ZDX {P : Int → St → Out (Z9 × Bool)} {k : Nat} {kids : List Z9} {s : St} {c p : Int} (h : stops s.us = false) (h1 : Zd7 P s = .bad c p) : Zd8 P (k + 1) kids s = .bad c p := by
 rw [Zd8, if_neg (by simp [h]), h1]
 rfl
structure Reads (us : List Un) (n : Z9) (s : St) : Prop where
 alt : pAlt 32 ⟨us, 0, 0, []⟩ = .ok n s
 en : s.us = []
 rf : s.rf.find? (fun x => decide (s.gr < x.group)) = none
 fo : wd [40, 63, 105, 41] ⟨us, 0, 0, []⟩ = none
 res : ZaX us = (⟨n, s.gr, false⟩, ⟨0, 0⟩)
theorem Zs5 {fold : Bool} {o : Out Z9} (h : (pEnd fold o).2.Code = 0) (hb : ∀ c p, o = .bad c p → c ≠ 0) : ∃ n s, o = .ok n s ∧ s.us = [] ∧ s.rf.find? (fun x => decide (s.gr < x.group)) = none ∧ pEnd fold o = (⟨n, s.gr, fold⟩, ⟨0, 0⟩) := by
 cases o with
 | bad c p => exact absurd h (hb c p rfl)
 | ok n s =>
  unfold pEnd at h ⊢
  dsimp only at h ⊢
  by_cases hu : s.us ≠ []
  ·rw [if_pos hu] at h; exact absurd h (by simp)
  ·rw [if_neg hu] at h ⊢
   have hu' : s.us = [] := Decidable.not_not.1 hu
   cases hf : s.rf.find? (fun x => decide (s.gr < x.group)) with
   | some x => rw [hf] at h; exact absurd h (by simp)
   | none => exact ⟨n, s, rfl, hu', hf, rfl⟩
theorem Reads.head {us : List Un} {n : Z9} {s : St} (h : Reads us n s) : peek us ≠ 63 := by
 intro e
 have hs : stops us = false := by
  cases us with
  | nil => exact absurd e (by decide)
  | cons x r => unfold stops; rw [e]; rfl
 have ha : Zd7 (pP 31) ⟨us, 0, 0, []⟩ = .bad 23 0 := by
  unfold Zd7
  simp only [e]
  rfl
 have := h.alt
 rw [ZCk, Zgp, pCat, ZDX hs ha] at this
 simp [Out.bind] at this

end Go.Proofs.YtocikhhkicahoaaDoor.N2
end
section
namespace Go.Proofs.YtocikhhkicahoaaDoor.N2
open Go Go.Abs Go.Proofs.Unis Go.Proofs.Norm
set_option maxRecDepth 100000
abbrev bytes (x : ByteArray) : List UInt8 := x.data.toList
end Go.Proofs.YtocikhhkicahoaaDoor.N2
end
section
namespace Go.Proofs.YtocikhhkicahoaaDoor.N2
open Go Go.Abs Go.Proofs.Unis Go.Proofs.Norm
set_option maxRecDepth 100000
inductive NE : Z9 → Z9 → Prop
 | refl (n : Z9) : NE n n
 | row (k : Int) (l l' : List Z9) : k = 2 ∨ k = 3 → l.length = l'.length → (∀ (i : Nat) (x y : Z9), l[i]? = some x → l'[i]? = some y → NE x y) → NE ⟨k, 0, 0, 0, 0, [], l⟩ ⟨k, 0, 0, 0, 0, [], l'⟩
 | rep (lo hi m : Int) (x y : Z9) : NE x y → NE ⟨4, lo, hi, m, 0, [], [x]⟩ ⟨4, lo, hi, m, 0, [], [y]⟩
 | group (r r' : Int) (x y : Z9) : NE x y → NE ⟨5, 0, 0, 0, r, [], [x]⟩ ⟨5, 0, 0, 0, r', [], [y]⟩
 | look (m : Int) (x y : Z9) : NE x y → NE ⟨7, 0, 0, m, 0, [], [x]⟩ ⟨7, 0, 0, m, 0, [], [y]⟩
 | atomic (x y : Z9) : NE x y → NE ⟨8, 0, 0, 0, 0, [], [x]⟩ ⟨8, 0, 0, 0, 0, [], [y]⟩
def LE (l l' : List Z9) : Prop := l.length = l'.length ∧ ∀ (i : Nat) (x y : Z9), l[i]? = some x → l'[i]? = some y → NE x y
theorem LE.nil : LE [] [] := ⟨rfl, by simp⟩
def RunE (t : List Un) (pre : List Int) (δ : Int) {α : Type} (R : α → α → Prop) (x y : Out α) : Prop := ∀ v a' v' b', x = .ok v a' → y = .ok v' b' → R v v' ∧ Like t pre δ a' b'
section
variable {t : List Un} (ht : Tail t) {pre : List Int} {δ : Int}
theorem Runs.e {α : Type} {R : α → α → Prop} (hR : ∀ v, R v v) {x y : Out α} (h : Runs t pre δ x y) : RunE t pre δ R x y := by
 intro v a' v' b' e1 e2
 obtain ⟨b'', e3, l⟩ := h v a' e1
 rw [e2] at e3
 cases e3
 exact ⟨hR v, l⟩
theorem RunE.bad {α : Type} {R : α → α → Prop} {c p : Int} {y : Out α} : RunE t pre δ R (.bad c p) y := by intro v a v' b e; simp at e
theorem RunE.bind {α β : Type} {R : α → α → Prop} {R' : β → β → Prop} {x y : Out α} {f h : α → St → Out β} (hx : RunE t pre δ R x y) (k : ∀ v v' a b, R v v' → Like t pre δ a b → RunE t pre δ R' (f v a) (h v' b)) : RunE t pre δ R' (x.bind f) (y.bind h) := by
 intro v a' v' b' e1 e2
 obtain ⟨u, s1, h1, h2⟩ := bind_ok e1
 obtain ⟨u', s1', h1', h2'⟩ := bind_ok e2
 obtain ⟨hr, hl⟩ := hx u s1 u' s1' h1 h1'
 exact k u u' s1 s1' hr hl v a' v' b' h2 h2'
theorem RunE.ok {α : Type} {R : α → α → Prop} {v v' : α} {a b : St} (hr : R v v') (h : Like t pre δ a b) : RunE t pre δ R (.ok v a) (.ok v' b) := by
 intro u a' u' b' e1 e2; cases e1; cases e2; exact ⟨hr, h⟩
def mkQ : Option (Int × Int × Int) → Z9 → Z9
 | none, k => k
 | some (lo, hi, m), k => ⟨4, lo, hi, m, 0, [], [k]⟩
theorem ZnH {kid n : Z9} {may : Bool} {p lo hi : Int} {s s' : St} (e : Z8S kid may p lo hi s = .ok n s') : ∃ q, n = mkQ q kid ∧ ∀ k', Z8S k' may p lo hi s = .ok (mkQ q k') s' := by
 cases may with
 | false => simp [Z8S] at e
 | true =>
  unfold Z8S at e ⊢
  simp only [Bool.true_eq_false, if_false] at e ⊢
  split at e
  ·cases e; exact ⟨some (lo, hi, 1), rfl, fun k' => rfl⟩
  split at e
  ·cases e; exact ⟨some (lo, hi, 2), rfl, fun k' => rfl⟩
  ·cases e; exact ⟨some (lo, hi, 0), rfl, fun k' => rfl⟩
theorem ZHP {kid n : Z9} {may : Bool} {s s' : St} (e : pRep kid may s = .ok n s') : ∃ q, n = mkQ q kid ∧ ∀ k', pRep k' may s = .ok (mkQ q k') s' := by
 unfold pRep at e ⊢
 split at e
 ·exact ZnH e
 split at e
 ·exact ZnH e
 split at e
 ·exact ZnH e
 split at e
 ·rename_i s1 hw
  obtain ⟨c, s2, h1, h2⟩ := bind_ok e
  rw [h1]
  exact ZnH h2
 ·cases e
  exact ⟨none, rfl, fun k' => rfl⟩
def NB (x y : Z9 × Bool) : Prop := NE x.1 y.1 ∧ x.2 = y.2
theorem NB.refl (x : Z9 × Bool) : NB x x := ⟨.refl _, rfl⟩
variable {P Q : Int → St → Out (Z9 × Bool)} (HP : ∀ p q a b, Like t pre δ a b → RunE t pre δ NB (P p a) (Q q b))
end
end Go.Proofs.YtocikhhkicahoaaDoor.N2
end
section
namespace Go.Proofs.YtocikhhkicahoaaDoor.N2
open Go Go.Abs Go.Proofs.Unis Go.Proofs.Norm
set_option maxRecDepth 100000

end Go.Proofs.YtocikhhkicahoaaDoor.N2
end
