/- A text read again elsewhere. No condition. -/
import Derived.Test.YtocikhhkicahoaaDoorPlainA
import Derived.Test.YtocikhhkicahoaaDoorPlainB

set_option linter.unusedSimpArgs false
set_option linter.unusedVariables false
set_option linter.defProp false
section
namespace Go.Proofs.YtocikhhkicahoaaDoor.N2
open Go Go.Abs Go.Proofs.Norm
set_option maxRecDepth 100000
def Tail (t : List Un) : Prop := t = [] ∨ ∃ n v, t = (41, n) :: v
structure Like (t : List Un) (pre : List Int) (δ : Int) (a b : St) : Prop where
 us : b.us = a.us ++ t
 gr : b.gr = a.gr + δ
 rf : b.rf.map (·.group) = pre ++ a.rf.map (·.group)
theorem bind_ok {α β : Type} {x : Out α} {f : α → St → Out β} {v : β} {s : St} (h : x.bind f = .ok v s) : ∃ u s1, x = .ok u s1 ∧ f u s1 = .ok v s := by
 cases x with
 | bad c p => simp [Out.bind] at h
 | ok u s1 => exact ⟨u, s1, rfl, h⟩
def Mono {α : Type} (P : Int → St → Out α) : Prop := ∀ p s v s', P p s = .ok v s' → s.gr ≤ s'.gr
section
variable {P : Int → St → Out (Zk × Bool)} (M : Mono P)
include M
end
end Go.Proofs.YtocikhhkicahoaaDoor.N2
end
section
namespace Go.Proofs.YtocikhhkicahoaaDoor.N2
open Go Go.Abs Go.Proofs.Norm
set_option maxRecDepth 100000
section
variable {t : List Un} (ht : Tail t) {pre : List Int} {δ : Int}
theorem ZCV {us : List Un} (h : us ≠ []) : peek (us ++ t) = peek us := by
 cases us with
 | nil => exact absurd rfl h
 | cons x r => rfl
theorem Like.ne {a b : St} (h : Like t pre δ a b) (hn : a.us ≠ []) : b.us ≠ [] := by
 rw [h.us]
 simp [hn]
theorem Like.peek {a b : St} (h : Like t pre δ a b) (hn : a.us ≠ []) : peek b.us = N2.peek a.us := by rw [h.us, ZCV hn]
theorem Like.take {a b : St} (h : Like t pre δ a b) (hn : a.us ≠ []) : Like t pre δ (take a) (take b) := by
 obtain ⟨ua, pa, ga, ra⟩ := a
 obtain ⟨ub, pb, gb, rb⟩ := b
 cases ua with
 | nil => exact absurd rfl hn
 | cons x r =>
  have h1 := h.us
  simp only [Zb1] at h1
  subst h1
  exact ⟨rfl, h.gr, h.rf⟩
def Runs (t : List Un) (pre : List Int) (δ : Int) {α : Type} (x y : Out α) : Prop := ∀ v a', x = .ok v a' → ∃ b', y = .ok v b' ∧ Like t pre δ a' b'
theorem Runs.ok {α : Type} {v : α} {a b : St} (h : Like t pre δ a b) : Runs t pre δ (.ok v a) (.ok v b) := by
 intro v' a' e; cases e; exact ⟨b, rfl, h⟩
theorem Runs.bad {α : Type} {c p : Int} {y : Out α} : Runs t pre δ (.bad c p) y := by intro v a e; simp at e
theorem Runs.bind {α β : Type} {x y : Out α} {f g : α → St → Out β} (h : Runs t pre δ x y) (k : ∀ v a b, x = .ok v a → Like t pre δ a b → Runs t pre δ (f v a) (g v b)) : Runs t pre δ (x.bind f) (y.bind g) := by
 intro v a' e
 obtain ⟨u, s1, h1, h2⟩ := bind_ok e
 obtain ⟨b1, e1, l1⟩ := h u s1 h1
 obtain ⟨b', e2, l2⟩ := k u s1 b1 h1 l1 v a' h2
 exact ⟨b', by rw [e1]; exact e2, l2⟩
end
end Go.Proofs.YtocikhhkicahoaaDoor.N2
end
section
namespace Go.Proofs.YtocikhhkicahoaaDoor.N2
open Go Go.Abs Go.Proofs.Norm
set_option maxRecDepth 100000
def RunD (t : List Un) (pre : List Int) (δ : Int) (D : Prop) {α : Type} (x y : Out α) (g : Int) : Prop := ∀ v a', x = .ok v a' → (δ = 0 ∨ a'.gr = g) → (∃ b', y = .ok v b' ∧ Like t pre δ a' b') ∨ (D ∧ ∃ p, y = .bad 25 p)
section
variable {t : List Un} (ht : Tail t) {pre : List Int} {δ : Int} {D : Prop}
theorem Runs.d {α : Type} {x y : Out α} {g : Int} (h : Runs t pre δ x y) : RunD t pre δ D x y g := fun v a' e _ => .inl (h v a' e)
theorem RunD.bind {α β : Type} {x y : Out α} {f h : α → St → Out β} {g : Int} (hx : RunD t pre δ D x y g) (m1 : ∀ v a, x = .ok v a → g ≤ a.gr) (m2 : ∀ v a u s, x = .ok v a → f v a = .ok u s → a.gr ≤ s.gr)
  (k : ∀ v a b, x = .ok v a → Like t pre δ a b → RunD t pre δ D (f v a) (h v b) a.gr) : RunD t pre δ D (x.bind f) (y.bind h) g := by
 intro v a' e hd
 obtain ⟨u, s1, h1, h2⟩ := bind_ok e
 have q1 := m1 _ _ h1
 have q2 := m2 _ _ _ _ h1 h2
 rcases hx u s1 h1 (by omega) with ⟨b1, e1, l1⟩ | ⟨hD, p, hp⟩
 ·rcases k u s1 b1 h1 l1 v a' h2 (by omega) with ⟨b', e2, l2⟩ | ⟨hD, p, hp⟩
  ·exact .inl ⟨b', by rw [e1]; exact e2, l2⟩
  ·exact .inr ⟨hD, p, by rw [e1]; exact hp⟩
 ·exact .inr ⟨hD, p, by rw [hp]; rfl⟩
variable {P Q : Int → St → Out (Zk × Bool)} (M : Mono P) (HP : ∀ p q a b, Like t pre δ a b → RunD t pre δ D (P p a) (Q q b) a.gr)
theorem Like.len {a b : St} (h : Like t pre δ a b) : a.us.length + 1 ≤ b.us.length + 1 := by
 rw [h.us, q3_]
 omega
end
end Go.Proofs.YtocikhhkicahoaaDoor.N2
end
section
namespace Go.Proofs.YtocikhhkicahoaaDoor.N2
open Go Go.Abs Go.Proofs.Norm
set_option maxRecDepth 100000
abbrev pP (d : Nat) : Int → St → Out (Zk × Bool) := fun p s => ZmW (pAlt d) p s
theorem ZsI (d : Nat) (s : St) : pAlt (d + 1) s = Zls (pP d) s := rfl
theorem ZD3 {kid : Zk} {may : Bool} {s : St} (h : s.us = [] ∨ (peek s.us ≠ 42 ∧ peek s.us ≠ 43 ∧ peek s.us ≠ 63 ∧ peek s.us ≠ 123)) : pRep kid may s = .ok kid s := by
 have k : ∀ c, c = 42 ∨ c = 43 ∨ c = 63 ∨ c = 123 → wd [c] s = none := by
  intro c hc
  unfold wd
  obtain ⟨us, pos, gr, rf⟩ := s
  cases us with
  | nil => rfl
  | cons x r =>
   obtain ⟨u, n⟩ := x
   have h' : u ≠ 42 ∧ u ≠ 43 ∧ u ≠ 63 ∧ u ≠ 123 := by
    rcases h with h | h
    ·simp at h
    ·exact h
   simp only [isW]
   rw [if_neg (by omega)]
 unfold pRep
 rw [k 42 (by omega), k 43 (by omega), k 63 (by omega), k 123 (by omega)]
theorem ZCh {P : Int → St → Out (Zk × Bool)} {k : Nat} {kids : List Zk} {s s1 s2 : St} {m : Zk × Bool} {n : Zk} (h : stops s.us = false) (h1 : Zgm P s = .ok m s1) (h2 : pRep m.1 m.2 s1 = .ok n s2) :
  ZdT P (k + 1) kids s = ZdT P k (kids ++ [n]) s2 := by
 rw [ZdT, if_neg (by simp [h]), h1]
 dsimp only [Out.bind]
 rw [h2]
theorem ZDW {P : Int → St → Out (Zk × Bool)} {k : Nat} {kids : List Zk} {s : St} {c p : Int} (h : stops s.us = false) (h1 : Zgm P s = .bad c p) : ZdT P (k + 1) kids s = .bad c p := by
 rw [ZdT, if_neg (by simp [h]), h1]
 rfl
theorem ZDX {P : Int → St → Out (Zk × Bool)} {k : Nat} {kids : List Zk} {s : St} (h : stops s.us = true) : ZdT P (k + 1) kids s = .ok (joined 2 kids) s := by
 rw [ZdT, if_pos h]
theorem ZCc {P : Int → St → Out (Zk × Bool)} {k : Nat} {kids : List Zk} {s : St} (h : s.us = [] ∨ peek s.us ≠ 124) : ZnK P (k + 1) kids s = .ok (joined 3 kids) s := by
 have e : wd [124] s = none := by
  unfold wd
  obtain ⟨us, pos, gr, rf⟩ := s
  cases us with
  | nil => rfl
  | cons x r =>
   obtain ⟨u, n⟩ := x
   have h' : u ≠ 124 := by
    rcases h with h | h
    ·simp at h
    ·exact h
   simp only [isW]
   rw [if_neg h']
 rw [ZnK, e]
structure Reads (us : List Un) (n : Zk) (s : St) : Prop where
 alt : pAlt 32 ⟨us, 0, 0, []⟩ = .ok n s
 en : s.us = []
 rf : s.rf.find? (fun x => decide (s.gr < x.group)) = none
 fo : wd [40, 63, 105, 41] ⟨us, 0, 0, []⟩ = none
 res : ZmX us = (⟨n, s.gr, false⟩, ⟨0, 0⟩)
theorem Reads.head {us : List Un} {n : Zk} {s : St} (h : Reads us n s) : peek us ≠ 63 := by
 intro e
 have hs : stops us = false := by
  cases us with
  | nil => exact absurd e (by decide)
  | cons x r => unfold stops; rw [e]; rfl
 have ha : Zgm (pP 31) ⟨us, 0, 0, []⟩ = .bad 23 0 := by
  unfold Zgm
  simp only [e]
  rfl
 have := h.alt
 rw [ZsI, Zls, pCat, ZDW hs ha] at this
 simp [Out.bind] at this

end Go.Proofs.YtocikhhkicahoaaDoor.N2
end
section
namespace Go.Proofs.YtocikhhkicahoaaDoor.N2
open Go Go.Abs Go.Proofs.Unis Go.Proofs.Norm
set_option maxRecDepth 100000
abbrev bytes (x : ByteArray) : List UInt8 := x.data.toList
theorem Zif {x y : ByteArray} (h : (bytes x).length + (bytes y).length ≤ 1000000) : sadd x y = some (x ++ y) := by
 unfold sadd
 have h1 : x.size = (bytes x).length := rfl
 have h2 : y.size = (bytes y).length := rfl
 have h3 : IntKind.i64.max = 9223372036854775807 := by decide
 rw [if_neg (by rw [h1, h2, h3]; omega)]
theorem Z9b (x y : ByteArray) : bytes (x ++ y) = bytes x ++ bytes y := by
 show (x ++ y).data.toList = _
 rw [ByteArray.data_append, Array.toList_append]
theorem Zvl {x : ByteArray} (h : (bytes x).length ≤ 256) : ZdJ x = ZmX (unis (bytes x)) := by
 unfold ZdJ
 rw [if_neg (by show ¬ 256 < (bytes x).length; omega)]
theorem ZqY (x : ByteArray) : x.size = (bytes x).length := rfl
end Go.Proofs.YtocikhhkicahoaaDoor.N2
end
section
namespace Go.Proofs.YtocikhhkicahoaaDoor.N2
open Go Go.Abs Go.Proofs.Unis Go.Proofs.Norm
set_option maxRecDepth 100000
inductive NE : Zk → Zk → Prop
 | refl (n : Zk) : NE n n
 | row (k : Int) (l l' : List Zk) : k = 2 ∨ k = 3 → l.length = l'.length → (∀ (i : Nat) (x y : Zk), l[i]? = some x → l'[i]? = some y → NE x y) → NE ⟨k, 0, 0, 0, 0, [], l⟩ ⟨k, 0, 0, 0, 0, [], l'⟩
 | rep (lo hi m : Int) (x y : Zk) : NE x y → NE ⟨4, lo, hi, m, 0, [], [x]⟩ ⟨4, lo, hi, m, 0, [], [y]⟩
 | group (r r' : Int) (x y : Zk) : NE x y → NE ⟨5, 0, 0, 0, r, [], [x]⟩ ⟨5, 0, 0, 0, r', [], [y]⟩
 | look (m : Int) (x y : Zk) : NE x y → NE ⟨7, 0, 0, m, 0, [], [x]⟩ ⟨7, 0, 0, m, 0, [], [y]⟩
 | atomic (x y : Zk) : NE x y → NE ⟨8, 0, 0, 0, 0, [], [x]⟩ ⟨8, 0, 0, 0, 0, [], [y]⟩
def LE (l l' : List Zk) : Prop := l.length = l'.length ∧ ∀ (i : Nat) (x y : Zk), l[i]? = some x → l'[i]? = some y → NE x y
theorem LE.nil : LE [] [] := ⟨rfl, by simp⟩
def RunE (t : List Un) (pre : List Int) (δ : Int) {α : Type} (R : α → α → Prop) (x y : Out α) : Prop := ∀ v a' v' b', x = .ok v a' → y = .ok v' b' → R v v' ∧ Like t pre δ a' b'
section
variable {t : List Un} (ht : Tail t) {pre : List Int} {δ : Int}
theorem Runs.e {α : Type} {R : α → α → Prop} (hR : ∀ v, R v v) {x y : Out α} (h : Runs t pre δ x y) : RunE t pre δ R x y := by
 intro v a' v' b' e1 e2
 obtain ⟨b'', e3, l⟩ := h v a' e1
 rw [e2] at e3
 cases e3
 exact ⟨hR v, l⟩
theorem RunE.bad {α : Type} {R : α → α → Prop} {c p : Int} {y : Out α} : RunE t pre δ R (.bad c p) y := by intro v a v' b e; simp at e
theorem RunE.bind {α β : Type} {R : α → α → Prop} {R' : β → β → Prop} {x y : Out α} {f h : α → St → Out β} (hx : RunE t pre δ R x y) (k : ∀ v v' a b, R v v' → Like t pre δ a b → RunE t pre δ R' (f v a) (h v' b)) : RunE t pre δ R' (x.bind f) (y.bind h) := by
 intro v a' v' b' e1 e2
 obtain ⟨u, s1, h1, h2⟩ := bind_ok e1
 obtain ⟨u', s1', h1', h2'⟩ := bind_ok e2
 obtain ⟨hr, hl⟩ := hx u s1 u' s1' h1 h1'
 exact k u u' s1 s1' hr hl v a' v' b' h2 h2'
theorem RunE.ok {α : Type} {R : α → α → Prop} {v v' : α} {a b : St} (hr : R v v') (h : Like t pre δ a b) : RunE t pre δ R (.ok v a) (.ok v' b) := by
 intro u a' u' b' e1 e2; cases e1; cases e2; exact ⟨hr, h⟩
def NB (x y : Zk × Bool) : Prop := NE x.1 y.1 ∧ x.2 = y.2
theorem NB.refl (x : Zk × Bool) : NB x x := ⟨.refl _, rfl⟩
variable {P Q : Int → St → Out (Zk × Bool)} (HP : ∀ p q a b, Like t pre δ a b → RunE t pre δ NB (P p a) (Q q b))
end
end Go.Proofs.YtocikhhkicahoaaDoor.N2
end
section
namespace Go.Proofs.YtocikhhkicahoaaDoor.N2
open Go Go.Abs Go.Proofs.Unis Go.Proofs.Norm
set_option maxRecDepth 100000

end Go.Proofs.YtocikhhkicahoaaDoor.N2
end
