/- A text read again elsewhere. No condition. -/
import Derived.Test.YtadodmjdkphddaaDoorPlainA
import Derived.Test.YtadodmjdkphddaaDoorPlainB

section
set_option linter.unusedSimpArgs false
set_option linter.unusedVariables false
namespace Go.Proofs.YtadodmjdkphddaaDoor.N2
open Go Go.Abs Go.Proofs.Norm
set_option maxRecDepth 100000
def Tail (t : List Un) : Prop := t = [] ∨ ∃ n v, t = (41, n) :: v
structure Like (t : List Un) (pre : List Int) (δ : Int) (a b : St) : Prop where
 us : b.us = a.us ++ t
 gr : b.gr = a.gr + δ
 rf : b.rf.map (·.group) = pre ++ a.rf.map (·.group)
theorem bind_ok {α β : Type} {x : Out α} {f : α → St → Out β} {v : β} {s : St} (h : x.bind f = .ok v s) : ∃ u s1, x = .ok u s1 ∧ f u s1 = .ok v s := by
 cases x with
 | bad c p => simp [Out.bind] at h
 | ok u s1 => exact ⟨u, s1, rfl, h⟩
def Mono {α : Type} (P : Int → St → Out α) : Prop := ∀ p s v s', P p s = .ok v s' → s.gr ≤ s'.gr
section
variable {P : Int → St → Out (Z8 × Bool)} (M : Mono P)
include M
end
end Go.Proofs.YtadodmjdkphddaaDoor.N2
end
section
set_option linter.unusedSimpArgs false
set_option linter.unusedVariables false
namespace Go.Proofs.YtadodmjdkphddaaDoor.N2
open Go Go.Abs Go.Proofs.Norm
set_option maxRecDepth 100000
section
variable {t : List Un} (ht : Tail t) {pre : List Int} {δ : Int}
theorem Zq2 {us : List Un} (h : us ≠ []) : peek (us ++ t) = peek us := by
 cases us with
 | nil => exact absurd rfl h
 | cons x r => rfl
theorem Like.ne {a b : St} (h : Like t pre δ a b) (hn : a.us ≠ []) : b.us ≠ [] := by
 rw [h.us]
 simp [hn]
theorem Like.peek {a b : St} (h : Like t pre δ a b) (hn : a.us ≠ []) : peek b.us = N2.peek a.us := by rw [h.us, Zq2 hn]
theorem Like.take {a b : St} (h : Like t pre δ a b) (hn : a.us ≠ []) : Like t pre δ (take a) (take b) := by
 obtain ⟨ua, pa, ga, ra⟩ := a
 obtain ⟨ub, pb, gb, rb⟩ := b
 cases ua with
 | nil => exact absurd rfl hn
 | cons x r =>
  have h1 := h.us
  simp only [List.cons_append] at h1
  subst h1
  exact ⟨rfl, h.gr, h.rf⟩
def Runs (t : List Un) (pre : List Int) (δ : Int) {α : Type} (x y : Out α) : Prop := ∀ v a', x = .ok v a' → ∃ b', y = .ok v b' ∧ Like t pre δ a' b'
theorem Runs.ok {α : Type} {v : α} {a b : St} (h : Like t pre δ a b) : Runs t pre δ (.ok v a) (.ok v b) := by
 intro v' a' e; cases e; exact ⟨b, rfl, h⟩
theorem Runs.bad {α : Type} {c p : Int} {y : Out α} : Runs t pre δ (.bad c p) y := by intro v a e; simp at e
theorem Runs.bind {α β : Type} {x y : Out α} {f g : α → St → Out β} (h : Runs t pre δ x y) (k : ∀ v a b, x = .ok v a → Like t pre δ a b → Runs t pre δ (f v a) (g v b)) : Runs t pre δ (x.bind f) (y.bind g) := by
 intro v a' e
 obtain ⟨u, s1, h1, h2⟩ := bind_ok e
 obtain ⟨b1, e1, l1⟩ := h u s1 h1
 obtain ⟨b', e2, l2⟩ := k u s1 b1 h1 l1 v a' h2
 exact ⟨b', by rw [e1]; exact e2, l2⟩
end
end Go.Proofs.YtadodmjdkphddaaDoor.N2
end
section
set_option linter.unusedSimpArgs false
set_option linter.unusedVariables false
namespace Go.Proofs.YtadodmjdkphddaaDoor.N2
open Go Go.Abs Go.Proofs.Norm
set_option maxRecDepth 100000
def RunD (t : List Un) (pre : List Int) (δ : Int) (D : Prop) {α : Type} (x y : Out α) (g : Int) : Prop := ∀ v a', x = .ok v a' → (δ = 0 ∨ a'.gr = g) → (∃ b', y = .ok v b' ∧ Like t pre δ a' b') ∨ (D ∧ ∃ p, y = .bad 25 p)
section
variable {t : List Un} (ht : Tail t) {pre : List Int} {δ : Int} {D : Prop}
theorem Runs.d {α : Type} {x y : Out α} {g : Int} (h : Runs t pre δ x y) : RunD t pre δ D x y g := fun v a' e _ => .inl (h v a' e)
theorem RunD.bind {α β : Type} {x y : Out α} {f h : α → St → Out β} {g : Int} (hx : RunD t pre δ D x y g) (m1 : ∀ v a, x = .ok v a → g ≤ a.gr) (m2 : ∀ v a u s, x = .ok v a → f v a = .ok u s → a.gr ≤ s.gr)
  (k : ∀ v a b, x = .ok v a → Like t pre δ a b → RunD t pre δ D (f v a) (h v b) a.gr) : RunD t pre δ D (x.bind f) (y.bind h) g := by
 intro v a' e hd
 obtain ⟨u, s1, h1, h2⟩ := bind_ok e
 have q1 := m1 _ _ h1
 have q2 := m2 _ _ _ _ h1 h2
 rcases hx u s1 h1 (by omega) with ⟨b1, e1, l1⟩ | ⟨hD, p, hp⟩
 ·rcases k u s1 b1 h1 l1 v a' h2 (by omega) with ⟨b', e2, l2⟩ | ⟨hD, p, hp⟩
  ·exact .inl ⟨b', by rw [e1]; exact e2, l2⟩
  ·exact .inr ⟨hD, p, by rw [e1]; exact hp⟩
 ·exact .inr ⟨hD, p, by rw [hp]; rfl⟩
variable {P Q : Int → St → Out (Z8 × Bool)} (M : Mono P) (HP : ∀ p q a b, Like t pre δ a b → RunD t pre δ D (P p a) (Q q b) a.gr)
theorem Like.len {a b : St} (h : Like t pre δ a b) : a.us.length + 1 ≤ b.us.length + 1 := by
 rw [h.us, List.length_append]
 omega
end
end Go.Proofs.YtadodmjdkphddaaDoor.N2
end
section
set_option linter.unusedSimpArgs false
set_option linter.unusedVariables false
namespace Go.Proofs.YtadodmjdkphddaaDoor.N2
open Go Go.Abs Go.Proofs.Norm
set_option maxRecDepth 100000
abbrev pP (d : Nat) : Int → St → Out (Z8 × Bool) := fun p s => Zeb (pAlt d) p s
theorem Zpr (d : Nat) (s : St) : pAlt (d + 1) s = Zc2 (pP d) s := rfl
theorem Zq7 {kid : Z8} {may : Bool} {s : St} (h : s.us = [] ∨ (peek s.us ≠ 42 ∧ peek s.us ≠ 43 ∧ peek s.us ≠ 63 ∧ peek s.us ≠ 123)) : pRep kid may s = .ok kid s := by
 have k : ∀ c, c = 42 ∨ c = 43 ∨ c = 63 ∨ c = 123 → wd [c] s = none := by
  intro c hc
  unfold wd
  obtain ⟨us, pos, gr, rf⟩ := s
  cases us with
  | nil => rfl
  | cons x r =>
   obtain ⟨u, n⟩ := x
   have h' : u ≠ 42 ∧ u ≠ 43 ∧ u ≠ 63 ∧ u ≠ 123 := by
    rcases h with h | h
    ·simp at h
    ·exact h
   simp only [isW]
   rw [if_neg (by omega)]
 unfold pRep
 rw [k 42 (by omega), k 43 (by omega), k 63 (by omega), k 123 (by omega)]
theorem Zpv {P : Int → St → Out (Z8 × Bool)} {k : Nat} {kids : List Z8} {s s1 s2 : St} {m : Z8 × Bool} {n : Z8} (h : stops s.us = false) (h1 : Z8C P s = .ok m s1) (h2 : pRep m.1 m.2 s1 = .ok n s2) :
  Z9n P (k + 1) kids s = Z9n P k (kids ++ [n]) s2 := by
 rw [Z9n, if_neg (by simp [h]), h1]
 dsimp only [Out.bind]
 rw [h2]
theorem Zqs {P : Int → St → Out (Z8 × Bool)} {k : Nat} {kids : List Z8} {s : St} {c p : Int} (h : stops s.us = false) (h1 : Z8C P s = .bad c p) : Z9n P (k + 1) kids s = .bad c p := by
 rw [Z9n, if_neg (by simp [h]), h1]
 rfl
theorem Zqt {P : Int → St → Out (Z8 × Bool)} {k : Nat} {kids : List Z8} {s : St} (h : stops s.us = true) : Z9n P (k + 1) kids s = .ok (joined 2 kids) s := by
 rw [Z9n, if_pos h]
structure Reads (us : List Un) (n : Z8) (s : St) : Prop where
 alt : pAlt 32 ⟨us, 0, 0, []⟩ = .ok n s
 en : s.us = []
 rf : s.rf.find? (fun x => decide (s.gr < x.group)) = none
 fo : wd [40, 63, 105, 41] ⟨us, 0, 0, []⟩ = none
 res : ZfI us = (⟨n, s.gr, false⟩, ⟨0, 0⟩)
theorem Reads.head {us : List Un} {n : Z8} {s : St} (h : Reads us n s) : peek us ≠ 63 := by
 intro e
 have hs : stops us = false := by
  cases us with
  | nil => exact absurd e (by decide)
  | cons x r => unfold stops; rw [e]; rfl
 have ha : Z8C (pP 31) ⟨us, 0, 0, []⟩ = .bad 23 0 := by
  unfold Z8C
  simp only [e]
  rfl
 have := h.alt
 rw [Zpr, Zc2, pCat, Zqs hs ha] at this
 simp [Out.bind] at this
end Go.Proofs.YtadodmjdkphddaaDoor.N2
end
section
set_option linter.unusedSimpArgs false
set_option linter.unusedVariables false
namespace Go.Proofs.YtadodmjdkphddaaDoor.N2
open Go Go.Abs Go.Proofs.Norm
set_option maxRecDepth 100000
end Go.Proofs.YtadodmjdkphddaaDoor.N2
end
section
set_option linter.unusedSimpArgs false
set_option linter.unusedVariables false
namespace Go.Proofs.YtadodmjdkphddaaDoor.N2
open Go Go.Abs Go.Proofs.Unis Go.Proofs.Norm
set_option maxRecDepth 100000
abbrev bytes (x : ByteArray) : List UInt8 := x.data.toList
theorem Zr6 {x y : ByteArray} (h : (bytes x).length + (bytes y).length ≤ 1000000) : sadd x y = some (x ++ y) := by
 unfold sadd
 have h1 : x.size = (bytes x).length := rfl
 have h2 : y.size = (bytes y).length := rfl
 have h3 : IntKind.i64.max = 9223372036854775807 := by decide
 rw [if_neg (by rw [h1, h2, h3]; omega)]
theorem ZiI (x y : ByteArray) : bytes (x ++ y) = bytes x ++ bytes y := by
 show (x ++ y).data.toList = _
 rw [ByteArray.data_append, Array.toList_append]
theorem ZkJ {x : ByteArray} (h : (bytes x).length ≤ 256) : Z89 x = ZfI (unis (bytes x)) := by
 unfold Z89
 rw [if_neg (by show ¬ 256 < (bytes x).length; omega)]
end Go.Proofs.YtadodmjdkphddaaDoor.N2
end
section
set_option linter.unusedSimpArgs false
set_option linter.unusedVariables false
namespace Go.Proofs.YtadodmjdkphddaaDoor.N2
open Go Go.Abs Go.Proofs.Unis Go.Proofs.Norm
set_option maxRecDepth 100000
def encN (n : Nat) : List Nat :=
 if n < 128 then [n] else if n < 2048 then [192 + n / 64, 128 + n % 64]
 else if n < 65536 then [224 + n / 4096, 128 + n / 64 % 64, 128 + n % 64]
 else [240 + n / 262144, 128 + n / 4096 % 64, 128 + n / 64 % 64, 128 + n % 64]
def encB (n : Nat) : List UInt8 := (encN n).map UInt8.ofNat
theorem Zqn {n : Int} (h0 : 0 ≤ n) (h1 : n < 256) : IntKind.u8.wrap n = n := by
 show (if (false && decide (n % 256 ≥ 128)) = true then n % 256 - 256 else n % 256) = n
 rw [if_neg (by simp)]
 omega
theorem Znf (n k : Nat) : Int.tdiv (n : Int) (k : Int) = ((n / k : Nat) : Int) := rfl
theorem Zng (n k : Nat) : Int.tmod (n : Int) (k : Int) = ((n % k : Nat) : Int) := rfl
theorem Zme {n : Nat} (h : n ≤ 1114111) : Z9j (n : Int) = some ((encN n).map fun (x : Nat) => (x : Int)) := by
 have e : ∀ (a : Nat) (z : Int) (b : Nat), z = a → a + b < 256 → IntKind.u8.wrap (IntKind.i64.wrap (z + (b : Int))) = ((a + b : Nat) : Int) := by
  intro a z b hz hab
  subst hz
  rw [wrap_i64 (by omega) (by omega), Zqn (by omega) (by omega)]
  omega
 have w : ∀ a : Nat, a ≤ 1114111 → IntKind.i64.wrap (a : Int) = (a : Int) := fun a ha => wrap_i64 (by omega) (by omega)
 have d1 : Int.tdiv (n : Int) 64 = ((n / 64 : Nat) : Int) := Znf n 64
 have d2 : Int.tdiv (n : Int) 4096 = ((n / 4096 : Nat) : Int) := Znf n 4096
 have d3 : Int.tdiv (n : Int) 262144 = ((n / 262144 : Nat) : Int) := Znf n 262144
 have m1 : Int.tmod (n : Int) 64 = ((n % 64 : Nat) : Int) := Zng n 64
 have m2 : Int.tmod ((n / 64 : Nat) : Int) 64 = ((n / 64 % 64 : Nat) : Int) := Zng _ 64
 have m3 : Int.tmod ((n / 4096 : Nat) : Int) 64 = ((n / 4096 % 64 : Nat) : Int) := Zng _ 64
 have w1 := w (n / 64) (by omega)
 have w2 := w (n / 4096) (by omega)
 have w3 := w (n / 262144) (by omega)
 apply ZgW
 unfold Z9f Z7f Z7g Z7h
 rw [d1, d2, d3, w1, w2, w3, m1, m2, m3]
 unfold encN
 by_cases c1 : n < 128
 ·rw [if_pos (Z2v (by omega)), if_pos c1, Zqn (by omega) (by omega)]
  rfl
 rw [if_neg (Z2e (by omega)), if_neg c1]
 by_cases c2 : n < 2048
 ·rw [if_pos (Z2v (by omega)), if_pos c2, e 192 192 (n / 64) rfl (by omega), e 128 128 (n % 64) rfl (by omega)]
  rfl
 rw [if_neg (Z2e (by omega)), if_neg c2]
 by_cases c3 : n < 65536
 ·rw [if_pos (Z2v (by omega)), if_pos c3, e 224 224 (n / 4096) rfl (by omega), e 128 128 (n / 64 % 64) rfl (by omega), e 128 128 (n % 64) rfl (by omega)]
  rfl
 rw [if_neg (Z2e (by omega)), if_neg c3, e 240 240 (n / 262144) rfl (by omega), e 128 128 (n / 4096 % 64) rfl (by omega), e 128 128 (n / 64 % 64) rfl (by omega), e 128 128 (n % 64) rfl (by omega)]
 rfl
theorem Zqb {n : Nat} : bytes (strI ((encN n).map fun (x : Nat) => (x : Int))) = encB n := by
 show (List.map _ _) = _
 unfold encB
 rw [List.map_map]
 rfl
theorem Z7o {a : Nat} {l : List UInt8} (h : a < 256) : nth (UInt8.ofNat a :: l) 0 = a := by
 show (UInt8.ofNat a).toNat = a
 rw [UInt8.toNat_ofNat']
 omega
theorem Z6M (b : UInt8) (l : List UInt8) (j : Nat) : nth (b :: l) (j + 1) = nth l j := by
 unfold nth
 rw [List.getD_cons_succ]
theorem dec2 {n L c d : Nat} (h0 : 128 ≤ n) (h1 : n < 2048) (hL : 1 < L) : dec L (192 + n / 64) (128 + n % 64) c d = (n, 2) := by
 unfold dec
 rw [if_neg (by omega), if_pos (by omega), if_pos (by omega)]
 congr 1
 omega
theorem dec3 {n L d : Nat} (h0 : 2048 ≤ n) (h1 : n < 65536) (hv : n < 55296 ∨ 57344 ≤ n) (hL : 2 < L) : dec L (224 + n / 4096) (128 + n / 64 % 64) (128 + n % 64) d = (n, 3) := by
 unfold dec
 have e : (224 + n / 4096) % 16 * 4096 + (128 + n / 64 % 64) % 64 * 64 + (128 + n % 64) % 64 = n := by omega
 rw [if_neg (by omega), if_neg (by omega), if_pos (by omega), e, if_pos ⟨h0, (ZfT n).2 (by omega)⟩]
theorem dec4 {n L : Nat} (h0 : 65536 ≤ n) (h1 : n ≤ 1114111) (hL : 3 < L) : dec L (240 + n / 262144) (128 + n / 4096 % 64) (128 + n / 64 % 64) (128 + n % 64) = (n, 4) := by
 unfold dec
 have e : (240 + n / 262144) % 8 * 262144 + (128 + n / 4096 % 64) % 64 * 4096 + (128 + n / 64 % 64) % 64 * 64 + (128 + n % 64) % 64 = n := by omega
 rw [if_neg (by omega), if_neg (by omega), if_neg (by omega), if_pos (by omega), e, if_pos ⟨h0, (ZfT n).2 (by omega)⟩]
theorem Zl1 {n : Nat} (h : n ≤ 1114111) (hv : n < 55296 ∨ 57344 ≤ n) (l : List UInt8) : unis (encB n ++ l) = ((n : Int), ((encN n).length : Int)) :: unis l := by
 unfold encB encN
 by_cases c1 : n < 128
 ·rw [if_pos c1]
  have : (UInt8.ofNat n).toNat = n := by rw [UInt8.toNat_ofNat']; omega
  show unis (UInt8.ofNat n :: l) = _
  rw [ZeZ (by omega), this]
  rfl
 rw [if_neg c1]
 by_cases c2 : n < 2048
 ·rw [if_pos c2]
  show unis (UInt8.ofNat (192 + n / 64) :: UInt8.ofNat (128 + n % 64) :: l) = _
  have eU : U (UInt8.ofNat (192 + n / 64) :: UInt8.ofNat (128 + n % 64) :: l) = ((n : Int), 2) := by
   unfold U
   rw [Z6M, Z7o (by omega), Z7o (by omega), dec2 (by omega) c2 (by simp), Zac (.inl (by decide))]
  rw [Z7c (by simp), eU]
  rfl
 rw [if_neg c2]
 by_cases c3 : n < 65536
 ·rw [if_pos c3]
  show unis (UInt8.ofNat (224 + n / 4096) :: UInt8.ofNat (128 + n / 64 % 64) :: UInt8.ofNat (128 + n % 64) :: l) = _
  have eU : U (UInt8.ofNat (224 + n / 4096) :: UInt8.ofNat (128 + n / 64 % 64) :: UInt8.ofNat (128 + n % 64) :: l) = ((n : Int), 3) := by
   unfold U
   rw [Z6M, Z6M _ _ 1, Z6M _ _ 0, Z7o (by omega), Z7o (by omega), Z7o (by omega), dec3 (by omega) c3 hv (by simp), Zac (.inl (by decide))]
  rw [Z7c (by simp), eU]
  rfl
 rw [if_neg c3]
 show unis (UInt8.ofNat (240 + n / 262144) :: UInt8.ofNat (128 + n / 4096 % 64) :: UInt8.ofNat (128 + n / 64 % 64) :: UInt8.ofNat (128 + n % 64) :: l) = _
 have eU : U (UInt8.ofNat (240 + n / 262144) :: UInt8.ofNat (128 + n / 4096 % 64) :: UInt8.ofNat (128 + n / 64 % 64) :: UInt8.ofNat (128 + n % 64) :: l) = ((n : Int), 4) := by
  unfold U
  rw [Z6M, Z6M _ _ 1, Z6M _ _ 0, Z6M _ _ 2, Z6M _ _ 1, Z6M _ _ 0, Z7o (by omega), Z7o (by omega), Z7o (by omega), Z7o (by omega), dec4 (by omega) h (by simp), Zac (.inl (by decide))]
 rw [Z7c (by simp), eU]
 rfl
end Go.Proofs.YtadodmjdkphddaaDoor.N2
end
