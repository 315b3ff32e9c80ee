/- The program's parser is the plain function. No condition. -/
import Derived.Test.YtadodmjdkphddaaDoorPlainA
import Derived.Test.YtadodmjdkphddaaDoorTypB
import Derived.Test.YtadodmjdkphddaaDoorTypC

section
set_option linter.unusedSimpArgs false
set_option linter.unusedVariables false
namespace Go.Proofs.YtadodmjdkphddaaDoor.N2
open Go Go.Abs Go.Proofs.Unis Go.Proofs.Norm
set_option maxRecDepth 100000
theorem Zpe {a b : ByteArray} : seq a b = true ↔ a = b := by
 unfold seq
 rw [← beq_toListBytes]
 obtain ⟨⟨x⟩⟩ := a
 obtain ⟨⟨y⟩⟩ := b
 show ((⟨x⟩ : Array UInt8) == ⟨y⟩) = true ↔ _
 simp
theorem Z87 {α : Type} (l : List α) (i : Nat) : lget l (i : Int) = l[i]? := by simp [lget]
def bl (l : List UInt8) : List Int := l.map fun b => (b.toNat : Int)
theorem Z7N (l : List UInt8) : (bl l).length = l.length := by simp [bl]
theorem Znq (x : ByteArray) : Z36 x = bl x.data.toList := rfl
theorem Zr9 (l : List UInt8) : strI (bl l) = ⟨l.toArray⟩ := by
 unfold strI bl
 rw [List.map_map]
 have : (fun n : Int => UInt8.ofNat n.toNat) ∘ (fun b : UInt8 => (b.toNat : Int)) = id := by
  funext b
  simp
 rw [this, List.map_id]
theorem ZoQ (l : List UInt8) (i j : Nat) (h : i ≤ j) (hj : j ≤ l.length) : lsl (bl l) (i : Int) (j : Int) = some (bl ((l.drop i).take (j - i))) := by
 unfold lsl
 rw [if_pos (by rw [Z7N]; omega)]
 simp only [Int.toNat_natCast, bl, ← List.map_take, ← List.map_drop, List.drop_take]
theorem Zmk (l : List UInt8) (h : l ≠ []) : Z68 (bl l) = some (((Lib.decodeGo ⟨l.toArray⟩).1 : Int), ((Lib.decodeGo ⟨l.toArray⟩).2 : Int)) := by
 refine Z1e (fun _ _ ha hb => RRun.uniq ZaX (ha .sh) (hb .sh)) fun o => ?_
 have e : EE 53 [(.p (.lst o ((bl l).map (eI .u8))))] [] = some ((.p (.tup [(.v (.int .i32 (Lib.decodeGo ⟨l.toArray⟩).1)), (.v (.int .i64 (Lib.decodeGo ⟨l.toArray⟩).2))])), []) := by
  rw [show EE 53 = E PP XX HH 53 from rfl, Zm8 (P := PP) (X := XX) (H := HH) (f := 53) (m := Zgh) (by kernel_rfl)]
  have hb : (bl l).map (eI .u8) = l.map fun b => .v (.int .u8 b.toNat) := by
   unfold bl
   rw [List.map_map]
   rfl
  rw [hb]
  cases l with
  | nil => exact absurd rfl h
  | cons a r =>
   show (ZaY ((a :: r).map fun b => .v (.int .u8 b.toNat))).map _ = _
   rw [Zhg]
   rfl
 exact ⟨_, e, [], by simp⟩
theorem ZkG (l : List UInt8) (i : Nat) (h : i < l.length) : Z9a (bl l) (i : Int) = some ((U (l.drop i)).1, ((U (l.drop i)).2 : Int)) := by
 have hne : l.drop i ≠ [] := by
  intro e
  have := congrArg List.length e
  simp at this
  omega
 apply ZiE
 unfold ZaR
 rw [if_neg (by simp), if_neg (by simp [Z7N]; omega)]
 unfold Z8l
 have hl : lsl (bl l) (i : Int) ((bl l).length : Int) = some (bl (l.drop i)) := by
  rw [Z7N, ZoQ l i l.length (by omega) (Nat.le_refl _), List.take_of_length_le (by simp)]
 rw [hl, Option.bind_some, Zmk _ hne, Option.bind_some]
 have hd := Zrg hne
 have hU : U (l.drop i) = Z7C (nth (l.drop i) 0) (Lib.decodeGo ⟨(l.drop i).toArray⟩) := by
  rw [hd]; rfl
 have h0 : nth (l.drop i) 0 = (l.getD i 0).toNat := by simp [nth]
 have hg : lget (bl l) (i : Int) = some (((l.getD i 0).toNat : Nat) : Int) := by
  rw [Z87, bl, List.getElem?_map, List.getD_eq_getElem?_getD, List.getElem?_eq_getElem h]
  rfl
 have hlt : (l.getD i 0).toNat < 256 := UInt8.toNat_lt _
 have hb := (Zj5 ⟨(l.drop i).toArray⟩).1
 rw [hU, Z7C]
 simp only [beq_iff_eq]
 have r6 : Z6b ((Lib.decodeGo ⟨(l.drop i).toArray⟩).1 : Int) ((Lib.decodeGo ⟨(l.drop i).toArray⟩).2 : Int) = some (((Lib.decodeGo ⟨(l.drop i).toArray⟩).1 : Int), ((Lib.decodeGo ⟨(l.drop i).toArray⟩).2 : Int)) := by
  unfold Z6b
  rw [wrap_i64 (by omega) (by omega)]
 by_cases h1 : (Lib.decodeGo ⟨(l.drop i).toArray⟩).1 = 65533
 ·rw [if_pos (by omega)]
  by_cases h2 : (Lib.decodeGo ⟨(l.drop i).toArray⟩).2 = 1
  ·rw [if_pos (by omega), if_pos ⟨h1, h2⟩]
   unfold Z8m
   rw [hg, Option.bind_some, wrap_i64 (n := ((l.getD i 0).toNat : Int)) (by omega) (by omega), wrap_i64 (by omega) (by omega), h0]
   rfl
  ·rw [if_neg (by omega), if_neg (fun h => h2 h.2), r6]
 ·rw [if_neg (by omega), if_neg (fun h => h1 h.1), r6]
def At (l : List UInt8) (s : St) : Prop := ∃ i : Nat, i ≤ l.length ∧ s.pos = (i : Int) ∧ s.us = unis (l.drop i)
theorem At.nil {l : List UInt8} {s : St} (h : At l s) : s.us = [] ↔ s.pos = l.length := by
 obtain ⟨i, h1, h2, h3⟩ := h
 rw [h3, h2]
 constructor
 ·intro e
  by_cases hn : l.drop i = []
  ·have := congrArg List.length hn
   simp at this
   omega
  ·rw [Z7c hn] at e
   simp at e
 ·intro e
  rw [List.drop_of_length_le (by omega)]
  rfl
theorem At.len {l : List UInt8} {s : St} (h : At l s) : s.us.length ≤ l.length ∧ 0 ≤ s.pos ∧ s.pos ≤ l.length := by
 obtain ⟨i, h1, h2, h3⟩ := h
 have := Zl2 _ (l.drop i) (Nat.le_refl _)
 rw [List.length_drop] at this
 rw [h3]
 omega
theorem At.cons {l : List UInt8} {s : St} (h : At l s) (hn : s.us ≠ []) : ∃ (i : Nat), i < l.length ∧ s.pos = (i : Int) ∧ peek s.us = (U (l.drop i)).1 ∧ (take s).pos = (i : Int) + ((U (l.drop i)).2 : Int) ∧ (take s).us = unis (l.drop (i + (U (l.drop i)).2)) ∧ i + (U (l.drop i)).2 ≤ l.length ∧ s.us.length = (take s).us.length + 1 := by
 have hp : s.pos ≠ l.length := fun e => hn (h.nil.2 e)
 obtain ⟨i, h1, h2, h3⟩ := h
 have hi : i < l.length := by omega
 have hne : l.drop i ≠ [] := by
  intro e
  have := congrArg List.length e
  simp at this
  omega
 have hz := Zrf hne
 rw [List.length_drop] at hz
 rw [Z7c hne] at h3
 refine ⟨i, hi, h2, by rw [h3]; rfl, ?_, ?_, by omega, ?_⟩
 ·unfold take
  rw [h3]
  show s.pos + _ = _
  rw [h2]
 ·unfold take
  rw [h3]
  show unis _ = _
  rw [List.drop_drop]
 ·unfold take
  rw [h3]
  rfl
theorem At.take {l : List UInt8} {s : St} (h : At l s) : At l (take s) := by
 by_cases hn : s.us = []
 ·have : N2.take s = s := by unfold N2.take; rw [hn]
  rw [this]
  exact h
 ·obtain ⟨i, h1, h2, h3, h4, h5, h6, h7⟩ := h.cons hn
  exact ⟨i + (U (l.drop i)).2, h6, by rw [h4]; omega, h5⟩
theorem At.range {l : List UInt8} {s : St} (h : At l s) : peek s.us = -1 ∧ s.us = [] ∨ 0 ≤ peek s.us ∧ peek s.us ≤ 1114367 ∧ s.us ≠ [] := by
 by_cases hn : s.us = []
 ·exact .inl ⟨by rw [hn]; rfl, hn⟩
 ·obtain ⟨i, _, _, h3, _⟩ := h.cons hn
  have := Zqq (l.drop i)
  exact .inr ⟨by omega, by omega, hn⟩
theorem Z6k {l : List UInt8} {s : St} (h : At l s) (g d : Int) (rf : List Zq) (f : Zj) : Z1Q ⟨bl l, s.pos, g, d, rf, f⟩ = some (peek s.us) := by
 apply Zdm
 unfold Z6o
 by_cases hn : s.us = []
 ·have := h.nil.1 hn
  rw [if_pos (by simp [Z7N]; omega), hn]
  rfl
 ·obtain ⟨i, h1, h2, h3, _⟩ := h.cons hn
  rw [if_neg (by simp [Z7N]; omega)]
  unfold Z5w
  simp only [h2]
  rw [ZkG l i h1, Option.bind_some, h3]
theorem Z8b {l : List UInt8} {s : St} (h : At l s) (hl : l.length ≤ 100000) (hn : s.us ≠ []) : Z2f (bl l) s.pos = some (peek s.us, (take s).pos) := by
 obtain ⟨i, h1, h2, h3, h4, h5, h6, _⟩ := h.cons hn
 apply Zdn
 unfold Z6p
 rw [h2, ZkG l i h1, Option.bind_some, h3, h4, wrap_i64 (by omega) (by omega)]
theorem ZlO : ∀ (w : List Int) (us t : List Un), isW w us = some t → us.length = t.length + w.length
 | [], us, t, h => by
  simp only [isW, Option.some.injEq] at h
  subst h
  rfl
 | c :: w, [], t, h => by simp [isW] at h
 | c :: w, (u, n) :: us, t, h => by
  simp only [isW] at h
  split at h
  ·have := ZlO w us t h
   simp only [List.length_cons]
   omega
  ·simp at h
theorem ZiP : ∀ (w : List UInt8) (l : List UInt8), (∀ c ∈ w, c.toNat < 128) → isW (bl w) (unis l) = if l.take w.length = w then some (unis (l.drop w.length)) else none
 | [], l, _ => by simp [bl, isW]
 | c :: w, [], _ => by simp [bl, isW, ZcA]
 | c :: w, x :: l, hw => by
  have hc := hw c (List.mem_cons_self ..)
  have hc' : c.toNat < 128 := hc
  show (isW ((c.toNat : Int) :: bl w) (unis (x :: l))) = _
  by_cases hx : x.toNat < 128
  ·rw [ZeZ hx]
   simp only [isW, List.length_cons, List.take_succ_cons, List.drop_succ_cons, List.cons.injEq]
   by_cases he : x = c
   ·subst he
    simp only [if_true, true_and]
    exact ZiP w l fun d hd => hw d (List.mem_cons_of_mem _ hd)
   ·have : ¬ ((x.toNat : Int) = (c.toNat : Int)) := fun e => he (UInt8.toNat_inj.1 (by omega))
    rw [if_neg this, if_neg (fun e => he e.1)]
  ·have hU := Zre (c := x) (l := l) (by omega)
   rw [Z7c (by simp)]
   simp only [isW, List.length_cons, List.take_succ_cons, List.cons.injEq]
   rw [if_neg (by omega), if_neg (fun e => by rw [e.1] at hx; omega)]
theorem Zl4 {l : List UInt8} {s : St} (h : At l s) (hl : l.length ≤ 100000) (w : List UInt8) (hw : ∀ c ∈ w, c.toNat < 128) (hwl : w.length ≤ 100) :
  Z17 ⟨w.toArray⟩ (bl l) s.pos = some (match wd (bl w) s with | some s1 => (true, s1.pos) | none => (false, s.pos)) ∧ ∀ s1, wd (bl w) s = some s1 → At l s1 ∧ s.us.length = s1.us.length + w.length ∧ s1.gr = s.gr ∧ s1.rf = s.rf := by
 obtain ⟨i, h1, h2, h3⟩ := h
 have hW := ZiP w (l.drop i) hw
 have hsz : (⟨w.toArray⟩ : ByteArray).size = w.length := by show w.toArray.size = _; simp
 have hwd : wd (bl w) s = if (l.drop i).take w.length = w then some { s with us := unis ((l.drop i).drop w.length), pos := s.pos + w.length } else none := by
  unfold wd
  rw [h3, hW]
  by_cases hc : (l.drop i).take w.length = w
  ·rw [if_pos hc, if_pos hc]
   simp only [Z7N]
  ·rw [if_neg hc, if_neg hc]
 have hlen : (l.drop i).take w.length = w → i + w.length ≤ l.length := by
  intro e
  have := congrArg List.length e
  simp at this
  omega
 constructor
 ·apply Zdo
  unfold Z6q
  rw [hwd, h2, Z7N, hsz, wrap_i64 (n := (l.length : Int) - i) (by omega) (by omega), wrap_i64 (n := (i : Int) + (w.length : Int)) (by omega) (by omega)]
  by_cases hk : i + w.length ≤ l.length
  ·rw [if_neg (by simp; omega), show (i : Int) + (w.length : Int) = ((i + w.length : Nat) : Int) by omega, ZoQ l i _ (by omega) hk, Option.bind_some, Zr9, Nat.add_sub_cancel_left]
   by_cases hc : (l.drop i).take w.length = w
   ·rw [if_pos hc, hc, if_neg (by simp [Zpe])]
    unfold Z5y
    rw [hsz, wrap_i64 (by omega) (by omega)]
    simp
   ·have hs : seq ⟨((l.drop i).take w.length).toArray⟩ ⟨w.toArray⟩ = false := by
     cases hq : seq ⟨((l.drop i).take w.length).toArray⟩ ⟨w.toArray⟩ with
     | false => rfl
     | true =>
      have := Zpe.1 hq
      exact absurd (by simpa using congrArg (fun x : ByteArray => x.data.toList) this) hc
    rw [if_neg hc, hs, if_pos (by rfl)]
    rfl
  ·rw [if_pos (by simp; omega), if_neg (fun e => hk (hlen e))]
   rfl
 ·intro s1 e
  rw [hwd] at e
  split at e
  ·rename_i hc
   cases e
   have hk := hlen hc
   rw [if_pos hc] at hW
   have := ZlO _ _ _ hW
   rw [Z7N] at this
   exact ⟨⟨i + w.length, hk, by simp only [h2]; omega, by simp only [List.drop_drop]⟩, by rw [h3]; exact this, rfl, rfl⟩
  ·simp at e
theorem Z57 (c p : Int) (l : List UInt8) : ZT c p (bl l) 0 0 = some ((l.length : Int), c, p) := by
 apply Z98
 unfold Z5h
 rw [if_pos (by rfl)]
 unfold Z3H
 rw [Z7N]
theorem ZiK (c p c0 p0 : Int) (l : List UInt8) (h : c0 ≠ 0) : ZT c p (bl l) c0 p0 = some ((l.length : Int), c0, p0) := by
 apply Z98
 unfold Z5h
 rw [if_neg (by simpa using h)]
 unfold Z3H
 rw [Z7N]
theorem Z5R (u : Int) : Z1G u = some ⟨u, u⟩ := ZiC _ rfl
theorem ZbY (k : Int) (l : List Z8) : Z75 k l = some (joined k l) := by
 apply Zgs
 unfold Z8i
 match l with
 | [] => rfl
 | [x] => rfl
 | x :: y :: r =>
  rw [if_neg (by simp; omega), if_neg (by simp; omega)]
  rfl
end Go.Proofs.YtadodmjdkphddaaDoor.N2
end
section
set_option linter.unusedSimpArgs false
set_option linter.unusedVariables false
namespace Go.Proofs.Norm
def AscF (a : Int) : List R2 → Prop
 | [] => True
 | r :: t => (0 ≤ r.1 ∧ r.1 ≤ r.2 ∧ r.2 ≤ 1114367) ∧ a + 2 ≤ r.1 ∧ AscF r.2 t
def ZfC (a : Int) : List R2 → Int
 | [] => a
 | r :: t => ZfC r.2 t
theorem ZeK (a : Int) : ∀ (l : List R2) (r : R2), ZfC a (l ++ [r]) = r.2
 | [], r => rfl
 | x :: l, r => ZeK x.2 l r
theorem ZgK : ∀ (l : List R2) (a : Int) (r : R2), AscF a (l ++ [r]) ↔ AscF a l ∧ (0 ≤ r.1 ∧ r.1 ≤ r.2 ∧ r.2 ≤ 1114367) ∧ ZfC a l + 2 ≤ r.1
 | [], a, r => by simp [AscF, ZfC]
 | x :: l, a, r => by
  simp only [List.cons_append, AscF, ZfC, ZgK l x.2 r]
  constructor
  ·rintro ⟨h1, h2, h3, h4⟩; exact ⟨⟨h1, h2, h3⟩, h4⟩
  ·rintro ⟨⟨h1, h2, h3⟩, h4⟩; exact ⟨h1, h2, h3, h4⟩
theorem Desc.asc : ∀ {l : List R2}, Desc l → AscF (-2) l.reverse
 | [], _ => trivial
 | [r], h => by
  have h : 0 ≤ r.1 ∧ r.1 ≤ r.2 ∧ r.2 ≤ 1114367 := h
  exact ⟨h, by omega, trivial⟩
 | r :: o :: os, h => by
  rw [List.reverse_cons, ZgK]
  refine ⟨h.2.2.asc, h.1, ?_⟩
  rw [List.reverse_cons, ZeK]
  exact h.2.1
theorem AscF.norm : ∀ {l : List R2}, AscF (-2) l.reverse → Desc l
 | [], _ => trivial
 | [r], h => h.1
 | r :: o :: os, h => by
  rw [List.reverse_cons, ZgK] at h
  refine ⟨h.2.1, ?_, h.1.norm⟩
  have := h.2.2
  rw [List.reverse_cons, ZeK] at this
  exact this
theorem Z8B {l : List R2} : Z3t l ↔ AscF (-2) l := by
 unfold Z3t
 constructor
 ·intro h
  have := h.asc
  rwa [List.reverse_reverse] at this
 ·intro h
  apply AscF.norm
  rwa [List.reverse_reverse]
theorem AscF.mono : ∀ {l : List R2} {a a' : Int}, AscF a l → a' ≤ a → AscF a' l
 | [], _, _, _, _ => trivial
 | r :: t, a, a', h, hl => ⟨h.1, by have := h.2.1; omega, h.2.2⟩
theorem AscF.right : ∀ {l : List R2} {a : Int}, AscF a l → ∀ r ∈ l, 0 ≤ r.1 ∧ r.1 ≤ r.2 ∧ r.2 ≤ 1114367
 | [], _, _, r, hr => by simp at hr
 | x :: t, a, h, r, hr => by
  rcases List.mem_cons.1 hr with rfl | hr
  ·exact h.1
  ·exact h.2.2.right r hr
theorem AscF.len : ∀ {l : List R2} {a : Int}, AscF a l → l ≠ [] → a + 2 * (l.length : Int) ≤ 1114367
 | [], _, _, hn => absurd rfl hn
 | [r], a, h, _ => by
  have := h.1
  have := h.2.1
  simp only [List.length_cons, List.length_nil]
  omega
 | r :: o :: t, a, h, _ => by
  have := h.1
  have := h.2.1
  have := h.2.2.len (by simp)
  simp only [List.length_cons] at *
  omega
theorem ZeQ {l : List R2} (h : Z3t l) : l.length ≤ 557185 := by
 by_cases hn : l = []
 ·subst hn; simp
 ·have := (Z8B.1 h).len hn
  omega
theorem Z88 {l : List R2} (h : Z3t l) : ∀ r ∈ l, 0 ≤ r.1 ∧ r.1 ≤ r.2 ∧ r.2 ≤ 1114367 := (Z8B.1 h).right
end Go.Proofs.Norm
namespace Go.Proofs.YtadodmjdkphddaaDoor.N2
open Go Go.Abs Go.Proofs.Unis Go.Proofs.Norm
set_option maxRecDepth 100000
theorem Zh2 : ∀ (l : List R2) (at_ a : Int), 0 ≤ at_ → a + 2 ≤ at_ → AscF (at_ - 2) l → AscF a (notL at_ l)
 | [], at_, a, h0, ha, _ => by
  unfold notL
  split
  ·exact ⟨⟨h0, by assumption, by simp⟩, ha, trivial⟩
  ·trivial
 | r :: t, at_, a, h0, ha, h => by
  have h1 := h.1
  have h2 := h.2.1
  unfold notL
  split
  ·exact ⟨⟨h0, by simp only []; omega, by simp only []; omega⟩, ha, Zh2 t _ _ (by omega) (by simp only []; omega) (h.2.2.mono (by omega))⟩
  ·exact Zh2 t _ _ (by omega) (by omega) (h.2.2.mono (by omega))
theorem Zll {l : List R2} (h : Z3t l) : Z3t (notF l) :=
 Z8B.2 (Zh2 l 0 (-2) (by omega) (by omega) (Z8B.1 h))
theorem ZiX (r : R2) : Z5i (ofR r) = some (decide (0 ≤ r.1 ∧ r.1 ≤ r.2 ∧ r.2 ≤ 1114367)) := by
 apply Zdc
 unfold Z6m
 simp only [ofR]
 by_cases h1 : 0 ≤ r.1
 ·by_cases h2 : r.1 ≤ r.2
  ·simp [h1, h2]
   exact decide_eq_decide.2 Iff.rfl
  ·simp [h1, h2]
 ·simp [h1]
theorem Zgb (rs : List R2) : (rs.map ofR).map Zv = rs.map encR := by
 rw [List.map_map]
 rfl
theorem Zdq : ∀ rs : List R2, Z9M (rs.map encR) = some rs
 | [] => rfl
 | r :: t => by
  rw [List.map_cons, Z9M, Zdq t]
  rfl
theorem ZhX (rs : List R2) (hl : rs.length ≤ 1048576) (hr : ∀ r ∈ rs, 0 ≤ r.1 ∧ r.1 ≤ r.2 ∧ r.2 ≤ 1114367) : Z8p (rs.map ofR) = some ((Z4T rs).map ofR) := by
 refine Z1e (fun _ _ ha hb => RRun.uniq ZgN (ha .sh) (hb .sh)) fun o => ?_
 have e : EE 68 [(.p (.lst o ((rs.map ofR).map Zv)))] [] = some ((.p (.lst .sh (((Z4T rs).map ofR).map Zv))), []) := by
  rw [show EE 68 = E PP XX HH 68 from rfl, Zm8 (P := PP) (X := XX) (H := HH) (f := 68) (m := Zeg) (by kernel_rfl), Zgb, Zgb]
  unfold Zeg
  simp only [Zdq]
  rw [if_pos ⟨hl, hr⟩]
 exact ⟨_, e, [], by simp⟩
theorem Zmi (a b : List R2) (hl : a.length + b.length ≤ 1048576) : Z7a [a.map ofR, b.map ofR] = some ((a ++ b).map ofR) := by
 refine Z1e (fun _ _ ha hb => RRun.uniq ZcF (ha .sh) (hb .sh)) fun o => ?_
 have e : EE 72 [(.p (.lst o ([a.map ofR, b.map ofR].map (eL Zv))))] [] = some ((.p (.lst .sh (((a ++ b).map ofR).map Zv))), []) := by
  rw [show EE 72 = E PP XX HH 72 from rfl, Zm8 (P := PP) (X := XX) (H := HH) (f := 72) (m := Zef) (by kernel_rfl), Zgb]
  have h1 : [a.map ofR, b.map ofR].map (eL Zv) = [.lst .sh (a.map encR), .lst .sh (b.map encR)] := by
   simp only [List.map_cons, List.map_nil, eL, Zgb]
  rw [h1]
  unfold Zef
  simp only [Ze4, Zdq, Option.map_some, List.flatten_cons, List.flatten_nil, List.append_nil]
  rw [if_pos ⟨by simp, by rw [List.length_append]; exact hl⟩]
 exact ⟨_, e, [], by simp⟩
theorem ZiG {rs : List R2} {i : Nat} (h : i < rs.length) : lget (rs.map ofR) (i : Int) = some (ofR rs[i]) := by
 rw [Z87, List.getElem?_map, List.getElem?_eq_getElem h]
 rfl
theorem Zj6 (L : List R2) (hl : L.length ≤ 1000000) : ∀ (d i : Nat) (a : Int), i + d = L.length → -2 ≤ a → a ≤ 1114367 → AscF a (L.drop i) → Z4K a (L.map ofR) (L.length : Int) (i : Int) = some true := by
 intro d
 induction d with
 | zero =>
  intro i a h _ _ _
  apply Z7P
  unfold Z4B
  rw [if_neg (by simp; omega)]
  rfl
 | succ d ih =>
  intro i a h ha ha2 hA
  have hi : i < L.length := by omega
  rw [List.drop_eq_getElem_cons hi] at hA
  have h1 := hA.1
  have h2 := hA.2.1
  apply Z7P
  unfold Z4B Z5K
  rw [if_pos (by simp; omega), ZiG hi, Option.bind_some, ZiX, Option.bind_some, if_neg (by simp; omega), wrap_i64 (n := a + 2) (by omega) (by omega), if_neg (by rw [decide_eq_true_eq]; show ¬ (L[i].1 < a + 2); omega)]
  unfold Z5M Z5N
  rw [wrap_i64 (by omega) (by omega)]
  exact ih (i + 1) _ (by omega) (by simp only [ofR]; omega) (by simp only [ofR]; omega) hA.2.2
theorem Zct {L : List R2} (h : Z3t L) : Z4J (L.map ofR) = some true := by
 apply ZdT
 unfold Z6C
 rw [List.length_map]
 have := ZeQ h
 exact Zj6 L (by omega) L.length 0 (-2) (by omega) (by omega) (by omega) (Z8B.1 h)
theorem ZpP (L : List R2) (hl : L.length ≤ 1000000) (hr : ∀ r ∈ L, 0 ≤ r.1 ∧ r.1 ≤ r.2 ∧ r.2 ≤ 1114367) : ∀ (d i : Nat) (acc : List R2) (a : Int), i + d = L.length → acc.length ≤ i → 0 ≤ a → a ≤ 1114368 → Z5E (acc.map ofR) a (L.map ofR) (L.length : Int) (i : Int) = some ((acc ++ notL a (L.drop i)).map ofR) := by
 intro d
 induction d with
 | zero =>
  intro i acc a h hacc ha ha2
  rw [List.drop_of_length_le (by omega)]
  apply Z9E
  unfold Z5C
  rw [if_neg (by simp; omega)]
  unfold Z6n notL
  by_cases hc : a ≤ 1114367
  ·rw [if_pos (by simpa using hc), if_pos hc]
   unfold lapp
   rw [if_pos (by simp [lim]; omega)]
   unfold Z4s
   simp [ofR]
  ·rw [if_neg (by simpa using hc), if_neg hc]
   unfold Z4s
   simp
 | succ d ih =>
  intro i acc a h hacc ha ha2
  have hi : i < L.length := by omega
  have h1 := hr L[i] (List.getElem_mem hi)
  rw [List.drop_eq_getElem_cons hi]
  apply Z9E
  unfold Z5C Z6E
  rw [if_pos (by simp; omega), ZiG hi, Option.bind_some]
  unfold notL
  have r8 : ∀ acc' : List R2, acc'.length ≤ i + 1 → Z4C (acc'.map ofR) (L.map ofR) (L.length : Int) (i : Int) (ofR L[i]) = some ((acc' ++ notL (L[i].2 + 1) (L.drop (i + 1))).map ofR) := by
   intro acc' hacc'
   unfold Z4C Z6F
   rw [show (ofR L[i]).Hi = L[i].2 from rfl, wrap_i64 (n := L[i].2 + 1) (by omega) (by omega), wrap_i64 (n := (i : Int) + 1) (by omega) (by omega)]
   exact ih (i + 1) acc' _ (by omega) hacc' (by omega) (by omega)
  by_cases hc : a < L[i].1
  ·rw [if_pos (decide_eq_true (show a < (ofR L[i]).Lo from hc)), if_pos hc]
   unfold lapp
   rw [if_pos (by simp [lim]; omega), Option.bind_some, show (ofR L[i]).Lo = L[i].1 from rfl, wrap_i64 (n := L[i].1 - 1) (by omega) (by omega)]
   have := r8 (acc ++ [(a, L[i].1 - 1)]) (by simp; omega)
   rw [List.map_append] at this
   rw [show List.map ofR [(a, L[i].1 - 1)] = [Z7.mk a (L[i].1 - 1)] from rfl] at this
   rw [this, List.append_assoc]
   rfl
  ·rw [if_neg (by rw [decide_eq_true_eq]; exact hc), if_neg hc]
   exact r8 acc (by omega)
theorem ZlU {L : List R2} (h : Z3t L) : Z6I (L.map ofR) = some ((notF L).map ofR, 0) := by
 apply Zfo
 unfold Z7G
 rw [Zct h, Option.bind_some, if_neg (by simp)]
 unfold Z6D
 have : Z7L (L.map ofR) = some ((notF L).map ofR) := by
  apply Zfq
  unfold Z7H
  rw [List.length_map]
  have := ZeQ h
  have := ZpP L (by omega) (Z88 h) L.length 0 [] 0 (by omega) (by simp) (by omega) (by omega)
  simpa [notF] using this
 rw [this]
 rfl
theorem Zni (L : List R2) (hl : L.length ≤ 1000000) (hr : ∀ r ∈ L, 0 ≤ r.1 ∧ r.1 ≤ r.2 ∧ r.2 ≤ 1114367) : ∀ (d i : Nat), i + d = L.length → Z33 (L.map ofR) (L.length : Int) (i : Int) = some (-1) := by
 intro d
 induction d with
 | zero =>
  intro i h
  apply Z62
  unfold Z31
  rw [if_neg (by simp; omega)]
  rfl
 | succ d ih =>
  intro i h
  have hi : i < L.length := by omega
  have h1 := hr L[i] (List.getElem_mem hi)
  apply Z62
  unfold Z31 Z3D
  have hm : Z8n (ofR L[i]) = some false := by
   apply Zgn
   unfold Z8e
   rw [ZiX]
   simp [h1]
  rw [if_pos (by simp; omega), ZiG hi, Option.bind_some, hm, Option.bind_some, if_neg (by simp)]
  unfold Z3E
  rw [wrap_i64 (by omega) (by omega)]
  exact ih (i + 1) (by omega)
theorem ZpN {L : List R2} (hl : L.length ≤ 1000000) (hr : ∀ r ∈ L, 0 ≤ r.1 ∧ r.1 ≤ r.2 ∧ r.2 ≤ 1114367) : Z9Z (L.map ofR) = some ((Z4T L).map ofR, 0) := by
 have h1 : Z4i (L.map ofR) = some (-1) := by
  apply Z9Q
  unfold Z4c
  rw [List.length_map]
  exact Zni L hl hr L.length 0 (by omega)
 have h2 : Z3G (L.map ofR) = some false := by
  apply Z8S
  unfold Z3B
  rw [h1]
  rfl
 apply ZhG
 unfold Z9W
 rw [h2, Option.bind_some, if_neg (by simp)]
 unfold Z7E
 rw [ZhX L (by omega) hr]
 rfl
theorem Zcc (no : Bool) {L : List R2} (hl : L.length ≤ 1000000) (hr : ∀ r ∈ L, 0 ≤ r.1 ∧ r.1 ≤ r.2 ∧ r.2 ≤ 1114367) : Z2X no (L.map ofR) = some (setN (setR no L)) := by
 apply ZiD
 unfold ZaQ
 rw [ZpN hl hr, Option.bind_some]
 cases no with
 | false => rfl
 | true =>
  rw [if_pos rfl, ZlU (Zc1 hr).1]
  rfl
theorem Zlt (no : Bool) {L : List R2} (hr : ∀ r ∈ L, 0 ≤ r.1 ∧ r.1 ≤ r.2 ∧ r.2 ≤ 1114367) : Z3t (setR no L) := by
 unfold setR
 split
 ·exact Zll (Zc1 hr).1
 ·exact (Zc1 hr).1
theorem Zn8 {r : R2} (h : 0 ≤ r.1 ∧ r.1 ≤ r.2 ∧ r.2 ≤ 1114367) : Z3t [r] := Z8B.2 ⟨h, by omega, trivial⟩
theorem Zp7 {a s : List R2} (ha : Z3t a) (hs : Z3t s) (hl : s.length ≤ 100000) : Z4u (s.map ofR) (a.map ofR) = some ((Z4T (a ++ s)).map ofR) := by
 have hla := ZeQ ha
 have hr : ∀ r ∈ a ++ s, 0 ≤ r.1 ∧ r.1 ≤ r.2 ∧ r.2 ≤ 1114367 := by
  intro r h
  rcases List.mem_append.1 h with h | h
  ·exact Z88 ha r h
  ·exact Z88 hs r h
 have h1 : Z8o (a.map ofR) (s.map ofR) = some ((Z4T (a ++ s)).map ofR, 0) := by
  apply Zgp
  unfold Z8f
  rw [Zct ha, Option.bind_some, if_neg (by simp), Zct hs, Option.bind_some, if_neg (by simp)]
  unfold Z6S
  rw [Zmi a s (by omega), Option.bind_some, ZhX _ (by rw [List.length_append]; omega) hr]
  rfl
 apply ZbR
 unfold Z5v
 rw [h1]
 rfl
theorem fold_len : ∀ (l acc : List R2), (l.foldl Z1X acc).length ≤ acc.length + l.length
 | [], acc => by simp
 | r :: t, acc => by
  have h1 := fold_len t (Z1X acc r)
  have h2 : (Z1X acc r).length ≤ acc.length + 1 := by
   unfold Z1X
   split
   ·split
    ·simp
    ·simp
   ·simp
  rw [List.foldl_cons, List.length_cons]
  omega
theorem ZoS (l : List R2) : (Z4T l).length ≤ l.length := by
 have h1 := fold_len (Z7n l) []
 have h2 := (Z69 l).length_eq
 unfold Z4T
 rw [List.length_reverse]
 simp only [List.length_nil] at h1
 omega
theorem ZkH : ∀ (l : List R2) (a : Int), (notL a l).length ≤ l.length + 1
 | [], a => by
  unfold notL
  split
  ·simp
  ·simp
 | r :: t, a => by
  have := ZkH t (r.2 + 1)
  unfold notL
  split
  ·simp only [List.length_cons]; omega
  ·simp only [List.length_cons]; omega
theorem Zq9 (no : Bool) (l : List R2) : (setR no l).length ≤ l.length + 1 := by
 have h1 := ZoS l
 have h2 := ZkH (Z4T l) 0
 unfold setR notF
 split
 ·omega
 ·omega
theorem ZiT {a s : List R2} (ha : Z3t a) (hs : Z3t s) : Z3t (Z4T (a ++ s)) :=
 (Zc1 (by
  intro r h
  rcases List.mem_append.1 h with h | h
  ·exact Z88 ha r h
  ·exact Z88 hs r h)).1
end Go.Proofs.YtadodmjdkphddaaDoor.N2
end
section
set_option linter.unusedSimpArgs false
set_option linter.unusedVariables false
namespace Go.Proofs.YtadodmjdkphddaaDoor.N2
open Go Go.Abs Go.Proofs.Unis Go.Proofs.Norm
set_option maxRecDepth 100000
theorem Z1C {a b : Int} (h : a = b) : (a == b) = true := by simpa using h
theorem Z1N {a b : Int} (h : ¬ a = b) : ¬ ((a == b) = true) := by simpa using h
theorem Zlv {a b : Int} (h : ¬ a = b) : (a != b) = true := by simpa using h
theorem Zc4 {a b : Int} (h : a = b) : ¬ ((a != b) = true) := by simpa using h
theorem Z2v {c : Prop} [Decidable c] (h : c) : decide c = true := decide_eq_true h
theorem Z2e {c : Prop} [Decidable c] (h : ¬ c) : ¬ (decide c = true) := by simpa using h
theorem ZhW {α : Type} {a b : α} (h : a = b) : ¬ (a ≠ b) := fun k => k h
structure Nx (l : List UInt8) (s s' : St) : Prop where
 at_ : At l s'
 len : s'.us.length ≤ s.us.length
 gr : s'.gr = s.gr
 rf : s'.rf = s.rf
theorem Nx.trans {l : List UInt8} {s s' s'' : St} (h : Nx l s s') (h' : Nx l s' s'') : Nx l s s'' :=
 ⟨h'.at_, Nat.le_trans h'.len h.len, h'.gr.trans h.gr, h'.rf.trans h.rf⟩
theorem Z6c {l : List UInt8} {s : St} (h : At l s) : Nx l s (take s) := by
 refine ⟨h.take, ?_, ?_, ?_⟩
 all_goals unfold take; split
 ·exact Nat.le_refl _
 ·rename_i h1
  rw [h1]
  simp
 all_goals rfl
theorem Zgf {l : List UInt8} {s : St} (h : At l s) (hn : s.us ≠ []) : s.us.length = (take s).us.length + 1 := by
 obtain ⟨_, _, _, _, _, _, _, h7⟩ := h.cons hn
 exact h7
theorem ZfR (u : Int) : Z5b u = some (if short u = [] then .nl else .ex, (short u).map ofR) := by
 apply ZeC
 by_cases h1 : u = 100
 ·subst h1; simp [Z2V, short, ofR, Z5R]
 by_cases h2 : u = 68
 ·subst h2; simp [Z2V, short, ofR, Z5R]
 by_cases h3 : u = 119
 ·subst h3; simp [Z2V, short, ofR, Z5R]
 by_cases h4 : u = 87
 ·subst h4; simp [Z2V, short, ofR, Z5R]
 by_cases h5 : u = 115
 ·subst h5; simp [Z2V, short, ofR, Z5R]
 by_cases h6 : u = 83
 ·subst h6; simp [Z2V, short, ofR, Z5R]
 simp [Z2V, Z22, short, h1, h2, h3, h4, h5, h6]
theorem ZgI (u : Int) : (short u).length ≤ 1000 ∧ ∀ r ∈ short u, 0 ≤ r.1 ∧ r.1 ≤ r.2 ∧ r.2 ≤ 1114367 := by
 unfold short
 repeat' split
 all_goals simp
theorem ZlN (u : Int) (h1 : -1 ≤ u) (h2 : u ≤ 1114367) : Z97 u = some (hexF u) := by
 apply ZiB
 unfold ZaP Z8g Z6Z Z8h Z70 hexF
 rw [wrap_i64 (n := u - 48) (by omega) (by omega), wrap_i64 (n := u - 97) (by omega) (by omega), wrap_i64 (n := u - 97 + 10) (by omega) (by omega)]
 by_cases a : 48 ≤ u
 ·by_cases b : u ≤ 57
  ·simp [a, b]
  ·by_cases c : 97 ≤ u
   ·by_cases d : u ≤ 102
    ·simp [a, b, c, d]
    ·simp [a, b, c, d]
   ·simp [a, b, c]
 ·have c : ¬ 97 ≤ u := by omega
  simp [a, c]
theorem ZbX (u : Int) : -1 ≤ hexF u ∧ hexF u ≤ 15 := by
 unfold hexF
 repeat' split
 all_goals omega
theorem ZpH (L : List Z7) (u : Int) (hl : L.length ≤ 1000000) : ∀ (d i : Nat), i + d = L.length →
  ∃ k : Int, Z32 L (L.length : Int) (i : Int) u = some k ∧ (0 ≤ k ↔ (L.drop i).any (fun r => decide (r.Lo ≤ u) && decide (u ≤ r.Hi)) = true) := by
 intro d
 induction d with
 | zero =>
  intro i h
  refine ⟨-1, ?_, ?_⟩
  ·apply Z4n
   unfold Z2n
   rw [if_neg (by simp; omega)]
   rfl
  ·rw [List.drop_of_length_le (by omega)]
   simp
 | succ d ih =>
  intro i h
  have hi : i < L.length := by omega
  have hm : Z6U L[i] u = some (decide (L[i].Lo ≤ u) && decide (u ≤ L[i].Hi)) := by
   apply Zex
   unfold Z6Q
   by_cases a : L[i].Lo ≤ u
   ·simp [a]
   ·simp [a]
  rw [List.drop_eq_getElem_cons hi, List.any_cons]
  cases hc : (decide (L[i].Lo ≤ u) && decide (u ≤ L[i].Hi)) with
  | true =>
   refine ⟨(i : Int), ?_, by simp⟩
   apply Z4n
   unfold Z2n Z30
   rw [if_pos (by simp; omega), Z87, List.getElem?_eq_getElem hi, Option.bind_some, hm, hc]
   rfl
  | false =>
   obtain ⟨k, h1, h2⟩ := ih (i + 1) (by omega)
   refine ⟨k, ?_, by rw [Bool.false_or]; exact h2⟩
   apply Z4n
   unfold Z2n Z30
   rw [if_pos (by simp; omega), Z87, List.getElem?_eq_getElem hi, Option.bind_some, hm, hc, Option.bind_some, if_neg (by simp)]
   unfold Z3C
   rw [wrap_i64 (by omega) (by omega)]
   exact h1
theorem ZqM (L : List Z7) (u : Int) (hl : L.length ≤ 1000000) : Z6H L u = some (L.any (fun r => decide (r.Lo ≤ u) && decide (u ≤ r.Hi))) := by
 obtain ⟨k, h1, h2⟩ := ZpH L u hl L.length 0 (by omega)
 have e1 : Z4h L u = some k := by
  apply Z9O
  unfold Z4b
  exact h1
 have e2 : Z3F L u = some (decide (0 ≤ k)) := by
  apply Z8Q
  unfold Z3A
  rw [e1]
  rfl
 apply Zfm
 unfold Z7F
 rw [e2]
 rw [List.drop_zero] at h2
 show some _ = some _
 congr 1
 cases hb : L.any (fun r => decide (r.Lo ≤ u) && decide (u ≤ r.Hi)) with
 | true => rw [hb] at h2; simpa using h2
 | false => rw [hb] at h2; simpa using h2
theorem Zno (u : Int) : Z6H [⟨48, 57⟩, ⟨65, 90⟩, ⟨97, 122⟩] u = some (ZcS u) := by
 rw [ZqM _ _ (by simp)]
 congr 1
 simp [ZcS, Bool.or_assoc]
theorem ZkL {l : List UInt8} {s s' : St} {u p v : Int} (h : At l s) (hu : 0 ≤ u ∧ u ≤ 1114367) (e : Z7v u p s = .ok v s') : Nx l s s' ∧ 0 ≤ v ∧ v ≤ 1114367 := by
 have n0 : Nx l s s := ⟨h, Nat.le_refl _, rfl, rfl⟩
 have ha := ZbX (peek s.us)
 have hb := ZbX (peek (take s).us)
 unfold Z7v at e
 split at e
 ·cases e; exact ⟨n0, by omega, by omega⟩
 split at e
 ·cases e; exact ⟨n0, by omega, by omega⟩
 split at e
 ·cases e; exact ⟨n0, by omega, by omega⟩
 split at e
 ·split at e
  ·split at e
   ·cases e; exact ⟨(Z6c h).trans (Z6c h.take), by omega, by omega⟩
   ·simp at e
  ·simp at e
 split at e
 ·cases e; exact ⟨n0, hu⟩
 ·simp at e
theorem ZiU {s : St} {u p c q : Int} (e : Z7v u p s = .bad c q) : c ≠ 0 := by
 unfold Z7v at e
 repeat' split at e
 all_goals first | (simp at e; done) | (cases e; simp)
theorem ZiV {l : List UInt8} {s : St} (h : At l s) (hl : l.length ≤ 1000) (u p g d : Int) (rf : List Zq) :
  Z58 u p (bl l) s.pos g d rf 0 0 = some (match Z7v u p s with | .ok v s' => (v, s'.pos, 0, 0) | .bad c q => (0, (l.length : Int), c, q)) := by
 have bad : Z27 p (bl l) 0 0 = some (0, (l.length : Int), 21, p) := by
  unfold Z27
  rw [Z57]
  rfl
 apply ZcO
 unfold Z65 Z7v
 by_cases h1 : u = 110
 ·simp [h1]
 by_cases h2 : u = 116
 ·simp [h2]
 by_cases h3 : u = 114
 ·simp [h3]
 by_cases h4 : u = 120
 ·subst h4
  have hr := h.range
  have hr2 := h.take.range
  have ha := ZbX (peek s.us)
  have hb := ZbX (peek (take s).us)
  rw [if_neg (by simp), if_neg (by simp), if_neg (by simp), if_pos (by simp), if_neg (by simp), if_neg (by simp), if_neg (by simp), if_pos rfl, Z6k h, Option.bind_some, ZlN _ (by omega) (by omega), Option.bind_some]
  by_cases h5 : 0 ≤ hexF (peek s.us)
  ·have hn : s.us ≠ [] := by
    intro e
    rw [e] at h5
    simp [peek, hexF] at h5
   rw [if_pos (by simpa using h5), if_pos h5, Z8b h (by omega) hn, Option.bind_some]
   simp only []
   rw [Z6k h.take, Option.bind_some, ZlN _ (by omega) (by omega), Option.bind_some]
   by_cases h6 : 0 ≤ hexF (peek (take s).us)
   ·have hn2 : (take s).us ≠ [] := by
     intro e
     rw [e] at h6
     simp [peek, hexF] at h6
    rw [if_pos (by simpa using h6), if_pos h6, Z8b h.take (by omega) hn2, Option.bind_some, wrap_i64 (n := 16 * hexF (peek s.us)) (by omega) (by omega), wrap_i64 (by omega) (by omega)]
   ·rw [if_neg (by simpa using h6), if_neg h6, bad]
  ·rw [if_neg (by simpa using h5), if_neg h5, bad]
 ·rw [if_neg (by simpa using h1), if_neg (by simpa using h2), if_neg (by simpa using h3), if_neg (by simpa using h4), if_neg h1, if_neg h2, if_neg h3, if_neg h4]
  by_cases h5 : 32 < u
  ·by_cases h6 : u < 127
   ·rw [if_pos (by simpa using h5), if_pos (by simpa using h6), Zno, Option.bind_some]
    cases h7 : ZcS u with
    | true => rw [if_neg (by simp), bad, if_neg (by simp)]
    | false =>
     rw [if_pos (by rfl), if_pos ⟨h5, h6, rfl⟩]
     rfl
   ·rw [if_pos (by simpa using h5), if_neg (by simpa using h6), bad, if_neg (fun e => h6 e.2.1)]
  ·rw [if_neg (by simpa using h5), bad, if_neg (fun e => h5 e.1)]
end Go.Proofs.YtadodmjdkphddaaDoor.N2
end
section
set_option linter.unusedSimpArgs false
set_option linter.unusedVariables false
namespace Go.Proofs.YtadodmjdkphddaaDoor.N2
open Go Go.Abs Go.Proofs.Unis Go.Proofs.Norm
set_option maxRecDepth 100000
def EscR (l : List UInt8) (s : St) (o : Out Z8) (r : Option (Z8 × Int × List Zq × Int × Int)) : Prop :=
 match o with
 | .ok n s' => r = some (n, s'.pos, s'.rf, 0, 0) ∧ At l s' ∧ s'.us.length < s.us.length ∧ s'.gr = s.gr ∧ s'.rf.length + s'.us.length ≤ s.rf.length + s.us.length
 | .bad c q => c ≠ 0 ∧ ∃ n, r = some (n, (l.length : Int), s.rf, c, q)
theorem Zqw {l : List UInt8} {s : St} (h : At l s) (hl : l.length ≤ 1000) (hrf : s.rf.length ≤ 2000) (p g d : Int) : EscR l s (pEsc p s) (Z3o p (bl l) s.pos g d s.rf 0 0) := by
 have top : ∀ r, Z3S p (bl l) s.pos g d s.rf 0 0 = some r → Z3o p (bl l) s.pos g d s.rf 0 0 = some r := fun r e => Zcl _ _ _ _ _ _ _ _ e
 unfold pEsc
 by_cases hn : s.us = []
 ·rw [if_pos hn]
  refine ⟨by simp, nd0, top _ ?_⟩
  unfold Z3S
  rw [Z6k h, Option.bind_some, hn, if_pos (by rfl), Z57]
  rfl
 ·rw [if_neg hn]
  have hr := h.range
  have hu : 0 ≤ peek s.us ∧ peek s.us ≤ 1114367 := by
   rcases hr with ⟨_, h2⟩ | h2
   ·exact absurd h2 hn
   ·omega
  have hnx := Z6c h
  have hlt := Zgf h hn
  have tk := Z8b h (by omega) hn
  have top5 : ∀ r, Z2p p (peek s.us) (bl l) s.pos g d s.rf 0 0 = some r → Z3o p (bl l) s.pos g d s.rf 0 0 = some r := by
   intro r e
   refine top r ?_
   unfold Z3S
   rw [Z6k h, Option.bind_some, if_neg (by simp; omega)]
   exact e
  have hrf' : (take s).rf = s.rf := hnx.rf
  by_cases hs : short (peek s.us) = []
  ·rw [if_neg (by simp [hs])]
   have r5 : Z2p p (peek s.us) (bl l) s.pos g d s.rf 0 0 = (if ((peek s.us == 98)) = true then
 (some ((Z8.mk 9 0 0 0 2 ([] : List Z7) ([] : List Z8)), (take s).pos, s.rf, 0, 0))
 else
 (if ((peek s.us == 66)) = true then
 (some ((Z8.mk 9 0 0 0 3 ([] : List Z7) ([] : List Z8)), (take s).pos, s.rf, 0, 0))
 else
 (if ((decide (49 ≤ peek s.us))) = true then
 (if ((decide (peek s.us ≤ 57))) = true then
 (Z3P p (peek s.us) (take s).pos s.rf 0 0)
 else
 (Z2h p (peek s.us) (bl l) (take s).pos g d s.rf 0 0))
 else
 (Z2h p (peek s.us) (bl l) (take s).pos g d s.rf 0 0)))) := by
    unfold Z2p
    rw [tk, Option.bind_some, ZfR, Option.bind_some, hs]
    rfl
   have r15 : EscR l s ((Z7v (peek s.us) p (take s)).bind fun v s2 => .ok (setN (setR false [(v, v)])) s2) (Z2h p (peek s.us) (bl l) (take s).pos g d s.rf 0 0) := by
    unfold Z2h
    rw [ZiV h.take hl]
    cases hp : Z7v (peek s.us) p (take s) with
    | ok v s2 =>
     obtain ⟨a, b, c⟩ := ZkL h.take hu hp
     have hset := Zcc false (L := [(v, v)]) (by simp) (by simp; omega)
     refine ⟨?_, a.at_, ?_, a.gr.trans hnx.gr, ?_⟩
     ·simp only [Option.bind_some, Z5R]
      rw [show [Z7.mk v v] = [((v, v) : R2)].map ofR from rfl, hset, Option.bind_some, a.rf, hrf']
     ·have := a.len; omega
     ·have := a.len; rw [a.rf, hrf']; omega
    | bad c q =>
     have hc := ZiU hp
     have hset := Zcc false (L := [((0 : Int), (0 : Int))]) (by simp) (by simp)
     refine ⟨hc, setN (setR false [(0, 0)]), ?_⟩
     simp only [Option.bind_some, Z5R]
     rw [show [Z7.mk 0 0] = [((0, 0) : R2)].map ofR from rfl, hset, Option.bind_some]
   have lift : ∀ o, EscR l s o (Z2p p (peek s.us) (bl l) s.pos g d s.rf 0 0) → EscR l s o (Z3o p (bl l) s.pos g d s.rf 0 0) := by
    intro o ho
    cases o with
    | ok n s' => exact ⟨top5 _ ho.1, ho.2⟩
    | bad c q => obtain ⟨hc, n, hn⟩ := ho; exact ⟨hc, n, top5 _ hn⟩
   apply lift
   rw [r5]
   by_cases h1 : peek s.us = 98
   ·rw [if_pos h1, if_pos (Z1C h1)]
    exact ⟨by rw [hrf']; rfl, h.take, by omega, hnx.gr, by rw [hrf']; omega⟩
   by_cases h2 : peek s.us = 66
   ·rw [if_neg h1, if_pos h2, if_neg (Z1N h1), if_pos (Z1C h2)]
    exact ⟨by rw [hrf']; rfl, h.take, by omega, hnx.gr, by rw [hrf']; omega⟩
   rw [if_neg h1, if_neg h2, if_neg (Z1N h1), if_neg (Z1N h2)]
   by_cases h3 : 49 ≤ peek s.us
   ·by_cases h4 : peek s.us ≤ 57
    ·rw [if_pos ⟨h3, h4⟩, if_pos (Z2v h3), if_pos (Z2v h4)]
     refine ⟨?_, ?_, by show (take s).us.length < _; omega, hnx.gr, by show (s.rf ++ [_]).length + (take s).us.length ≤ _; rw [List.length_append]; simp; omega⟩
     ·unfold Z3P lapp
      rw [if_pos (by simp [lim]; omega), wrap_i64 (n := peek s.us - 48) (by omega) (by omega)]
      rfl
     ·exact h.take
    ·rw [if_neg (show ¬ (49 ≤ peek s.us ∧ peek s.us ≤ 57) from fun e => h4 e.2), if_pos (Z2v h3), if_neg (Z2e h4)]
     exact r15
   ·rw [if_neg (show ¬ (49 ≤ peek s.us ∧ peek s.us ≤ 57) from fun e => h3 e.1), if_neg (Z2e h3)]
    exact r15
  ·rw [if_pos hs]
   obtain ⟨q1, q2⟩ := ZgI (peek s.us)
   refine ⟨top5 _ ?_, h.take, by omega, hnx.gr, by rw [hrf']; omega⟩
   unfold Z2p
   rw [tk, Option.bind_some, ZfR, Option.bind_some, if_neg hs]
   have hno : nilO Own.ex ((short (peek s.us)).map ofR) = some false := rfl
   dsimp only
   rw [hno, Option.bind_some, if_pos (show (!false) = true from rfl), Option.bind_some]
   dsimp only
   rw [Zcc _ (by omega) q2, Option.bind_some, hrf']
def MemR (l : List UInt8) (s : St) (o : Out (Int × List R2 × Bool)) (r : Option (Int × (Own × List Z7) × Bool × Int × Int × Int)) : Prop :=
 match o with
 | .ok m s' => r = some (m.1, (if m.2.1 = [] then .nl else .ex, m.2.1.map ofR), m.2.2, s'.pos, 0, 0) ∧ Nx l s s' ∧ s'.us.length < s.us.length ∧ (0 ≤ m.1 ∧ m.1 ≤ 1114367) ∧ m.2.1.length ≤ 1000 ∧ ∀ r ∈ m.2.1, 0 ≤ r.1 ∧ r.1 ≤ r.2 ∧ r.2 ≤ 1114367
 | .bad c q => c ≠ 0 ∧ r = some (0, (.nl, []), false, (l.length : Int), c, q)
theorem ZlR {l : List UInt8} {s : St} (h : At l s) (hl : l.length ≤ 1000) (hn : s.us ≠ []) (g d : Int) (rf : List Zq) : MemR l s (pMem s) (Z3W (bl l) s.pos g d rf 0 0) := by
 have top : ∀ o, MemR l s o (Z4I (bl l) s.pos g d rf 0 0) → MemR l s o (Z3W (bl l) s.pos g d rf 0 0) := by
  intro o ho
  cases o with
  | ok m s' => exact ⟨Z7W _ _ _ _ _ _ _ ho.1, ho.2⟩
  | bad c q => exact ⟨ho.1, Z7W _ _ _ _ _ _ _ ho.2⟩
 apply top
 have hr := h.range
 have hu : 0 ≤ peek s.us ∧ peek s.us ≤ 1114367 := by
  rcases hr with ⟨_, h2⟩ | h2
  ·exact absurd h2 hn
  ·omega
 have hnx := Z6c h
 have hlt := Zgf h hn
 unfold Z4I pMem
 rw [Z8b h (by omega) hn, Option.bind_some]
 by_cases h1 : peek s.us = 92
 ·rw [if_neg (Zc4 h1), if_neg (ZhW h1)]
  unfold Z50
  dsimp only
  rw [Z6k h.take, Option.bind_some]
  by_cases hn2 : (take s).us = []
  ·rw [if_pos hn2, if_pos (Z2v (show peek (take s).us < 0 by rw [hn2]; decide)), Z57]
   exact ⟨by simp, rfl⟩
  ·have hr2 := h.take.range
   have hu2 : 0 ≤ peek (take s).us ∧ peek (take s).us ≤ 1114367 := by
    rcases hr2 with ⟨_, h2⟩ | h2
    ·exact absurd h2 hn2
    ·omega
   have hnx2 := Z6c h.take
   have hlt2 := Zgf h.take hn2
   rw [if_neg hn2, if_neg (Z2e (show ¬ peek (take s).us < 0 by omega))]
   unfold Z51
   rw [Z8b h.take (by omega) hn2, Option.bind_some, ZfR, Option.bind_some]
   by_cases hs : short (peek (take s).us) = []
   ·rw [if_pos hs, if_neg (ZhW hs), hs]
    show MemR l s _ (Z3Q (peek (take s).us) s.pos (bl l) (take (take s)).pos g d rf 0 0)
    unfold Z3Q
    rw [ZiV h.take.take hl]
    cases hp : Z7v (peek (take s).us) s.pos (take (take s)) with
    | ok v s2 =>
     obtain ⟨a, b, c⟩ := ZkL h.take.take hu2 hp
     exact ⟨rfl, (hnx.trans hnx2).trans a, by have := a.len; omega, ⟨b, c⟩, by simp, by simp⟩
    | bad c q => exact ⟨ZiU hp, rfl⟩
   ·obtain ⟨q1, q2⟩ := ZgI (peek (take s).us)
    rw [if_neg hs, if_pos hs]
    exact ⟨by simp only [if_neg hs]; rfl, hnx.trans hnx2, by omega, by simp, q1, q2⟩
 ·rw [if_pos (Zlv h1), if_pos h1]
  exact ⟨rfl, hnx, by omega, hu, by simp, by simp⟩
end Go.Proofs.YtadodmjdkphddaaDoor.N2
end
section
set_option linter.unusedSimpArgs false
set_option linter.unusedVariables false
namespace Go.Proofs.YtadodmjdkphddaaDoor.N2
open Go Go.Abs Go.Proofs.Unis Go.Proofs.Norm
set_option maxRecDepth 100000
theorem Zpf (c : Prop) [Decidable c] : shrO (if c then Own.nl else Own.ex) = if c then Own.nl else Own.ex := by
 split <;> rfl
theorem Zpg : shrO Own.nl = Own.nl := rfl
structure Wd (b : ByteArray) (w : List Int) : Prop where
 ex : ∃ v : List UInt8, b = ⟨v.toArray⟩ ∧ w = bl v ∧ (∀ c ∈ v, c.toNat < 128) ∧ v.length ≤ 100 ∧ v ≠ []
theorem Z38 {l : List UInt8} {s : St} {b : ByteArray} {w : List Int} (hw : Wd b w) (h : At l s) (hl : l.length ≤ 1000) (e : wd w s = none) : Z17 b (bl l) s.pos = some (false, s.pos) := by
 obtain ⟨v, rfl, rfl, h1, h2, _⟩ := hw.ex
 rw [(Zl4 h (by omega) v h1 h2).1, e]
theorem Z2K {l : List UInt8} {s s1 : St} {b : ByteArray} {w : List Int} (hw : Wd b w) (h : At l s) (hl : l.length ≤ 1000) (e : wd w s = some s1) : Z17 b (bl l) s.pos = some (true, s1.pos) ∧ Nx l s s1 ∧ s1.us.length < s.us.length := by
 obtain ⟨v, rfl, rfl, h1, h2, h3⟩ := hw.ex
 obtain ⟨a, b⟩ := Zl4 h (by omega) v h1 h2
 obtain ⟨b1, b2, b3, b4⟩ := b s1 e
 have : v.length ≠ 0 := fun e => h3 (List.eq_nil_of_length_eq_zero e)
 exact ⟨by rw [a, e], ⟨b1, by omega, b3, b4⟩, by omega⟩
theorem w45 : Wd (ByteArray.mk #[45]) [45] := ⟨[45], rfl, rfl, by decide, by decide, by decide⟩
theorem w94 : Wd (ByteArray.mk #[94]) [94] := ⟨[94], rfl, rfl, by decide, by decide, by decide⟩
def ClsR (l : List UInt8) (s : St) (o : Out Z8) (r : Option (Z8 × Int × Int × Int)) : Prop :=
 match o with
 | .ok n s' => r = some (n, s'.pos, 0, 0) ∧ Nx l s s'
 | .bad c q => c ≠ 0 ∧ ∃ n, r = some (n, (l.length : Int), c, q)
theorem ClsR.from {l : List UInt8} {s s1 : St} {o : Out Z8} {r : Option (Z8 × Int × Int × Int)} (h : ClsR l s1 o r) (hn : Nx l s s1) : ClsR l s o r := by
 cases o with
 | ok n s' => exact ⟨h.1, hn.trans h.2⟩
 | bad c q => exact h
theorem ZbD (p : Int) (no : Bool) (x8 : Int) (b : List Int) (a g d : Int) (rf : List Zq) (c q : Int) (all : List Z7) (hc : c ≠ 0) : Z1g p no x8 b a g d rf c q all = some (nd0, a, c, q) := by
 unfold Z1g
 apply Z7r
 unfold Z4k
 rw [if_neg (by simpa using hc)]
 rfl
theorem Zhi {l : List UInt8} (hl : l.length ≤ 1000) (p : Int) (no : Bool) (g d : Int) (rf : List Zq) : ∀ (k : Nat) (fst : Bool) (all : List R2) (s : St) (x8 : Int), At l s → Z3t all → s.us.length < k → (fst = true ↔ x8 = 0) → 0 ≤ x8 → x8 + s.us.length ≤ 5000 →
  ClsR l s (Z8D p no k fst all s) (Z34 p no x8 (bl l) s.pos g d rf 0 0 (all.map ofR)) := by
 intro k
 induction k with
 | zero => intro fst all s x8 _ _ hk; omega
 | succ k ih =>
  intro fst all s x8 h hall hk hf h0 hb
  have top : ∀ o, ClsR l s o (Z3u p no x8 (bl l) s.pos g d rf 0 0 (all.map ofR)) → ClsR l s o (Z34 p no x8 (bl l) s.pos g d rf 0 0 (all.map ofR)) := by
   intro o ho
   have e : ∀ r, Z3u p no x8 (bl l) s.pos g d rf 0 0 (all.map ofR) = some r → Z34 p no x8 (bl l) s.pos g d rf 0 0 (all.map ofR) = some r := by
    intro r e
    apply Z7r
    unfold Z4k
    rw [if_pos (by rfl)]
    exact e
   cases o with
   | ok n s' => exact ⟨e _ ho.1, ho.2⟩
   | bad c q => obtain ⟨hc, n, hn⟩ := ho; exact ⟨hc, n, e _ hn⟩
  have next : ∀ (all' : List R2) (s1 : St), Nx l s s1 → s1.us.length < s.us.length → Z3t all' → ClsR l s (Z8D p no k false all' s1) (Z1g p no x8 (bl l) s1.pos g d rf 0 0 (all'.map ofR)) := by
   intro all' s1 hn hlt ha'
   unfold Z1g
   rw [wrap_i64 (n := x8 + 1) (by omega) (by omega)]
   exact (ih false all' s1 (x8 + 1) hn.at_ ha' (by omega) (by simp; omega) (by omega) (by omega)).from hn
  have stop : ∀ (c q : Int) (al : List Z7) (z8 : Int), c ≠ 0 → ClsR l s (.bad c q) ((ZT c q (bl l) 0 0).bind fun r2 => Z1g p no z8 (bl l) r2.1 g d rf r2.2.1 r2.2.2 al) := by
   intro c q al z8 hc
   rw [Z57, Option.bind_some, ZbD _ _ _ _ _ _ _ _ _ _ _ hc]
   exact ⟨hc, _, rfl⟩
  apply top
  have hr := h.range
  unfold Z3u Z8D
  rw [Z6k h, Option.bind_some]
  by_cases hn : s.us = []
  ·rw [if_pos hn, if_pos (Z1C (show peek s.us = -1 by rw [hn]; rfl))]
   exact stop _ _ _ _ (by decide)
  have hu : 0 ≤ peek s.us ∧ peek s.us ≤ 1114367 := by
   rcases hr with ⟨_, h2⟩ | h2
   ·exact absurd h2 hn
   ·omega
  rw [if_neg hn, if_neg (Z1N (show ¬ peek s.us = -1 by omega))]
  by_cases h1 : peek s.us = 93
  ·rw [if_pos h1, if_pos (Z1C h1)]
   cases fst with
   | true =>
    rw [if_pos rfl, if_pos (Z1C (hf.1 rfl))]
    exact stop _ _ _ _ (by decide)
   | false =>
    have : ¬ x8 = 0 := fun e => by simpa using hf.2 e
    rw [if_neg (show ¬ (false = true) by simp), if_neg (Z1N this)]
    unfold Z4X Z45
    rw [Z8b h (by omega) hn, Option.bind_some]
    cases no with
    | true =>
     rw [if_pos rfl, if_pos rfl, ZlU hall, Option.bind_some]
     exact ⟨rfl, Z6c h⟩
    | false =>
     rw [if_neg (by simp), if_neg (by simp)]
     exact ⟨rfl, Z6c h⟩
  rw [if_neg h1, if_neg (Z1N h1)]
  by_cases h2 : peek s.us = 91
  ·rw [if_pos (.inl h2), if_pos (Z1C h2), if_pos (Z1C h2)]
   exact stop _ _ _ _ (by decide)
  by_cases h3 : peek s.us = 45
  ·rw [if_pos (.inr h3), if_neg (Z1N h2), if_pos (Z1C h3)]
   exact stop _ _ _ _ (by decide)
  rw [if_neg (show ¬ (peek s.us = 91 ∨ peek s.us = 45) by omega), if_neg (Z1N h2), if_neg (Z1N h3)]
  unfold Z46
  have hm := ZlR h hl hn g d rf
  cases hp : pMem s with
  | bad c q =>
   rw [hp] at hm
   obtain ⟨hc, hm⟩ := hm
   rw [hm, Option.bind_some]
   have hno : nilO Own.nl ([] : List Z7) = some true := rfl
   simp only [Zpg]
   rw [hno, Option.bind_some, if_neg (show ¬ ((!true) = true) by simp)]
   unfold Z47
   have hend : wd [45] ⟨[], (l.length : Int), s.gr, s.rf⟩ = none := rfl
   have hat : At l ⟨[], (l.length : Int), s.gr, s.rf⟩ := ⟨l.length, Nat.le_refl _, rfl, by rw [List.drop_of_length_le (Nat.le_refl _)]; rfl⟩
   have := Z38 w45 hat hl hend
   dsimp only at this
   rw [this, Option.bind_some, if_neg (by simp)]
   unfold Z1K
   rw [if_neg (Z1N hc), ZbD _ _ _ _ _ _ _ _ _ _ _ hc]
   exact ⟨hc, _, rfl⟩
  | ok m s1 =>
   rw [hp] at hm
   obtain ⟨hm, hnx, hlt, hm1, hm2, hm3⟩ := hm
   rw [hm, Option.bind_some]
   simp only [Out.bind, Zpf]
   by_cases hs : m.2.1 = []
   ·have hno : nilO (if m.2.1 = [] then Own.nl else Own.ex) (m.2.1.map ofR) = some true := by rw [if_pos hs]; rfl
    rw [hno, Option.bind_some, if_neg (show ¬ ((!true) = true) by simp), if_neg (ZhW hs)]
    unfold Z47
    have one : ∀ (v : Int) (s2 : St), Nx l s s2 → s2.us.length < s.us.length → m.1 ≤ v → v ≤ 1114367 → ClsR l s (Z8D p no k false (Z4T (all ++ [(m.1, v)])) s2) (Z1K p no x8 m.1 v (bl l) s2.pos g d rf 0 0 (all.map ofR)) := by
     intro v s2 hn2 hlt2 hv1 hv2
     unfold Z1K
     have hone : Z3t [(m.1, v)] := Zn8 (by simp only []; omega)
     rw [if_pos (by rfl), show [Z7.mk m.1 v] = [((m.1, v) : R2)].map ofR from rfl, Zp7 hall hone (by simp), Option.bind_some]
     exact next _ s2 hn2 hlt2 (ZiT hall hone)
    cases hw : wd [45] s1 with
    | none =>
     rw [Z38 w45 hnx.at_ hl hw, Option.bind_some, if_neg (by simp)]
     exact one m.1 s1 hnx hlt (by omega) (by omega)
    | some s2 =>
     obtain ⟨q1, q2, q3⟩ := Z2K w45 hnx.at_ hl hw
     have hn2 := hnx.trans q2
     have hr2 := q2.at_.range
     rw [q1, Option.bind_some, if_pos rfl]
     dsimp only
     rw [Z6k q2.at_, Option.bind_some]
     unfold Z2N
     by_cases c1 : peek s2.us = 93
     ·rw [if_pos (.inr (.inl c1)), if_pos (Z1C c1)]
      exact stop _ _ _ _ (by decide)
     rw [if_neg (Z1N c1)]
     by_cases c2 : peek s2.us = 91
     ·rw [if_pos (.inr (.inr (.inl c2))), if_pos (Z1C c2)]
      exact stop _ _ _ _ (by decide)
     rw [if_neg (Z1N c2)]
     by_cases c3 : peek s2.us = 45
     ·rw [if_pos (.inr (.inr (.inr c3))), if_pos (Z1C c3)]
      exact stop _ _ _ _ (by decide)
     rw [if_neg (Z1N c3)]
     by_cases c4 : s2.us = []
     ·rw [if_pos (.inl c4), if_pos (Z2v (show peek s2.us < 0 by rw [c4]; decide))]
      exact stop _ _ _ _ (by decide)
     have hu2 : 0 ≤ peek s2.us := by
      rcases hr2 with ⟨_, h2⟩ | h2
      ·exact absurd h2 c4
      ·omega
     rw [if_neg (show ¬ (s2.us = [] ∨ peek s2.us = 93 ∨ peek s2.us = 91 ∨ peek s2.us = 45) by simp only [c1, c2, c3, c4, or_self, not_false_eq_true]), if_neg (Z2e (show ¬ peek s2.us < 0 by omega))]
     unfold Z4Y
     have hm' := ZlR q2.at_ hl c4 g d rf
     cases hp2 : pMem s2 with
     | bad c q =>
      rw [hp2] at hm'
      obtain ⟨hc, hm'⟩ := hm'
      rw [hm', Option.bind_some]
      dsimp only
      rw [if_neg (Z1N hc)]
      unfold Z1K
      rw [if_neg (Z1N hc), ZbD _ _ _ _ _ _ _ _ _ _ _ hc]
      exact ⟨hc, _, rfl⟩
     | ok m2 s3 =>
      rw [hp2] at hm'
      obtain ⟨hm', hnx', hlt', hm1', hm2', hm3'⟩ := hm'
      rw [hm', Option.bind_some]
      dsimp only
      simp only [Zpf]
      rw [if_pos (Z1C rfl)]
      have fall : ∀ z, ClsR l s (.bad 22 s.pos) (Z3l p no x8 s.pos m.1 z (bl l) g d rf 0 0 (all.map ofR)) := by
       intro z
       unfold Z3l
       rw [Z57, Option.bind_some]
       unfold Z1K
       dsimp only
       rw [if_neg (by decide), ZbD _ _ _ _ _ _ _ _ _ _ _ (by decide)]
       exact ⟨by decide, _, rfl⟩
      by_cases e1 : m2.2.1 = []
      ·have hno2 : nilO (if m2.2.1 = [] then Own.nl else Own.ex) (m2.2.1.map ofR) = some true := by rw [if_pos e1]; rfl
       rw [hno2, Option.bind_some, if_neg (show ¬ ((!true) = true) by simp)]
       by_cases e2 : m2.1 < m.1
       ·rw [if_pos (Z2v e2), if_pos (.inr e2)]
        exact fall _
       ·rw [if_neg (Z2e e2), if_neg (show ¬ (m2.2.1 ≠ [] ∨ m2.1 < m.1) by simp only [e1, ne_eq, not_true_eq_false, false_or]; exact e2)]
        exact one m2.1 s3 (hn2.trans hnx') (by omega) (by omega) (by omega)
      ·have hno2 : nilO (if m2.2.1 = [] then Own.nl else Own.ex) (m2.2.1.map ofR) = some false := by rw [if_neg e1]; rfl
       rw [hno2, Option.bind_some, if_pos (show (!false) = true from rfl), if_pos (.inl e1)]
       exact fall _
   ·have hno : nilO (if m.2.1 = [] then Own.nl else Own.ex) (m.2.1.map ofR) = some false := by rw [if_neg hs]; rfl
    have hset := Zlt m.2.2 hm3
    have hlen : (setR m.2.2 m.2.1).length ≤ 100000 := by have := Zq9 m.2.2 m.2.1; omega
    rw [hno, Option.bind_some, if_pos (show (!false) = true from rfl), if_pos hs, Zcc _ (by omega) hm3, Option.bind_some, show (setN (setR m.2.2 m.2.1)).Set = (setR m.2.2 m.2.1).map ofR from rfl, Zp7 hall hset hlen, Option.bind_some, Z6k hnx.at_, Option.bind_some]
    by_cases c1 : peek s1.us = 45
    ·rw [if_pos c1, if_pos (Z1C c1)]
     exact stop _ _ _ _ (by decide)
    ·rw [if_neg c1, if_neg (Z1N c1)]
     exact next _ s1 hnx hlt (ZiT hall hset)
end Go.Proofs.YtadodmjdkphddaaDoor.N2
end
section
set_option linter.unusedSimpArgs false
set_option linter.unusedVariables false
namespace Go.Proofs.YtadodmjdkphddaaDoor.N2
open Go Go.Abs Go.Proofs.Unis Go.Proofs.Norm
set_option maxRecDepth 100000
theorem Nx.refl {l : List UInt8} {s : St} (h : At l s) : Nx l s s := ⟨h, Nat.le_refl _, rfl, rfl⟩
theorem ClsR.of {l : List UInt8} {s : St} {o : Out Z8} {b g : Option (Z8 × Int × Int × Int)} (hb : ClsR l s o b) (hg : ∀ r, b = some r → g = some r) : ClsR l s o g := by
 cases o with
 | ok n s' => exact ⟨hg _ hb.1, hb.2⟩
 | bad c q => obtain ⟨hc, n, hn⟩ := hb; exact ⟨hc, n, hg _ hn⟩
theorem Zns {l : List UInt8} {s : St} (h : At l s) (hl : l.length ≤ 1000) (p g d : Int) (rf : List Zq) : ClsR l s (Zi2 p s) (Z67 p (bl l) s.pos g d rf 0 0) := by
 refine ClsR.of (b := Z4W p (bl l) s.pos g d rf 0 0) ?_ fun r e => ZcJ _ _ _ _ _ _ _ _ e
 have n0 : Z3t [] := trivial
 unfold Z4W Zi2
 cases hw : wd [94] s with
 | none =>
  rw [Z38 w94 h hl hw, Option.bind_some]
  have := h.len
  exact Zhi hl p false g d rf _ true [] s 0 h n0 (by omega) (by simp) (by omega) (by omega)
 | some s1 =>
  obtain ⟨q1, q2, q3⟩ := Z2K w94 h hl hw
  rw [q1, Option.bind_some]
  have := q2.at_.len
  exact (Zhi hl p true g d rf _ true [] s1 0 q2.at_ n0 (by omega) (by simp) (by omega) (by omega)).from q2
theorem w44 : Wd (ByteArray.mk #[44]) [44] := ⟨[44], rfl, rfl, by decide, by decide, by decide⟩
theorem w125 : Wd (ByteArray.mk #[125]) [125] := ⟨[125], rfl, rfl, by decide, by decide, by decide⟩
theorem w63 : Wd (ByteArray.mk #[63]) [63] := ⟨[63], rfl, rfl, by decide, by decide, by decide⟩
theorem w43 : Wd (ByteArray.mk #[43]) [43] := ⟨[43], rfl, rfl, by decide, by decide, by decide⟩
theorem w42 : Wd (ByteArray.mk #[42]) [42] := ⟨[42], rfl, rfl, by decide, by decide, by decide⟩
theorem w123 : Wd (ByteArray.mk #[123]) [123] := ⟨[123], rfl, rfl, by decide, by decide, by decide⟩
theorem ZaI {l : List UInt8} {s : St} (h : At l s) (hl : l.length ≤ 1000) (g d : Int) (rf : List Zq) (x3 x4 : Int) (h4 : 0 ≤ x4 ∧ x4 ≤ 10) (h3 : -1 ≤ x3 ∧ x3 ≤ 100) :
  ∀ r, (if x4 < 2 ∧ digit (peek s.us) = true then Z2Q (10 * max x3 0 + peek s.us - 48) (x4 + 1) (bl l) (take s).pos g d rf 0 0 else some (x3, s.pos)) = some r → Z2Q x3 x4 (bl l) s.pos g d rf 0 0 = some r := by
 intro r hr
 apply Zb9
 unfold Z52 Z3n
 by_cases h5 : x4 < 2
 ·rw [if_pos (Z2v h5), Z6k h, Option.bind_some]
  by_cases h6 : 48 ≤ peek s.us
  ·rw [if_pos (Z2v h6), Option.bind_some]
   by_cases h7 : peek s.us ≤ 57
   ·have hn : s.us ≠ [] := by
     intro e
     rw [e] at h6
     simp [peek] at h6
    rw [if_pos (Z2v h7)]
    unfold Z53
    rw [Z8b h (by omega) hn, Option.bind_some]
    rw [wrap_i64 (n := 10 * max x3 0) (by omega) (by omega), wrap_i64 (n := 10 * max x3 0 + peek s.us) (by omega) (by omega), wrap_i64 (n := 10 * max x3 0 + peek s.us - 48) (by omega) (by omega), wrap_i64 (n := x4 + 1) (by omega) (by omega)]
    rw [if_pos ⟨h5, by simp [digit, h6, h7]⟩] at hr
    exact hr
   ·rw [if_neg (Z2e h7)]
    rw [if_neg (by simp [digit, h7])] at hr
    exact hr
  ·rw [if_neg (Z2e h6)]
   rw [if_neg (by simp [digit, h6])] at hr
   exact hr
 ·rw [if_neg (Z2e h5)]
  rw [if_neg (fun e => h5 e.1)] at hr
  exact hr
theorem ZiJ {u : Int} : digit u = true ↔ 48 ≤ u ∧ u ≤ 57 := by simp [digit]
theorem ZlW {l : List UInt8} {s : St} (h : At l s) (hl : l.length ≤ 1000) (g d : Int) (rf : List Zq) :
  Z3X (bl l) s.pos g d rf 0 0 = some ((pNum s).1, (pNum s).2.pos) ∧ Nx l s (pNum s).2 ∧ -1 ≤ (pNum s).1 ∧ (pNum s).1 ≤ 99 := by
 have top : ∀ r, Z2Q (-1) 0 (bl l) s.pos g d rf 0 0 = some r → Z3X (bl l) s.pos g d rf 0 0 = some r := fun r e => Zcn _ _ _ _ _ _ _ e
 unfold pNum
 by_cases h1 : digit (peek s.us) = true
 ·have r1 := ZiJ.1 h1
  rw [if_pos h1]
  by_cases h2 : digit (peek (take s).us) = true
  ·have r2 := ZiJ.1 h2
   rw [if_pos h2]
   refine ⟨top _ (ZaI h hl g d rf _ _ (by omega) (by omega) _ ?_), (Z6c h).trans (Z6c h.take), by simp only []; omega, by simp only []; omega⟩
   rw [if_pos ⟨by omega, h1⟩]
   refine ZaI h.take hl g d rf _ _ (by omega) (by omega) _ ?_
   rw [if_pos ⟨by omega, h2⟩]
   refine ZaI h.take.take hl g d rf _ _ (by omega) (by omega) _ ?_
   rw [if_neg (by omega)]
   congr 2
   omega
  ·rw [if_neg h2]
   refine ⟨top _ (ZaI h hl g d rf _ _ (by omega) (by omega) _ ?_), Z6c h, by simp only []; omega, by simp only []; omega⟩
   rw [if_pos ⟨by omega, h1⟩]
   refine ZaI h.take hl g d rf _ _ (by omega) (by omega) _ ?_
   rw [if_neg (fun e => h2 e.2)]
   congr 2
   omega
 ·rw [if_neg h1]
  refine ⟨top _ (ZaI h hl g d rf _ _ (by omega) (by omega) _ ?_), Nx.refl h, by simp, by simp⟩
  rw [if_neg (fun e => h1 e.2)]
def CntR (l : List UInt8) (s : St) (o : Out (Int × Int)) (r : Option (Int × Int × Int × Int × Int)) : Prop :=
 match o with
 | .ok n s' => r = some (n.1, n.2, s'.pos, 0, 0) ∧ Nx l s s'
 | .bad c q => c ≠ 0 ∧ ∃ a b, r = some (a, b, (l.length : Int), c, q)
theorem CntR.from {l : List UInt8} {s s1 : St} {o : Out (Int × Int)} {r : Option (Int × Int × Int × Int × Int)} (h : CntR l s1 o r) (hn : Nx l s s1) : CntR l s o r := by
 cases o with
 | ok n s' => exact ⟨h.1, hn.trans h.2⟩
 | bad c q => exact h
theorem ZdA (l : List UInt8) (s : St) (p lo hi : Int) : CntR l s (.bad 23 p) (Z2g p lo hi (bl l) 0 0) := by
 unfold Z2g
 rw [Z57]
 exact ⟨by decide, lo, hi, rfl⟩
theorem ZiA {l : List UInt8} {s : St} (h : At l s) (hl : l.length ≤ 1000) (p lo hi : Int) : CntR l s (pFin p lo hi s) (Z25 p lo hi (bl l) s.pos 0 0) := by
 unfold Z25 pFin
 by_cases h1 : lo < 0
 ·rw [if_pos (.inl h1), if_pos (Z2v h1)]
  exact ZdA ..
 by_cases h2 : hi < lo
 ·rw [if_pos (.inr (.inl h2)), if_neg (Z2e h1), if_pos (Z2v h2)]
  exact ZdA ..
 by_cases h3 : 64 < hi
 ·rw [if_pos (.inr (.inr h3)), if_neg (Z2e h1), if_neg (Z2e h2), if_pos (Z2v h3)]
  exact ZdA ..
 rw [if_neg (show ¬ (lo < 0 ∨ hi < lo ∨ 64 < hi) by omega), if_neg (Z2e h1), if_neg (Z2e h2), if_neg (Z2e h3)]
 cases hw : wd [125] s with
 | none =>
  rw [Z38 w125 h hl hw, Option.bind_some, if_pos (show (!false) = true from rfl)]
  exact ZdA ..
 | some s1 =>
  obtain ⟨q1, q2, q3⟩ := Z2K w125 h hl hw
  rw [q1, Option.bind_some, if_neg (show ¬ ((!true) = true) by simp)]
  exact ⟨rfl, q2⟩
theorem Zmj {l : List UInt8} {s : St} (h : At l s) (hl : l.length ≤ 1000) (p g d : Int) (rf : List Zq) : CntR l s (Zge p s) (Z4M p (bl l) s.pos g d rf 0 0) := by
 have top : ∀ o, CntR l s o (Z4H p (bl l) s.pos g d rf 0 0) → CntR l s o (Z4M p (bl l) s.pos g d rf 0 0) := by
  intro o ho
  cases o with
  | ok n s' => exact ⟨Z7V _ _ _ _ _ _ _ _ ho.1, ho.2⟩
  | bad c q => obtain ⟨hc, a, b, hn⟩ := ho; exact ⟨hc, a, b, Z7V _ _ _ _ _ _ _ _ hn⟩
 apply top
 obtain ⟨n1, n2, n3, n4⟩ := ZlW h hl g d rf
 unfold Z4H Zge
 rw [n1, Option.bind_some]
 dsimp only
 cases hw : wd [44] (pNum s).2 with
 | none =>
  rw [Z38 w44 n2.at_ hl hw, Option.bind_some, if_neg (by simp)]
  exact (ZiA n2.at_ hl p _ _).from n2
 | some s2 =>
  obtain ⟨q1, q2, q3⟩ := Z2K w44 n2.at_ hl hw
  obtain ⟨m1, m2, m3, m4⟩ := ZlW q2.at_ hl g d rf
  rw [q1, Option.bind_some, if_pos rfl]
  dsimp only
  rw [m1, Option.bind_some]
  dsimp only
  have hn := n2.trans (q2.trans m2)
  by_cases h1 : (pNum s2).1 < 0
  ·rw [if_pos (Z2v h1)]
   by_cases h2 : 0 ≤ (pNum s).1
   ·rw [if_pos (Z2v h2), if_pos (show (pNum s2).1 < 0 ∧ 0 ≤ (pNum s).1 from ⟨h1, h2⟩)]
    unfold Z4Z
    have r8 : ∀ s5 : St, CntR l s (.bad 23 p) (Z3m p (pNum s).1 (bl l) s5.pos 0 0) := by
     intro s5
     unfold Z3m Z25
     rw [if_neg (Z2e (show ¬ (pNum s).1 < 0 by omega)), if_pos (Z2v (show (-2 : Int) < (pNum s).1 by omega))]
     exact ZdA ..
    cases hw2 : wd [125] (pNum s2).2 with
    | none =>
     rw [Z38 w125 m2.at_ hl hw2, Option.bind_some, if_neg (by simp)]
     exact r8 _
    | some s4 =>
     obtain ⟨t1, t2, t3⟩ := Z2K w125 m2.at_ hl hw2
     rw [t1, Option.bind_some, if_pos rfl]
     by_cases h3 : (pNum s).1 ≤ 64
     ·dsimp only
      rw [if_pos (Z2v h3), if_pos h3]
      exact ⟨rfl, hn.trans t2⟩
     ·dsimp only
      rw [if_neg (Z2e h3), if_neg h3]
      exact r8 _
   ·rw [if_neg (Z2e h2), if_neg (show ¬ ((pNum s2).1 < 0 ∧ 0 ≤ (pNum s).1) from fun e => h2 e.2)]
    exact (ZiA m2.at_ hl p _ _).from hn
  ·rw [if_neg (Z2e h1), if_neg (show ¬ ((pNum s2).1 < 0 ∧ 0 ≤ (pNum s).1) from fun e => h1 e.1)]
   exact (ZiA m2.at_ hl p _ _).from hn
def fin (l : List UInt8) : St := ⟨[], (l.length : Int), 0, []⟩
theorem fin_at (l : List UInt8) : At l (fin l) := ⟨l.length, Nat.le_refl _, rfl, by rw [List.drop_of_length_le (Nat.le_refl _)]; rfl⟩
theorem Z9p {l : List UInt8} (hl : l.length ≤ 1000) {b : ByteArray} {c : Int} {w : List Int} (hw : Wd b (c :: w)) : Z17 b (bl l) (l.length : Int) = some (false, (l.length : Int)) :=
 Z38 hw (fin_at l) hl rfl
theorem ZeW {l : List UInt8} (hl : l.length ≤ 1000) (c q k lo hi m rr : Int) (st : List Z7) (ks : List Z8) : Z2D (bl l) (l.length : Int) c q k lo hi m rr st ks = some (⟨k, lo, hi, m, rr, st, ks⟩, (l.length : Int), c, q) := by
 unfold Z2D
 rw [Z9p hl w63, Option.bind_some, if_neg (by simp)]
 dsimp only
 rw [Z9p hl w43, Option.bind_some, if_neg (by simp)]
 rfl
theorem Zd6 {l : List UInt8} {s : St} (h : At l s) (hl : l.length ≤ 1000) (kid : Z8) (may : Bool) (p lo hi : Int) : ClsR l s (Zec kid may p lo hi s) (Z23 may p (bl l) s.pos 0 0 4 lo hi 0 0 [] [kid]) := by
 unfold Z23 Zec
 cases may with
 | false =>
  rw [if_pos rfl, if_pos (show (!false) = true from rfl), Z57, Option.bind_some]
  dsimp only
  rw [ZeW hl]
  exact ⟨by decide, _, rfl⟩
 | true =>
  rw [if_neg (by simp), if_neg (show ¬ ((!true) = true) by simp)]
  unfold Z2D Z3a
  cases hw : wd [63] s with
  | some s1 =>
   obtain ⟨t1, t2, t3⟩ := Z2K w63 h hl hw
   rw [t1, Option.bind_some, if_pos rfl]
   exact ⟨rfl, t2⟩
  | none =>
   rw [Z38 w63 h hl hw, Option.bind_some, if_neg (by simp)]
   dsimp only
   cases hw2 : wd [43] s with
   | some s1 =>
    obtain ⟨t1, t2, t3⟩ := Z2K w43 h hl hw2
    rw [t1, Option.bind_some, if_pos rfl]
    exact ⟨rfl, t2⟩
   | none =>
    rw [Z38 w43 h hl hw2, Option.bind_some, if_neg (by simp)]
    exact ⟨rfl, Nx.refl h⟩
theorem Zq8 {l : List UInt8} (hl : l.length ≤ 1000) (kid : Z8) (may : Bool) (g d : Int) (rf : List Zq) (c q : Int) : Z4N kid may (bl l) (l.length : Int) g d rf c q = some (kid, (l.length : Int), c, q) := by
 apply Z7Z
 unfold Z3T
 rw [Z9p hl w42, Option.bind_some, if_neg (by simp)]
 dsimp only
 rw [Z9p hl w43, Option.bind_some, if_neg (by simp)]
 dsimp only
 rw [Z9p hl w63, Option.bind_some, if_neg (by simp)]
 dsimp only
 rw [Z9p hl w123, Option.bind_some, if_neg (by simp)]
theorem Zr5 {l : List UInt8} {s : St} (h : At l s) (hl : l.length ≤ 1000) (kid : Z8) (may : Bool) (g d : Int) (rf : List Zq) : ClsR l s (pRep kid may s) (Z4N kid may (bl l) s.pos g d rf 0 0) := by
 refine ClsR.of (b := Z3T kid may (bl l) s.pos g d rf 0 0) ?_ fun r e => Z7Z _ _ _ _ _ _ _ _ _ e
 unfold Z3T pRep
 cases hw : wd [42] s with
 | some s1 =>
  obtain ⟨t1, t2, t3⟩ := Z2K w42 h hl hw
  rw [t1, Option.bind_some, if_pos rfl]
  exact (Zd6 t2.at_ hl kid may _ _ _).from t2
 | none =>
  rw [Z38 w42 h hl hw, Option.bind_some, if_neg (by simp)]
  dsimp only
  cases hw2 : wd [43] s with
  | some s1 =>
   obtain ⟨t1, t2, t3⟩ := Z2K w43 h hl hw2
   rw [t1, Option.bind_some, if_pos rfl]
   exact (Zd6 t2.at_ hl kid may _ _ _).from t2
  | none =>
   rw [Z38 w43 h hl hw2, Option.bind_some, if_neg (by simp)]
   dsimp only
   cases hw3 : wd [63] s with
   | some s1 =>
    obtain ⟨t1, t2, t3⟩ := Z2K w63 h hl hw3
    rw [t1, Option.bind_some, if_pos rfl]
    exact (Zd6 t2.at_ hl kid may _ _ _).from t2
   | none =>
    rw [Z38 w63 h hl hw3, Option.bind_some, if_neg (by simp)]
    dsimp only
    cases hw4 : wd [123] s with
    | none =>
     rw [Z38 w123 h hl hw4, Option.bind_some, if_neg (by simp)]
     exact ⟨rfl, Nx.refl h⟩
    | some s1 =>
     obtain ⟨t1, t2, t3⟩ := Z2K w123 h hl hw4
     rw [t1, Option.bind_some, if_pos rfl]
     dsimp only
     have hc := Zmj t2.at_ hl s.pos g d rf
     cases hp : Zge s.pos s1 with
     | bad c q =>
      rw [hp] at hc
      obtain ⟨hc0, a, b, hc⟩ := hc
      rw [hc, Option.bind_some]
      unfold Z23
      dsimp only [Out.bind]
      cases may with
      | false =>
       rw [if_pos (show (!false) = true from rfl), ZiK _ _ _ _ _ hc0, Option.bind_some]
       dsimp only
       rw [ZeW hl]
       exact ⟨hc0, _, rfl⟩
      | true =>
       rw [if_neg (show ¬ ((!true) = true) by simp), ZeW hl]
       exact ⟨hc0, _, rfl⟩
     | ok n s2 =>
      rw [hp] at hc
      obtain ⟨hc, hn⟩ := hc
      rw [hc, Option.bind_some]
      exact (Zd6 hn.at_ hl kid may _ _ _).from (t2.trans hn)
end Go.Proofs.YtadodmjdkphddaaDoor.N2
end
section
set_option linter.unusedSimpArgs false
set_option linter.unusedVariables false
namespace Go.Proofs.YtadodmjdkphddaaDoor.N2
open Go Go.Abs Go.Proofs.Unis Go.Proofs.Norm
set_option maxRecDepth 100000
structure Inv (l : List UInt8) (s : St) : Prop where
 at_ : At l s
 g0 : 0 ≤ s.gr
 g9 : s.gr ≤ 9
 rf : s.rf.length + s.us.length ≤ 1500
structure Mv (l : List UInt8) (s s' : St) : Prop where
 at_ : At l s'
 len : s'.us.length ≤ s.us.length
 g0 : 0 ≤ s'.gr
 g9 : s'.gr ≤ 9
 rf : s'.rf.length + s'.us.length ≤ s.rf.length + s.us.length
theorem Mv.inv {l : List UInt8} {s s' : St} (h : Mv l s s') (hi : Inv l s) : Inv l s' := ⟨h.at_, h.g0, h.g9, Nat.le_trans h.rf hi.rf⟩
theorem Mv.trans {l : List UInt8} {s s' s'' : St} (h : Mv l s s') (h' : Mv l s' s'') : Mv l s s'' :=
 ⟨h'.at_, Nat.le_trans h'.len h.len, h'.g0, h'.g9, Nat.le_trans h'.rf h.rf⟩
theorem Nx.mv {l : List UInt8} {s s' : St} (h : Nx l s s') (hi : Inv l s) : Mv l s s' :=
 ⟨h.at_, h.len, by rw [h.gr]; exact hi.g0, by rw [h.gr]; exact hi.g9, by rw [h.rf]; have := h.len; omega⟩
def AltR (l : List UInt8) (d : Int) (s : St) (o : Out Z8) (r : Option (Z8 × Int × Int × Int × List Zq × Int × Int)) : Prop :=
 match o with
 | .ok n s' => r = some (n, s'.pos, s'.gr, d, s'.rf, 0, 0) ∧ Mv l s s'
 | .bad c q => c ≠ 0 ∧ ∃ n g' d' rf', rf'.length ≤ 1500 ∧ r = some (n, (l.length : Int), g', d', rf', c, q)
def AtmR (l : List UInt8) (d : Int) (s : St) (o : Out (Z8 × Bool)) (r : Option (Z8 × Bool × Int × Int × Int × List Zq × Int × Int)) : Prop :=
 match o with
 | .ok n s' => r = some (n.1, n.2, s'.pos, s'.gr, d, s'.rf, 0, 0) ∧ Mv l s s'
 | .bad c q => c ≠ 0 ∧ ∃ n may g' d' rf', rf'.length ≤ 1500 ∧ r = some (n, may, (l.length : Int), g', d', rf', c, q)
theorem AltR.of {l : List UInt8} {d : Int} {s : St} {o : Out Z8} {b g : Option (Z8 × Int × Int × Int × List Zq × Int × Int)} (hb : AltR l d s o b) (hg : ∀ r, b = some r → g = some r) : AltR l d s o g := by
 cases o with
 | ok n s' => exact ⟨hg _ hb.1, hb.2⟩
 | bad c q => obtain ⟨hc, n, g', d', rf', hq, hn⟩ := hb; exact ⟨hc, n, g', d', rf', hq, hg _ hn⟩
theorem AtmR.of {l : List UInt8} {d : Int} {s : St} {o : Out (Z8 × Bool)} {b g : Option (Z8 × Bool × Int × Int × Int × List Zq × Int × Int)} (hb : AtmR l d s o b) (hg : ∀ r, b = some r → g = some r) : AtmR l d s o g := by
 cases o with
 | ok n s' => exact ⟨hg _ hb.1, hb.2⟩
 | bad c q => obtain ⟨hc, n, m, g', d', rf', hq, hn⟩ := hb; exact ⟨hc, n, m, g', d', rf', hq, hg _ hn⟩
theorem AltR.from {l : List UInt8} {d : Int} {s s1 : St} {o : Out Z8} {r : Option (Z8 × Int × Int × Int × List Zq × Int × Int)} (h : AltR l d s1 o r) (hn : Mv l s s1) : AltR l d s o r := by
 cases o with
 | ok n s' => exact ⟨h.1, hn.trans h.2⟩
 | bad c q => exact h
theorem AtmR.from {l : List UInt8} {d : Int} {s s1 : St} {o : Out (Z8 × Bool)} {r : Option (Z8 × Bool × Int × Int × Int × List Zq × Int × Int)} (h : AtmR l d s1 o r) (hn : Mv l s s1) : AtmR l d s o r := by
 cases o with
 | ok n s' => exact ⟨h.1, hn.trans h.2⟩
 | bad c q => exact h
theorem w124 : Wd (ByteArray.mk #[124]) [124] := ⟨[124], rfl, rfl, by decide, by decide, by decide⟩
theorem w41 : Wd (ByteArray.mk #[41]) [41] := ⟨[41], rfl, rfl, by decide, by decide, by decide⟩
theorem wL0 : Wd (ByteArray.mk #[63, 61]) [63, 61] := ⟨[63, 61], rfl, rfl, by decide, by decide, by decide⟩
theorem wL1 : Wd (ByteArray.mk #[63, 33]) [63, 33] := ⟨[63, 33], rfl, rfl, by decide, by decide, by decide⟩
theorem wL2 : Wd (ByteArray.mk #[63, 60, 61]) [63, 60, 61] := ⟨[63, 60, 61], rfl, rfl, by decide, by decide, by decide⟩
theorem wL3 : Wd (ByteArray.mk #[63, 60, 33]) [63, 60, 33] := ⟨[63, 60, 33], rfl, rfl, by decide, by decide, by decide⟩
theorem wAt : Wd (ByteArray.mk #[63, 62]) [63, 62] := ⟨[63, 62], rfl, rfl, by decide, by decide, by decide⟩
theorem wNo : Wd (ByteArray.mk #[63, 58]) [63, 58] := ⟨[63, 58], rfl, rfl, by decide, by decide, by decide⟩
theorem ZgQ (x3 : List Z8) (b : List Int) (a g d : Int) (rf : List Zq) (c q : Int) (hc : c ≠ 0) : Z3V x3 b a g d rf c q = some (joined 2 x3, a, g, d, rf, c, q) := by
 apply Z7T
 unfold Z4F Z2u
 rw [if_neg (Z1N hc), ZbY]
 rfl
theorem Zfd {l : List UInt8} (hl : l.length ≤ 1000) (x3 : List Z8) (g d : Int) (rf : List Zq) (c q : Int) : Z3U x3 (bl l) (l.length : Int) g d rf c q = some (joined 3 x3, (l.length : Int), g, d, rf, c, q) := by
 apply Z7R
 unfold Z3R Z4E
 rw [Z9p hl w124, Option.bind_some, if_neg (by simp), ZbY]
 rfl
theorem Zpq {l : List UInt8} (hl : l.length ≤ 1000) (g d : Int) (rf : List Zq) (c q : Int) (hc : c ≠ 0) : Z37 (bl l) (l.length : Int) g d rf c q = some (nd0, (l.length : Int), g, d, rf, c, q) := by
 apply Z9H
 unfold Z4D
 have : Z4L (bl l) (l.length : Int) g d rf c q = some (nd0, (l.length : Int), g, d, rf, c, q) := by
  apply Z9J
  unfold Z5D
  exact ZgQ _ _ _ _ _ _ _ _ hc
 rw [this, Option.bind_some]
 exact Zfd hl _ _ _ _ _ _
theorem Zps {l : List UInt8} (hl : l.length ≤ 1000) {d : Int} {P : Int → St → Out (Z8 × Bool)} (HP : ∀ p s, Inv l s → AtmR l d s (P p s) (Z3z p (bl l) s.pos s.gr d s.rf 0 0)) {s : St} (h : Inv l s) (hn : s.us ≠ []) :
  AtmR l d (take s) (Z8C P s) (Z6s (bl l) s.pos s.gr d s.rf 0 0) := by
 refine AtmR.of (b := Z5g (bl l) s.pos s.gr d s.rf 0 0) ?_ fun r e => Zdj _ _ _ _ _ _ _ e
 have hnx := Z6c h.at_
 have hiv := (hnx.mv h).inv h
 have m0 : Mv l (take s) (take s) := (Nx.refl hnx.at_).mv hiv
 have hg : (take s).gr = s.gr := hnx.gr
 have hrf : (take s).rf = s.rf := hnx.rf
 have hu : 0 ≤ peek s.us ∧ peek s.us ≤ 1114367 := by
  rcases h.at_.range with ⟨_, h2⟩ | h2
  ·exact absurd h2 hn
  ·omega
 have bad : ∀ c q, c ≠ 0 → AtmR l d (take s) (.bad c q) ((ZT c q (bl l) 0 0).bind fun r7 => Z1n r7.1 s.gr d s.rf r7.2.1 r7.2.2) := by
  intro c q hc
  rw [Z57]
  exact ⟨hc, _, _, _, _, _, show s.rf.length ≤ 1500 by have := h.rf; omega, rfl⟩
 have plain : AtmR l d (take s) (.ok (setN (setR false [(peek s.us, peek s.us)]), true) (take s)) ((Z1G (peek s.us)).bind fun r12 => (Z2X false ([r12] : List Z7)).bind fun r13 => some (r13, true, (take s).pos, s.gr, d, s.rf, 0, 0)) := by
  have hset := Zcc false (L := [(peek s.us, peek s.us)]) (by simp) (by simp; omega)
  rw [Z5R, Option.bind_some, show [Z7.mk (peek s.us) (peek s.us)] = [((peek s.us, peek s.us) : R2)].map ofR from rfl, hset, Option.bind_some]
  exact ⟨by rw [hg, hrf], m0⟩
 unfold Z5g Z8C
 rw [Z8b h.at_ (by omega) hn, Option.bind_some]
 dsimp only
 by_cases h1 : peek s.us = 46
 ·rw [if_pos h1, if_pos (Z1C h1)]
  have hset := Zcc true (L := [((10 : Int), (10 : Int))]) (by simp) (by simp)
  rw [Z5R, Option.bind_some, show [Z7.mk 10 10] = [((10, 10) : R2)].map ofR from rfl, hset, Option.bind_some]
  exact ⟨by rw [hg, hrf], m0⟩
 rw [if_neg h1, if_neg (Z1N h1)]
 by_cases h2 : peek s.us = 94
 ·rw [if_pos h2, if_pos (Z1C h2)]
  exact ⟨by rw [hg, hrf]; rfl, m0⟩
 rw [if_neg h2, if_neg (Z1N h2)]
 by_cases h3 : peek s.us = 36
 ·rw [if_pos h3, if_pos (Z1C h3)]
  exact ⟨by rw [hg, hrf]; rfl, m0⟩
 rw [if_neg h3, if_neg (Z1N h3)]
 by_cases h4 : peek s.us = 92
 ·rw [if_pos h4, if_pos (Z1C h4)]
  have he := Zqw hnx.at_ hl (by have := hiv.rf; omega) s.pos s.gr d
  rw [hrf] at he
  cases hp : pEsc s.pos (take s) with
  | bad c q =>
   rw [hp] at he
   obtain ⟨hc, n, he⟩ := he
   rw [hrf] at he
   rw [he]
   exact ⟨hc, _, _, _, _, _, show s.rf.length ≤ 1500 by have := h.rf; omega, rfl⟩
  | ok n s' =>
   rw [hp] at he
   obtain ⟨he, e1, e2, e3, e4⟩ := he
   rw [he]
   refine ⟨?_, ⟨e1, by omega, by rw [e3, hg]; exact h.g0, by rw [e3, hg]; exact h.g9, e4⟩⟩
   rw [e3, hg]
   rfl
 rw [if_neg h4, if_neg (Z1N h4)]
 by_cases h5 : peek s.us = 91
 ·rw [if_pos h5, if_pos (Z1C h5)]
  have he := Zns hnx.at_ hl s.pos s.gr d s.rf
  cases hp : Zi2 s.pos (take s) with
  | bad c q =>
   rw [hp] at he
   obtain ⟨hc, n, he⟩ := he
   rw [he]
   exact ⟨hc, _, _, _, _, _, show s.rf.length ≤ 1500 by have := h.rf; omega, rfl⟩
  | ok n s' =>
   rw [hp] at he
   obtain ⟨he, e1⟩ := he
   rw [he]
   refine ⟨?_, e1.mv hiv⟩
   rw [e1.gr, e1.rf, hg, hrf]
   rfl
 rw [if_neg h5, if_neg (Z1N h5)]
 by_cases h6 : peek s.us = 40
 ·rw [if_pos h6, if_pos (Z1C h6)]
  have he := HP s.pos (take s) hiv
  rw [hg, hrf] at he
  cases hp : P s.pos (take s) with
  | bad c q =>
   rw [hp] at he
   obtain ⟨hc, n, m, g', d', rf', hq, he⟩ := he
   rw [he]
   exact ⟨hc, _, _, _, _, _, hq, rfl⟩
  | ok n s' =>
   rw [hp] at he
   obtain ⟨he, e1⟩ := he
   rw [he]
   exact ⟨rfl, e1⟩
 rw [if_neg h6, if_neg (Z1N h6)]
 by_cases h7 : peek s.us = 42
 ·rw [if_pos (show peek s.us = 42 ∨ peek s.us = 43 ∨ peek s.us = 63 ∨ peek s.us = 123 from .inl h7), if_pos (Z1C h7), if_pos (Z1C h7)]
  exact bad _ _ (by decide)
 rw [if_neg (Z1N h7)]
 by_cases h8 : peek s.us = 43
 ·rw [if_pos (show peek s.us = 42 ∨ peek s.us = 43 ∨ peek s.us = 63 ∨ peek s.us = 123 from .inr (.inl h8)), if_pos (Z1C h8), if_pos (Z1C h8)]
  exact bad _ _ (by decide)
 rw [if_neg (Z1N h8)]
 by_cases h9 : peek s.us = 63
 ·rw [if_pos (show peek s.us = 42 ∨ peek s.us = 43 ∨ peek s.us = 63 ∨ peek s.us = 123 from .inr (.inr (.inl h9))), if_pos (Z1C h9), if_pos (Z1C h9)]
  exact bad _ _ (by decide)
 rw [if_neg (Z1N h9)]
 by_cases h10 : peek s.us = 123
 ·rw [if_pos (show peek s.us = 42 ∨ peek s.us = 43 ∨ peek s.us = 63 ∨ peek s.us = 123 from .inr (.inr (.inr h10))), if_pos (Z1C h10)]
  exact bad _ _ (by decide)
 rw [if_neg (show ¬ (peek s.us = 42 ∨ peek s.us = 43 ∨ peek s.us = 63 ∨ peek s.us = 123) by omega), if_neg (Z1N h10)]
 by_cases h11 : peek s.us = 93
 ·rw [if_pos (show peek s.us = 93 ∨ peek s.us = 125 from .inl h11), if_pos (Z1C h11), if_pos (Z1C h11)]
  exact bad _ _ (by decide)
 rw [if_neg (Z1N h11)]
 by_cases h12 : peek s.us = 125
 ·rw [if_pos (show peek s.us = 93 ∨ peek s.us = 125 from .inr h12), if_pos (Z1C h12)]
  exact bad _ _ (by decide)
 rw [if_neg (show ¬ (peek s.us = 93 ∨ peek s.us = 125) by omega), if_neg (Z1N h12)]
 exact plain
end Go.Proofs.YtadodmjdkphddaaDoor.N2
end
section
set_option linter.unusedSimpArgs false
set_option linter.unusedVariables false
namespace Go.Proofs.YtadodmjdkphddaaDoor.N2
open Go Go.Abs Go.Proofs.Unis Go.Proofs.Norm
set_option maxRecDepth 100000
section
variable {l : List UInt8} (hl : l.length ≤ 1000) {d : Int} {P : Int → St → Out (Z8 × Bool)} (HP : ∀ p s, Inv l s → AtmR l d s (P p s) (Z3z p (bl l) s.pos s.gr d s.rf 0 0))
theorem Zcu (kids : List Z8) (n : Z8) (h : kids.length ≤ 5000) : lapp kids [n] = some (kids ++ [n]) := by
 unfold lapp
 rw [if_pos (by simp [lim]; omega)]
include hl HP in
theorem Zpu : ∀ (k : Nat) (kids : List Z8) (s : St), Inv l s → s.us.length < k → kids.length + s.us.length ≤ 3000 → AltR l d s (Z9n P k kids s) (Z3V kids (bl l) s.pos s.gr d s.rf 0 0) := by
 intro k
 induction k with
 | zero => intro kids s _ hk; omega
 | succ k ih =>
  intro kids s h hk hb
  have r9 : AltR l d s (.ok (joined 2 kids) s) (Z2u kids s.pos s.gr d s.rf 0 0) := by
   unfold Z2u
   rw [ZbY]
   exact ⟨rfl, (Nx.refl h.at_).mv h⟩
  have r7 : s.us ≠ [] → AltR l d s ((Z8C P s).bind fun m s1 => (pRep m.1 m.2 s1).bind fun n s2 => Z9n P k (kids ++ [n]) s2) (Z3k kids (bl l) s.pos s.gr d s.rf 0 0) := by
   intro hn
   have hlt := Zgf h.at_ hn
   have hiv := ((Z6c h.at_).mv h).inv h
   have ha := Zps hl HP h hn
   unfold Z3k
   cases hp : Z8C P s with
   | bad c q =>
    rw [hp] at ha
    obtain ⟨hc, n, m, g', d', rf', hq, ha⟩ := ha
    rw [ha, Option.bind_some]
    dsimp only
    rw [Zq8 hl, Option.bind_some]
    dsimp only
    rw [Zcu _ _ (by omega), Option.bind_some, ZgQ _ _ _ _ _ _ _ _ hc]
    exact ⟨hc, _, _, _, _, hq, rfl⟩
   | ok n s1 =>
    rw [hp] at ha
    obtain ⟨ha, hm⟩ := ha
    rw [ha, Option.bind_some]
    dsimp only [Out.bind]
    have hi1 := hm.inv hiv
    have hr := Zr5 hm.at_ hl n.1 n.2 s1.gr d s1.rf
    cases hp2 : pRep n.1 n.2 s1 with
    | bad c q =>
     rw [hp2] at hr
     obtain ⟨hc, n', hr⟩ := hr
     rw [hr, Option.bind_some]
     dsimp only
     rw [Zcu _ _ (by omega), Option.bind_some, ZgQ _ _ _ _ _ _ _ _ hc]
     exact ⟨hc, _, _, _, _, show s1.rf.length ≤ 1500 by have := hi1.rf; omega, rfl⟩
    | ok n' s2 =>
     rw [hp2] at hr
     obtain ⟨hr, hx⟩ := hr
     rw [hr, Option.bind_some]
     dsimp only
     rw [Zcu _ _ (by omega), Option.bind_some, ← hx.gr, ← hx.rf]
     have h2 := hx.mv hi1
     have := h2.len
     have := hm.len
     exact (ih (kids ++ [n']) s2 (h2.inv hi1) (by omega) (by simp; omega)).from (((Z6c h.at_).mv h).trans (hm.trans h2))
  refine AltR.of (b := Z4G kids (bl l) s.pos s.gr d s.rf 0 0) ?_ fun r e => ?_
  ·unfold Z4G Z9n
   rw [Z6k h.at_, Option.bind_some]
   by_cases hn : s.us = []
   ·have hp : peek s.us = -1 := by rw [hn]; rfl
    rw [if_pos (show stops s.us = true by rw [hn]; rfl), if_pos (Z1C hp), if_pos (Z1C hp)]
    exact r9
   have hu : 0 ≤ peek s.us := by
    rcases h.at_.range with ⟨_, h2⟩ | h2
    ·exact absurd h2 hn
    ·omega
   have he : s.us.isEmpty = false := by
    cases hs : s.us with
    | nil => exact absurd hs hn
    | cons a b => rfl
   rw [if_neg (Z1N (show ¬ peek s.us = -1 by omega))]
   by_cases h1 : peek s.us = 124
   ·rw [if_pos (show stops s.us = true by simp [stops, h1]), if_pos (Z1C h1), if_pos (Z1C h1)]
    exact r9
   rw [if_neg (Z1N h1)]
   by_cases h2 : peek s.us = 41
   ·rw [if_pos (show stops s.us = true by simp [stops, h2]), if_pos (Z1C h2)]
    exact r9
   rw [if_neg (show ¬ (stops s.us = true) by simp [stops, he, h1, h2]), if_neg (Z1N h2)]
   exact r7 hn
  ·apply Z7T
   unfold Z4F
   rw [if_pos (by rfl)]
   exact e
include hl HP in
theorem Zlw {s : St} (h : Inv l s) : AltR l d s (pCat P s) (Z4L (bl l) s.pos s.gr d s.rf 0 0) := by
 have := h.rf
 refine AltR.of (Zpu hl HP (s.us.length + 1) [] s h (by omega) (by simp; omega)) fun r e => ?_
 apply Z9J
 unfold Z5D
 exact e
include hl HP in
theorem Zpp : ∀ (k : Nat) (kids : List Z8) (s : St), Inv l s → s.us.length < k → kids.length + s.us.length ≤ 3000 → AltR l d s (Zje P k kids s) (Z3U kids (bl l) s.pos s.gr d s.rf 0 0) := by
 intro k
 induction k with
 | zero => intro kids s _ hk; omega
 | succ k ih =>
  intro kids s h hk hb
  refine AltR.of (b := Z3R kids (bl l) s.pos s.gr d s.rf 0 0) ?_ fun r e => Z7R _ _ _ _ _ _ _ _ e
  unfold Z3R Zje
  cases hw : wd [124] s with
  | none =>
   rw [Z38 w124 h.at_ hl hw, Option.bind_some, if_neg (by simp)]
   unfold Z4E
   rw [ZbY]
   exact ⟨rfl, (Nx.refl h.at_).mv h⟩
  | some s1 =>
   obtain ⟨t1, t2, t3⟩ := Z2K w124 h.at_ hl hw
   have m1 := t2.mv h
   rw [t1, Option.bind_some, if_pos rfl]
   unfold Z5O
   have hc := Zlw hl HP (m1.inv h)
   rw [t2.gr, t2.rf] at hc
   dsimp only
   cases hp : pCat P s1 with
   | bad c q =>
    rw [hp] at hc
    obtain ⟨hc0, n, g', d', rf', hq, hc⟩ := hc
    rw [hc, Option.bind_some]
    dsimp only
    rw [Zcu _ _ (by omega), Option.bind_some, Zfd hl]
    exact ⟨hc0, _, _, _, _, hq, rfl⟩
   | ok n s2 =>
    rw [hp] at hc
    obtain ⟨hc, m2⟩ := hc
    rw [hc, Option.bind_some]
    dsimp only
    rw [Zcu _ _ (by omega), Option.bind_some]
    have := m2.len
    exact (ih (kids ++ [n]) s2 (m2.inv (m1.inv h)) (by omega) (by simp; omega)).from (m1.trans m2)
include hl HP in
theorem Zji {s : St} (h : Inv l s) : AltR l d s (Zc2 P s) (Z37 (bl l) s.pos s.gr d s.rf 0 0) := by
 refine AltR.of (b := Z4D (bl l) s.pos s.gr d s.rf 0 0) ?_ fun r e => Z9H _ _ _ _ _ _ _ e
 unfold Z4D Zc2
 have hc := Zlw hl HP h
 cases hp : pCat P s with
 | bad c q =>
  rw [hp] at hc
  obtain ⟨hc0, n, g', d', rf', hq, hc⟩ := hc
  rw [hc, Option.bind_some]
  dsimp only
  rw [Zfd hl]
  exact ⟨hc0, _, _, _, _, hq, rfl⟩
 | ok n s2 =>
  rw [hp] at hc
  obtain ⟨hc, m2⟩ := hc
  rw [hc, Option.bind_some]
  have := m2.len
  have := h.rf
  exact (Zpp hl HP (s2.us.length + 1) [n] s2 (m2.inv h) (by omega) (by simp; omega)).from m2
end
theorem ff : ¬ (false = true) := by simp
theorem Zd2 {l : List UInt8} {s : St} (h : At l s) (hl : l.length ≤ 1000) {L : List ByteArray} {i : Nat} {b : ByteArray} {w : List Int} (hw : Wd b w) (hL : L[i]? = some b) (hi : i ≤ 100) (e : wd w s = none) : ∀ r, Z1B L (L.length : Int) ((i + 1 : Nat) : Int) (bl l) s.pos = some r → Z1B L (L.length : Int) (i : Int) (bl l) s.pos = some r := by
 intro r hr
 have hlt : i < L.length := (List.getElem?_eq_some_iff.1 hL).1
 apply Z4j
 unfold Z2j Z2O
 rw [if_pos (Z2v (by omega)), Z87, hL, Option.bind_some, Z38 hw h hl e, Option.bind_some, if_neg (by simp)]
 unfold Z3x
 rw [wrap_i64 (by omega) (by omega)]
 exact hr
theorem ZeN {l : List UInt8} {s s1 : St} (h : At l s) (hl : l.length ≤ 1000) {L : List ByteArray} {i : Nat} {b : ByteArray} {w : List Int} (hw : Wd b w) (hL : L[i]? = some b) (e : wd w s = some s1) : Z1B L (L.length : Int) (i : Int) (bl l) s.pos = some ((i : Int), s1.pos) := by
 have hlt : i < L.length := (List.getElem?_eq_some_iff.1 hL).1
 apply Z4j
 unfold Z2j Z2O
 rw [if_pos (Z2v (by omega)), Z87, hL, Option.bind_some, (Z2K hw h hl e).1, Option.bind_some, if_pos rfl]
theorem ZpM (l : List UInt8) (p : Int) (L : List ByteArray) : Z1B L (L.length : Int) (L.length : Int) (bl l) p = some (-1, p) := by
 apply Z4j
 unfold Z2j
 rw [if_neg (Z2e (by omega))]
 rfl
theorem Zp8 {l : List UInt8} (hl : l.length ≤ 1000) {d : Int} (hd : 0 ≤ d ∧ d < 32) {A : St → Out Z8} (HA : ∀ s, Inv l s → AltR l (d + 1) s (A s) (Z37 (bl l) s.pos s.gr (d + 1) s.rf 0 0)) (p : Int) (s : St) (h : Inv l s) :
  AtmR l d s (Zeb A p s) (Z3z p (bl l) s.pos s.gr d s.rf 0 0) := by
 have r20 : ∀ (a g : Int) (rf : List Zq) (c q k lo hi m rr : Int) (st : List Z7) (kid : Z8), Z26 a g (d + 1) rf c q k lo hi m rr st kid = some ((if k = 0 then kid else ⟨k, lo, hi, m, rr, st, [kid]⟩), (if k = 0 then true else k != 7), a, g, d, rf, c, q) := by
  intro a g rf c q k lo hi m rr st kid
  unfold Z26 Z48
  rw [wrap_i64 (n := d + 1 - 1) (by omega) (by omega), show d + 1 - 1 = d by omega]
  by_cases hk : k = 0
  ·rw [if_pos (Z1C hk), if_pos hk, if_pos hk]
  ·rw [if_neg (Z1N hk), if_neg hk, if_neg hk]
 have r20' : ∀ (a g d0 : Int) (rf : List Zq) (c q k lo hi m rr : Int) (st : List Z7) (kid : Z8), ∃ n may d', Z26 a g d0 rf c q k lo hi m rr st kid = some (n, may, a, g, d', rf, c, q) := by
  intro a g d0 rf c q k lo hi m rr st kid
  unfold Z26 Z48
  by_cases hk : k = 0
  ·exact ⟨_, _, _, by rw [if_pos (Z1C hk)]⟩
  ·exact ⟨_, _, _, by rw [if_neg (Z1N hk)]⟩
 have stop : ∀ (g d0 : Int) (rf : List Zq) (c q k lo hi m rr : Int) (st : List Z7), c ≠ 0 → rf.length ≤ 1500 → AtmR l d s (.bad c q) (Z1D p (bl l) (l.length : Int) g d0 rf c q k lo hi m rr st) := by
  intro g d0 rf c q k lo hi m rr st hc hq
  unfold Z1D
  rw [Zpq hl _ _ _ _ _ hc, Option.bind_some]
  dsimp only
  rw [if_neg (Z1N hc)]
  obtain ⟨n, may, d', e⟩ := r20' (l.length : Int) g d0 rf c q k lo hi m rr st nd0
  rw [e]
  exact ⟨hc, _, _, _, _, _, hq, rfl⟩
 have go : ∀ (k m rr : Int) (s1 : St), Mv l s s1 → AtmR l d s ((A s1).bind fun kid s2 => match wd [41] s2 with
   | none => .bad 20 p
   | some s3 => if k = 0 then .ok (kid, true) s3 else .ok (⟨k, 0, 0, m, rr, [], [kid]⟩, k != 7) s3) (Z1D p (bl l) s1.pos s1.gr (d + 1) s1.rf 0 0 k 0 0 m rr []) := by
  intro k m rr s1 hm
  have hi1 := hm.inv h
  have ha := HA s1 hi1
  unfold Z1D
  cases hp : A s1 with
  | bad c q =>
   rw [hp] at ha
   obtain ⟨hc, n, g', d', rf', hq, ha⟩ := ha
   rw [ha, Option.bind_some]
   dsimp only
   rw [if_neg (Z1N hc)]
   obtain ⟨n, may, d'', e⟩ := r20' (l.length : Int) g' d' rf' c q k 0 0 m rr [] n
   rw [e]
   exact ⟨hc, _, _, _, _, _, hq, rfl⟩
  | ok n s2 =>
   rw [hp] at ha
   obtain ⟨ha, m2⟩ := ha
   rw [ha, Option.bind_some]
   dsimp only [Out.bind]
   rw [if_pos (Z1C rfl)]
   cases hw : wd [41] s2 with
   | none =>
    rw [Z38 w41 m2.at_ hl hw, Option.bind_some, if_pos (show (!false) = true from rfl)]
    unfold Z55
    rw [Z57, Option.bind_some, r20]
    exact ⟨by decide, _, _, _, _, _, show s2.rf.length ≤ 1500 by have := (m2.inv hi1).rf; omega, rfl⟩
   | some s3 =>
    obtain ⟨t1, t2, t3⟩ := Z2K w41 m2.at_ hl hw
    rw [t1, Option.bind_some, if_neg (show ¬ ((!true) = true) by simp), r20, ← t2.gr, ← t2.rf]
    have mm := hm.trans (m2.trans (t2.mv (m2.inv hi1)))
    dsimp only
    by_cases hk : k = 0
    ·rw [if_pos hk, if_pos hk, if_pos hk]
     exact ⟨rfl, mm⟩
    ·rw [if_neg hk, if_neg hk, if_neg hk]
     exact ⟨rfl, mm⟩
 refine AtmR.of (b := Z4l p (bl l) s.pos s.gr d s.rf 0 0 0 0 0 0 0 []) ?_ fun r e => ?_
 ·unfold Z4l Zeb Zqm
  have g9 := h.g9
  have g0 := h.g0
  have lk : Z9i = some [(ByteArray.mk #[63, 61]), (ByteArray.mk #[63, 33]), (ByteArray.mk #[63, 60, 61]), (ByteArray.mk #[63, 60, 33])] := ZgU rfl
  rw [lk, Option.bind_some, wrap_i64 (n := d + 1) (by omega) (by omega)]
  generalize hL : [(ByteArray.mk #[63, 61]), (ByteArray.mk #[63, 33]), (ByteArray.mk #[63, 60, 61]), (ByteArray.mk #[63, 60, 33])] = L
  have L0 : L[0]? = some (ByteArray.mk #[63, 61]) := by rw [← hL]; rfl
  have L1 : L[1]? = some (ByteArray.mk #[63, 33]) := by rw [← hL]; rfl
  have L2 : L[2]? = some (ByteArray.mk #[63, 60, 61]) := by rw [← hL]; rfl
  have L3 : L[3]? = some (ByteArray.mk #[63, 60, 33]) := by rw [← hL]; rfl
  have Ll : L.length = 4 := by rw [← hL]; rfl
  have idx : ∀ r, Z1B L (L.length : Int) ((0 : Nat) : Int) (bl l) s.pos = some r → Z44 L (bl l) s.pos = some r := by
   intro r e
   apply Z9s
   unfold Z41
   exact e
  cases hw0 : wd [63, 61] s with
  | some s1 =>
   rw [idx _ (ZeN h.at_ hl wL0 L0 hw0), Option.bind_some]
   obtain ⟨t1, t2, t3⟩ := Z2K wL0 h.at_ hl hw0
   have := go 7 0 0 s1 (t2.mv h)
   rw [t2.gr, t2.rf] at this
   exact this
  | none =>
  have i1 := fun r e => idx r (Zd2 h.at_ hl wL0 L0 (by omega) hw0 r e)
  cases hw1 : wd [63, 33] s with
  | some s1 =>
   rw [i1 _ (ZeN h.at_ hl wL1 L1 hw1), Option.bind_some]
   obtain ⟨t1, t2, t3⟩ := Z2K wL1 h.at_ hl hw1
   have := go 7 1 0 s1 (t2.mv h)
   rw [t2.gr, t2.rf] at this
   exact this
  | none =>
  have i2 := fun r e => i1 r (Zd2 h.at_ hl wL1 L1 (by omega) hw1 r e)
  cases hw2 : wd [63, 60, 61] s with
  | some s1 =>
   rw [i2 _ (ZeN h.at_ hl wL2 L2 hw2), Option.bind_some]
   obtain ⟨t1, t2, t3⟩ := Z2K wL2 h.at_ hl hw2
   have := go 7 2 0 s1 (t2.mv h)
   rw [t2.gr, t2.rf] at this
   exact this
  | none =>
  have i3 := fun r e => i2 r (Zd2 h.at_ hl wL2 L2 (by omega) hw2 r e)
  cases hw3 : wd [63, 60, 33] s with
  | some s1 =>
   rw [i3 _ (ZeN h.at_ hl wL3 L3 hw3), Option.bind_some]
   obtain ⟨t1, t2, t3⟩ := Z2K wL3 h.at_ hl hw3
   have := go 7 3 0 s1 (t2.mv h)
   rw [t2.gr, t2.rf] at this
   exact this
  | none =>
  have i4 := i3 _ (Zd2 h.at_ hl wL3 L3 (by omega) hw3 _ (by have := ZpM l s.pos L; rw [Ll] at this ⊢; exact this))
  rw [i4, Option.bind_some]
  dsimp only
  rw [if_neg (Z2e (show ¬ ((0 : Int) ≤ -1) by decide))]
  cases hw4 : wd [63, 62] s with
  | some s1 =>
   obtain ⟨t1, t2, t3⟩ := Z2K wAt h.at_ hl hw4
   rw [t1, Option.bind_some, if_pos rfl]
   have := go 8 0 0 s1 (t2.mv h)
   rw [t2.gr, t2.rf] at this
   exact this
  | none =>
  rw [Z38 wAt h.at_ hl hw4, Option.bind_some, if_neg ff]
  dsimp only
  cases hw5 : wd [63, 58] s with
  | some s1 =>
   obtain ⟨t1, t2, t3⟩ := Z2K wNo h.at_ hl hw5
   rw [t1, Option.bind_some, if_pos rfl]
   have := go 0 0 0 s1 (t2.mv h)
   rw [t2.gr, t2.rf] at this
   exact this
  | none =>
  rw [Z38 wNo h.at_ hl hw5, Option.bind_some, if_neg ff]
  dsimp only
  rw [Z6k h.at_, Option.bind_some]
  by_cases h1 : peek s.us = 63
  ·rw [if_pos h1, if_pos (Z1C h1), Z57, Option.bind_some]
   exact stop _ _ _ _ _ _ _ _ _ _ _ (by decide) (by have := h.rf; omega)
  rw [if_neg h1, if_neg (Z1N h1)]
  by_cases h2 : s.gr = 9
  ·rw [if_pos h2, if_pos (Z1C h2), Z57, Option.bind_some]
   exact stop _ _ _ _ _ _ _ _ _ _ _ (by decide) (by have := h.rf; omega)
  rw [if_neg h2, if_neg (Z1N h2), wrap_i64 (n := s.gr + 1) (by omega) (by omega)]
  have mm : Mv l s { s with gr := s.gr + 1 } := ⟨h.at_, Nat.le_refl _, by simp only []; omega, by simp only []; omega, Nat.le_refl _⟩
  exact go 5 0 (s.gr + 1) { s with gr := s.gr + 1 } mm
 ·apply Z8L
  unfold Z54
  rw [if_neg (Z1N (show ¬ d = 32 by omega))]
  exact e
theorem Zqr {l : List UInt8} (hl : l.length ≤ 1000) : ∀ (k : Nat) (d : Int), d + k = 32 → 0 ≤ d → ∀ s, Inv l s → AltR l d s (pAlt k s) (Z37 (bl l) s.pos s.gr d s.rf 0 0) := by
 intro k
 induction k with
 | zero =>
  intro d hd h0 s h
  refine Zji hl (P := fun p _ => .bad 25 p) ?_ h
  intro p s h
  refine ⟨by decide, nd0, true, s.gr, d, s.rf, by have := h.rf; omega, ?_⟩
  apply Z8L
  unfold Z54
  rw [if_pos (Z1C (show d = 32 by omega)), Z57]
  rfl
 | succ k ih =>
  intro d hd h0 s h
  exact Zji hl (P := fun p s => Zeb (pAlt k) p s) (fun p s h => Zp8 hl (by omega) (ih (d + 1) (by omega) (by omega)) p s h) h
end Go.Proofs.YtadodmjdkphddaaDoor.N2
end
section
set_option linter.unusedSimpArgs false
set_option linter.unusedVariables false
namespace Go.Proofs.YtadodmjdkphddaaDoor.N2
open Go Go.Abs Go.Proofs.Unis Go.Proofs.Norm
set_option maxRecDepth 100000
theorem Zh7 {l : List UInt8} (R : List Zq) (hR : R.length ≤ 2000) (g c q k lo hi m rr : Int) (st : List Z7) (ks : List Z8) (fold : Bool) (hc : c ≠ 0) : ∀ (n i : Nat), i + n = R.length →
  Z5m R (R.length : Int) (i : Int) (bl l) g c q k lo hi m rr st ks fold = some (ZaV, ⟨c, q⟩) := by
 intro n
 induction n with
 | zero =>
  intro i h
  apply Z6r
  unfold Z4z Z5Y
  rw [if_neg (Z2e (by omega)), if_pos (Zlv hc)]
  rfl
 | succ n ih =>
  intro i h
  have hil : i < R.length := by omega
  apply Z6r
  unfold Z4z Z5X
  rw [if_pos (Z2v (by omega)), Z87, List.getElem?_eq_getElem hil, Option.bind_some]
  have r13 : Z3K R (R.length : Int) (i : Int) (bl l) g c q k lo hi m rr st ks fold = some (ZaV, ⟨c, q⟩) := by
   unfold Z3K
   rw [wrap_i64 (by omega) (by omega)]
   exact ih (i + 1) (by omega)
  by_cases hg : g < R[i].group
  ·rw [if_pos (Z2v hg), ZiK _ _ _ _ _ hc, Option.bind_some]
   exact r13
  ·rw [if_neg (Z2e hg)]
   exact r13
theorem Zr4 {l : List UInt8} (R : List Zq) (hR : R.length ≤ 2000) (g k lo hi m rr : Int) (st : List Z7) (ks : List Z8) (fold : Bool) : ∀ (n i : Nat), i + n = R.length →
  Z5m R (R.length : Int) (i : Int) (bl l) g 0 0 k lo hi m rr st ks fold = some (match (R.drop i).find? (fun x => decide (g < x.group)) with
   | some x => (ZaV, ⟨26, x.at_⟩)
   | none => (⟨⟨k, lo, hi, m, rr, st, ks⟩, g, fold⟩, ⟨0, 0⟩)) := by
 intro n
 induction n with
 | zero =>
  intro i h
  rw [List.drop_of_length_le (by omega)]
  apply Z6r
  unfold Z4z Z5Y
  rw [if_neg (Z2e (by omega)), if_neg (Zc4 rfl)]
  rfl
 | succ n ih =>
  intro i h
  have hil : i < R.length := by omega
  apply Z6r
  unfold Z4z Z5X
  rw [if_pos (Z2v (by omega)), Z87, List.getElem?_eq_getElem hil, Option.bind_some, List.drop_eq_getElem_cons hil, List.find?_cons]
  by_cases hg : g < R[i].group
  ·rw [if_pos (Z2v hg), Z57, Option.bind_some]
   simp only [hg, decide_true]
   unfold Z3K
   rw [wrap_i64 (by omega) (by omega)]
   exact Zh7 R hR g 26 _ k lo hi m rr st ks fold (by decide) n (i + 1) (by omega)
  ·rw [if_neg (Z2e hg)]
   simp only [hg, decide_false]
   unfold Z3K
   rw [wrap_i64 (by omega) (by omega)]
   exact ih (i + 1) (by omega)
theorem wFo : Wd (ByteArray.mk #[40, 63, 105, 41]) [40, 63, 105, 41] := ⟨[40, 63, 105, 41], rfl, rfl, by decide, by decide, by decide⟩
def Z89 (x : ByteArray) : ZD × Zj :=
 if 256 < x.data.toList.length then (ZaV, ⟨12, 0⟩) else ZfI (unis x.data.toList)
theorem Zlx {l : List UInt8} (hl : l.length ≤ 1000) (fold : Bool) {s : St} (h : Inv l s) (hg : s.gr = 0) (hrf : s.rf = []) :
  ((Z37 (bl l) s.pos 0 0 [] 0 0).bind fun r2 =>
   if ((r2.2.2.2.2.2.1 == 0)) = true then
   (if ((decide (r2.2.1 < ((bl l).length : Int)))) = true then
   (Z6f (bl l) r2.2.1 r2.2.2.1 r2.2.2.2.2.1 r2.2.2.2.2.2.1 r2.2.2.2.2.2.2 r2.1.Kind r2.1.Lo r2.1.Hi r2.1.Mode r2.1.Ref r2.1.Set r2.1.Kids fold)
   else
   (Z3w (bl l) r2.2.2.1 r2.2.2.2.2.1 r2.2.2.2.2.2.1 r2.2.2.2.2.2.2 r2.1.Kind r2.1.Lo r2.1.Hi r2.1.Mode r2.1.Ref r2.1.Set r2.1.Kids fold))
   else
   (Z3w (bl l) r2.2.2.1 r2.2.2.2.2.1 r2.2.2.2.2.2.1 r2.2.2.2.2.2.2 r2.1.Kind r2.1.Lo r2.1.Hi r2.1.Mode r2.1.Ref r2.1.Set r2.1.Kids fold)) = some (pEnd fold (pAlt 32 s)) := by
 have ha := Zqr hl 32 0 (by omega) (by omega) s h
 rw [hg, hrf] at ha
 cases hp : pAlt 32 s with
 | bad c q =>
  rw [hp] at ha
  obtain ⟨hc, n, g', d', rf', hq, ha⟩ := ha
  rw [ha, Option.bind_some]
  dsimp only
  rw [if_neg (Z1N hc)]
  unfold Z3w pEnd
  exact Zh7 (l := l) rf' (by omega) g' c q n.Kind n.Lo n.Hi n.Mode n.Ref n.Set n.Kids fold hc rf'.length 0 (by omega)
 | ok n s2 =>
  rw [hp] at ha
  obtain ⟨ha, hm⟩ := ha
  have hi := hm.inv h
  have hR := hi.rf
  rw [ha, Option.bind_some]
  dsimp only
  rw [if_pos (Z1C rfl), Z7N]
  unfold Z6f Z3w pEnd
  by_cases hn : s2.us = []
  ·have hpos := hm.at_.nil.1 hn
   rw [if_neg (Z2e (by omega))]
   dsimp only
   rw [if_neg (ZhW hn)]
   have := Zr4 (l := l) s2.rf (by omega) s2.gr n.Kind n.Lo n.Hi n.Mode n.Ref n.Set n.Kids fold s2.rf.length 0 (by omega)
   rw [List.drop_zero, show (⟨n.Kind, n.Lo, n.Hi, n.Mode, n.Ref, n.Set, n.Kids⟩ : Z8) = n by cases n; rfl] at this
   exact this
  ·have hpos : s2.pos < (l.length : Int) := by
    have h1 := hm.at_.len
    have : s2.pos ≠ l.length := fun e => hn (hm.at_.nil.2 e)
    omega
   rw [if_pos (Z2v hpos), Z57, Option.bind_some]
   dsimp only
   rw [if_pos hn]
   exact Zh7 (l := l) s2.rf (by omega) s2.gr 20 _ n.Kind n.Lo n.Hi n.Mode n.Ref n.Set n.Kids fold (by decide) s2.rf.length 0 (by omega)
theorem Z9L (x : ByteArray) : Z4y x = some (Z89 x) := by
 apply ZgT
 unfold Z9e Z89
 have hsz : x.size = x.data.toList.length := rfl
 by_cases h : 256 < x.data.toList.length
 ·rw [if_pos (Z2v (by rw [hsz]; omega)), if_pos h]
  rfl
 ·rw [if_neg (Z2e (by rw [hsz]; omega)), if_neg h]
  unfold Z7e ZfI
  rw [Znq]
  generalize x.data.toList = l at h ⊢
  have hat : At l ⟨unis l, 0, 0, []⟩ := ⟨0, by omega, rfl, rfl⟩
  have hi : Inv l ⟨unis l, 0, 0, []⟩ := ⟨hat, by simp, by simp, by have := hat.len; simp only [] at this; simp; omega⟩
  cases hw : wd [40, 63, 105, 41] ⟨unis l, 0, 0, []⟩ with
  | none =>
   have := Z38 wFo hat (by omega) hw
   dsimp only at this
   rw [this, Option.bind_some]
   exact Zlx (by omega) false hi rfl rfl
  | some s1 =>
   obtain ⟨t1, t2, t3⟩ := Z2K wFo hat (by omega) hw
   dsimp only at t1
   rw [t1, Option.bind_some]
   exact Zlx (by omega) true ((t2.mv hi).inv hi) t2.gr t2.rf
end Go.Proofs.YtadodmjdkphddaaDoor.N2
end
