/- The program's parser is the plain function. No condition. -/
import Derived.Test.YteoeggbihfnbfaaGreatDoorPlainA
import Derived.Test.YteoeggbihfnbfaaGreatDoorTypB
import Derived.Test.YteoeggbihfnbfaaGreatDoorTypC

section
set_option linter.unusedSimpArgs false
set_option linter.unusedVariables false
namespace Go.Proofs.YteoeggbihfnbfaaGreatDoor.N2
open Go Go.Abs Go.Proofs.Unis Go.Proofs.Norm
set_option maxRecDepth 100000
theorem Zwp {a b : ByteArray} : seq a b = true ↔ a = b := by
 unfold seq
 rw [← beq_toListBytes]
 obtain ⟨⟨x⟩⟩ := a
 obtain ⟨⟨y⟩⟩ := b
 show ((⟨x⟩ : Array UInt8) == ⟨y⟩) = true ↔ _
 simp
theorem Z34 {α : Type} (l : List α) (i : Nat) : lget l (i : Int) = l[i]? := by simp [lget]
def bl (l : List UInt8) : List Int := l.map fun b => (b.toNat : Int)
theorem Zch (l : List UInt8) : (bl l).length = l.length := by simp [bl]
theorem ZAv (x : ByteArray) : Z4k x = bl x.data.toList := rfl
theorem ZFD (l : List UInt8) : strI (bl l) = ⟨l.toArray⟩ := by
 unfold strI bl
 rw [List.map_map]
 have : (fun n : Int => UInt8.ofNat n.toNat) ∘ (fun b : UInt8 => (b.toNat : Int)) = id := by
  funext b
  simp
 rw [this, List.map_id]
theorem ZBK (l : List UInt8) (i j : Nat) (h : i ≤ j) (hj : j ≤ l.length) : lsl (bl l) (i : Int) (j : Int) = some (bl ((l.drop i).take (j - i))) := by
 unfold lsl
 rw [if_pos (by rw [Zch]; omega)]
 simp only [Int.toNat_natCast, bl, ← List.map_take, ← List.map_drop, List.drop_take]
theorem Zyj (l : List UInt8) (h : l ≠ []) : Z92 (bl l) = some (((Lib.decodeGo ⟨l.toArray⟩).1 : Int), ((Lib.decodeGo ⟨l.toArray⟩).2 : Int)) := by
 refine Z1a (fun _ _ ha hb => RRun.uniq Zh3 (ha .sh) (hb .sh)) fun o => ?_
 have e : EE 146 [(.p (.lst o ((bl l).map (eI .u8))))] [] = some ((.p (.tup [(.v (.int .i32 (Lib.decodeGo ⟨l.toArray⟩).1)), (.v (.int .i64 (Lib.decodeGo ⟨l.toArray⟩).2))])), []) := by
  rw [show EE 146 = E PP XX HH 146 from rfl, Zuq (P := PP) (X := XX) (H := HH) (f := 146) (m := Zph) (by kernel_rfl)]
  have hb : (bl l).map (eI .u8) = l.map fun b => .v (.int .u8 b.toNat) := by
   unfold bl
   rw [List.map_map]
   rfl
  rw [hb]
  cases l with
  | nil => exact absurd rfl h
  | cons a r =>
   show (Zh4 ((a :: r).map fun b => .v (.int .u8 b.toNat))).map _ = _
   rw [ZqY]
   rfl
 exact ⟨_, e, [], by simp⟩
theorem Zw5 (l : List UInt8) (i : Nat) (h : i < l.length) : Zea (bl l) (i : Int) = some ((U (l.drop i)).1, ((U (l.drop i)).2 : Int)) := by
 have hne : l.drop i ≠ [] := by
  intro e
  have := congrArg List.length e
  simp at this
  omega
 apply ZtL
 unfold ZgW
 rw [if_neg (by simp), if_neg (by simp [Zch]; omega)]
 unfold ZcU
 have hl : lsl (bl l) (i : Int) ((bl l).length : Int) = some (bl (l.drop i)) := by
  rw [Zch, ZBK l i l.length (by omega) (Nat.le_refl _), List.take_of_length_le (by simp)]
 rw [hl, Option.bind_some, Zyj _ hne, Option.bind_some]
 have hd := ZFN hne
 have hU : U (l.drop i) = Zc1 (nth (l.drop i) 0) (Lib.decodeGo ⟨(l.drop i).toArray⟩) := by
  rw [hd]; rfl
 have h0 : nth (l.drop i) 0 = (l.getD i 0).toNat := by simp [nth]
 have hg : lget (bl l) (i : Int) = some (((l.getD i 0).toNat : Nat) : Int) := by
  rw [Z34, bl, List.getElem?_map, List.getD_eq_getElem?_getD, List.getElem?_eq_getElem h]
  rfl
 have hlt : (l.getD i 0).toNat < 256 := UInt8.toNat_lt _
 have hb := (Zuo ⟨(l.drop i).toArray⟩).1
 rw [hU, Zc1]
 simp only [beq_iff_eq]
 have r6 : Z98 ((Lib.decodeGo ⟨(l.drop i).toArray⟩).1 : Int) ((Lib.decodeGo ⟨(l.drop i).toArray⟩).2 : Int) = some (((Lib.decodeGo ⟨(l.drop i).toArray⟩).1 : Int), ((Lib.decodeGo ⟨(l.drop i).toArray⟩).2 : Int)) := by
  unfold Z98
  rw [wrap_i64 (by omega) (by omega)]
 by_cases h1 : (Lib.decodeGo ⟨(l.drop i).toArray⟩).1 = 65533
 ·rw [if_pos (by omega)]
  by_cases h2 : (Lib.decodeGo ⟨(l.drop i).toArray⟩).2 = 1
  ·rw [if_pos (by omega), if_pos ⟨h1, h2⟩]
   unfold ZcV
   rw [hg, Option.bind_some, wrap_i64 (n := ((l.getD i 0).toNat : Int)) (by omega) (by omega), wrap_i64 (by omega) (by omega), h0]
   rfl
  ·rw [if_neg (by omega), if_neg (fun h => h2 h.2), r6]
 ·rw [if_neg (by omega), if_neg (fun h => h1 h.1), r6]
def At (l : List UInt8) (s : St) : Prop := ∃ i : Nat, i ≤ l.length ∧ s.pos = (i : Int) ∧ s.us = unis (l.drop i)
theorem At.nil {l : List UInt8} {s : St} (h : At l s) : s.us = [] ↔ s.pos = l.length := by
 obtain ⟨i, h1, h2, h3⟩ := h
 rw [h3, h2]
 constructor
 ·intro e
  by_cases hn : l.drop i = []
  ·have := congrArg List.length hn
   simp at this
   omega
  ·rw [ZhI hn] at e
   simp at e
 ·intro e
  rw [List.drop_of_length_le (by omega)]
  rfl
theorem At.len {l : List UInt8} {s : St} (h : At l s) : s.us.length ≤ l.length ∧ 0 ≤ s.pos ∧ s.pos ≤ l.length := by
 obtain ⟨i, h1, h2, h3⟩ := h
 have := Zwx _ (l.drop i) (Nat.le_refl _)
 rw [List.length_drop] at this
 rw [h3]
 omega
theorem At.cons {l : List UInt8} {s : St} (h : At l s) (hn : s.us ≠ []) : ∃ (i : Nat), i < l.length ∧ s.pos = (i : Int) ∧ peek s.us = (U (l.drop i)).1 ∧ (take s).pos = (i : Int) + ((U (l.drop i)).2 : Int) ∧ (take s).us = unis (l.drop (i + (U (l.drop i)).2)) ∧ i + (U (l.drop i)).2 ≤ l.length ∧ s.us.length = (take s).us.length + 1 := by
 have hp : s.pos ≠ l.length := fun e => hn (h.nil.2 e)
 obtain ⟨i, h1, h2, h3⟩ := h
 have hi : i < l.length := by omega
 have hne : l.drop i ≠ [] := by
  intro e
  have := congrArg List.length e
  simp at this
  omega
 have hz := ZFM hne
 rw [List.length_drop] at hz
 rw [ZhI hne] at h3
 refine ⟨i, hi, h2, by rw [h3]; rfl, ?_, ?_, by omega, ?_⟩
 ·unfold take
  rw [h3]
  show s.pos + _ = _
  rw [h2]
 ·unfold take
  rw [h3]
  show unis _ = _
  rw [List.drop_drop]
 ·unfold take
  rw [h3]
  rfl
theorem At.take {l : List UInt8} {s : St} (h : At l s) : At l (take s) := by
 by_cases hn : s.us = []
 ·have : N2.take s = s := by unfold N2.take; rw [hn]
  rw [this]
  exact h
 ·obtain ⟨i, h1, h2, h3, h4, h5, h6, h7⟩ := h.cons hn
  exact ⟨i + (U (l.drop i)).2, h6, by rw [h4]; omega, h5⟩
theorem At.range {l : List UInt8} {s : St} (h : At l s) : peek s.us = -1 ∧ s.us = [] ∨ 0 ≤ peek s.us ∧ peek s.us ≤ 1114367 ∧ s.us ≠ [] := by
 by_cases hn : s.us = []
 ·exact .inl ⟨by rw [hn]; rfl, hn⟩
 ·obtain ⟨i, _, _, h3, _⟩ := h.cons hn
  have := ZDE (l.drop i)
  exact .inr ⟨by omega, by omega, hn⟩
theorem Z9w {l : List UInt8} {s : St} (h : At l s) (g d : Int) (rf : List Zx) (f : Zl) : Z2D ⟨bl l, s.pos, g, d, rf, f⟩ = some (peek s.us) := by
 apply ZkF
 unfold Z9z
 by_cases hn : s.us = []
 ·have := h.nil.1 hn
  rw [if_pos (by simp [Zch]; omega), hn]
  rfl
 ·obtain ⟨i, h1, h2, h3, _⟩ := h.cons hn
  rw [if_neg (by simp [Zch]; omega)]
  unfold Z87
  simp only [h2]
  rw [Zw5 l i h1, Option.bind_some, h3]
theorem ZcI {l : List UInt8} {s : St} (h : At l s) (hl : l.length ≤ 100000) (hn : s.us ≠ []) : Z3e (bl l) s.pos = some (peek s.us, (take s).pos) := by
 obtain ⟨i, h1, h2, h3, h4, h5, h6, _⟩ := h.cons hn
 apply ZkG
 unfold Z9A
 rw [h2, Zw5 l i h1, Option.bind_some, h3, h4, wrap_i64 (by omega) (by omega)]
theorem ZxN : ∀ (w : List Int) (us t : List Un), isW w us = some t → us.length = t.length + w.length
 | [], us, t, h => by
  simp only [isW, Option.some.injEq] at h
  subst h
  rfl
 | c :: w, [], t, h => by simp [isW] at h
 | c :: w, (u, n) :: us, t, h => by
  simp only [isW] at h
  split at h
  ·have := ZxN w us t h
   simp only [List.length_cons]
   omega
  ·simp at h
theorem Zu5 : ∀ (w : List UInt8) (l : List UInt8), (∀ c ∈ w, c.toNat < 128) → isW (bl w) (unis l) = if l.take w.length = w then some (unis (l.drop w.length)) else none
 | [], l, _ => by simp [bl, isW]
 | c :: w, [], _ => by simp [bl, isW, ZqP]
 | c :: w, x :: l, hw => by
  have hc := hw c (List.mem_cons_self ..)
  have hc' : c.toNat < 128 := hc
  show (isW ((c.toNat : Int) :: bl w) (unis (x :: l))) = _
  by_cases hx : x.toNat < 128
  ·rw [ZAh hx]
   simp only [isW, List.length_cons, List.take_succ_cons, List.drop_succ_cons, List.cons.injEq]
   by_cases he : x = c
   ·subst he
    simp only [if_true, true_and]
    exact Zu5 w l fun d hd => hw d (List.mem_cons_of_mem _ hd)
   ·have : ¬ ((x.toNat : Int) = (c.toNat : Int)) := fun e => he (UInt8.toNat_inj.1 (by omega))
    rw [if_neg this, if_neg (fun e => he e.1)]
  ·have hU := ZFL (c := x) (l := l) (by omega)
   rw [ZhI (by simp)]
   simp only [isW, List.length_cons, List.take_succ_cons, List.cons.injEq]
   rw [if_neg (by omega), if_neg (fun e => by rw [e.1] at hx; omega)]
theorem Zwz {l : List UInt8} {s : St} (h : At l s) (hl : l.length ≤ 100000) (w : List UInt8) (hw : ∀ c ∈ w, c.toNat < 128) (hwl : w.length ≤ 100) :
  Z1F ⟨w.toArray⟩ (bl l) s.pos = some (match wd (bl w) s with | some s1 => (true, s1.pos) | none => (false, s.pos)) ∧ ∀ s1, wd (bl w) s = some s1 → At l s1 ∧ s.us.length = s1.us.length + w.length ∧ s1.gr = s.gr ∧ s1.rf = s.rf := by
 obtain ⟨i, h1, h2, h3⟩ := h
 have hW := Zu5 w (l.drop i) hw
 have hsz : (⟨w.toArray⟩ : ByteArray).size = w.length := by show w.toArray.size = _; simp
 have hwd : wd (bl w) s = if (l.drop i).take w.length = w then some { s with us := unis ((l.drop i).drop w.length), pos := s.pos + w.length } else none := by
  unfold wd
  rw [h3, hW]
  by_cases hc : (l.drop i).take w.length = w
  ·rw [if_pos hc, if_pos hc]
   simp only [Zch]
  ·rw [if_neg hc, if_neg hc]
 have hlen : (l.drop i).take w.length = w → i + w.length ≤ l.length := by
  intro e
  have := congrArg List.length e
  simp at this
  omega
 constructor
 ·apply ZkH
  unfold Z9B
  rw [hwd, h2, Zch, hsz, wrap_i64 (n := (l.length : Int) - i) (by omega) (by omega), wrap_i64 (n := (i : Int) + (w.length : Int)) (by omega) (by omega)]
  by_cases hk : i + w.length ≤ l.length
  ·rw [if_neg (by simp; omega), show (i : Int) + (w.length : Int) = ((i + w.length : Nat) : Int) by omega, ZBK l i _ (by omega) hk, Option.bind_some, ZFD, Nat.add_sub_cancel_left]
   by_cases hc : (l.drop i).take w.length = w
   ·rw [if_pos hc, hc, if_neg (by simp [Zwp])]
    unfold Z89
    rw [hsz, wrap_i64 (by omega) (by omega)]
    simp
   ·have hs : seq ⟨((l.drop i).take w.length).toArray⟩ ⟨w.toArray⟩ = false := by
     cases hq : seq ⟨((l.drop i).take w.length).toArray⟩ ⟨w.toArray⟩ with
     | false => rfl
     | true =>
      have := Zwp.1 hq
      exact absurd (by simpa using congrArg (fun x : ByteArray => x.data.toList) this) hc
    rw [if_neg hc, hs, if_pos (by rfl)]
    rfl
  ·rw [if_pos (by simp; omega), if_neg (fun e => hk (hlen e))]
   rfl
 ·intro s1 e
  rw [hwd] at e
  split at e
  ·rename_i hc
   cases e
   have hk := hlen hc
   rw [if_pos hc] at hW
   have := ZxN _ _ _ hW
   rw [Zch] at this
   exact ⟨⟨i + w.length, hk, by simp only [h2]; omega, by simp only [List.drop_drop]⟩, by rw [h3]; exact this, rfl, rfl⟩
  ·simp at e
theorem Z6H (c p : Int) (l : List UInt8) : Z1h c p (bl l) 0 0 = some ((l.length : Int), c, p) := by
 apply ZdT
 unfold Z7K
 rw [if_pos (by rfl)]
 unfold Z56
 rw [Zch]
theorem ZtZ (c p c0 p0 : Int) (l : List UInt8) (h : c0 ≠ 0) : Z1h c p (bl l) c0 p0 = some ((l.length : Int), c0, p0) := by
 apply ZdT
 unfold Z7K
 rw [if_neg (by simpa using h)]
 unfold Z56
 rw [Zch]
theorem Z8C (u : Int) : Z2u u = some ⟨u, u⟩ := ZtH _ rfl
theorem Zis (k : Int) (l : List Z7) : Zb2 k l = some (joined k l) := by
 apply Zpr
 unfold ZcQ
 match l with
 | [] => rfl
 | [x] => rfl
 | x :: y :: r =>
  rw [if_neg (by simp; omega), if_neg (by simp; omega)]
  rfl
end Go.Proofs.YteoeggbihfnbfaaGreatDoor.N2
end
section
set_option linter.unusedSimpArgs false
set_option linter.unusedVariables false
namespace Go.Proofs.Norm
def AscF (a : Int) : List R2 → Prop
 | [] => True
 | r :: t => (0 ≤ r.1 ∧ r.1 ≤ r.2 ∧ r.2 ≤ 1114367) ∧ a + 2 ≤ r.1 ∧ AscF r.2 t
def Zor (a : Int) : List R2 → Int
 | [] => a
 | r :: t => Zor r.2 t
theorem Zna (a : Int) : ∀ (l : List R2) (r : R2), Zor a (l ++ [r]) = r.2
 | [], r => rfl
 | x :: l, r => Zna x.2 l r
theorem ZpU : ∀ (l : List R2) (a : Int) (r : R2), AscF a (l ++ [r]) ↔ AscF a l ∧ (0 ≤ r.1 ∧ r.1 ≤ r.2 ∧ r.2 ≤ 1114367) ∧ Zor a l + 2 ≤ r.1
 | [], a, r => by simp [AscF, Zor]
 | x :: l, a, r => by
  simp only [List.cons_append, AscF, Zor, ZpU l x.2 r]
  constructor
  ·rintro ⟨h1, h2, h3, h4⟩; exact ⟨⟨h1, h2, h3⟩, h4⟩
  ·rintro ⟨⟨h1, h2, h3⟩, h4⟩; exact ⟨h1, h2, h3, h4⟩
theorem Desc.asc : ∀ {l : List R2}, Desc l → AscF (-2) l.reverse
 | [], _ => trivial
 | [r], h => by
  have h : 0 ≤ r.1 ∧ r.1 ≤ r.2 ∧ r.2 ≤ 1114367 := h
  exact ⟨h, by omega, trivial⟩
 | r :: o :: os, h => by
  rw [List.reverse_cons, ZpU]
  refine ⟨h.2.2.asc, h.1, ?_⟩
  rw [List.reverse_cons, Zna]
  exact h.2.1
theorem AscF.norm : ∀ {l : List R2}, AscF (-2) l.reverse → Desc l
 | [], _ => trivial
 | [r], h => h.1
 | r :: o :: os, h => by
  rw [List.reverse_cons, ZpU] at h
  refine ⟨h.2.1, ?_, h.1.norm⟩
  have := h.2.2
  rw [List.reverse_cons, Zna] at this
  exact this
theorem Zdd {l : List R2} : Z4s l ↔ AscF (-2) l := by
 unfold Z4s
 constructor
 ·intro h
  have := h.asc
  rwa [List.reverse_reverse] at this
 ·intro h
  apply AscF.norm
  rwa [List.reverse_reverse]
theorem AscF.mono : ∀ {l : List R2} {a a' : Int}, AscF a l → a' ≤ a → AscF a' l
 | [], _, _, _, _ => trivial
 | r :: t, a, a', h, hl => ⟨h.1, by have := h.2.1; omega, h.2.2⟩
theorem AscF.right : ∀ {l : List R2} {a : Int}, AscF a l → ∀ r ∈ l, 0 ≤ r.1 ∧ r.1 ≤ r.2 ∧ r.2 ≤ 1114367
 | [], _, _, r, hr => by simp at hr
 | x :: t, a, h, r, hr => by
  rcases List.mem_cons.1 hr with rfl | hr
  ·exact h.1
  ·exact h.2.2.right r hr
theorem AscF.len : ∀ {l : List R2} {a : Int}, AscF a l → l ≠ [] → a + 2 * (l.length : Int) ≤ 1114367
 | [], _, _, hn => absurd rfl hn
 | [r], a, h, _ => by
  have := h.1
  have := h.2.1
  simp only [List.length_cons, List.length_nil]
  omega
 | r :: o :: t, a, h, _ => by
  have := h.1
  have := h.2.1
  have := h.2.2.len (by simp)
  simp only [List.length_cons] at *
  omega
theorem Znh {l : List R2} (h : Z4s l) : l.length ≤ 557185 := by
 by_cases hn : l = []
 ·subst hn; simp
 ·have := (Zdd.1 h).len hn
  omega
theorem ZcE {l : List R2} (h : Z4s l) : ∀ r ∈ l, 0 ≤ r.1 ∧ r.1 ≤ r.2 ∧ r.2 ≤ 1114367 := (Zdd.1 h).right
end Go.Proofs.Norm
namespace Go.Proofs.YteoeggbihfnbfaaGreatDoor.N2
open Go Go.Abs Go.Proofs.Unis Go.Proofs.Norm
set_option maxRecDepth 100000
theorem ZqE : ∀ (l : List R2) (at_ a : Int), 0 ≤ at_ → a + 2 ≤ at_ → AscF (at_ - 2) l → AscF a (notL at_ l)
 | [], at_, a, h0, ha, _ => by
  unfold notL
  split
  ·exact ⟨⟨h0, by assumption, by simp⟩, ha, trivial⟩
  ·trivial
 | r :: t, at_, a, h0, ha, h => by
  have h1 := h.1
  have h2 := h.2.1
  unfold notL
  split
  ·exact ⟨⟨h0, by simp only []; omega, by simp only []; omega⟩, ha, ZqE t _ _ (by omega) (by simp only []; omega) (h.2.2.mono (by omega))⟩
  ·exact ZqE t _ _ (by omega) (by omega) (h.2.2.mono (by omega))
theorem ZpM {l : List R2} (h : Z4s l) : Z4s (notF l) :=
 Zdd.2 (ZqE l 0 (-2) (by omega) (by omega) (Zdd.1 h))
theorem Zue (r : R2) : Z7P (ofR r) = some (decide (0 ≤ r.1 ∧ r.1 ≤ r.2 ∧ r.2 ≤ 1114367)) := by
 apply Zkv
 unfold Z9x
 simp only [ofR]
 by_cases h1 : 0 ≤ r.1
 ·by_cases h2 : r.1 ≤ r.2
  ·simp [h1, h2]
   exact decide_eq_decide.2 Iff.rfl
  ·simp [h1, h2]
 ·simp [h1]
theorem Zpb (rs : List R2) : (rs.map ofR).map ZA = rs.map encR := by
 rw [List.map_map]
 rfl
theorem ZkT : ∀ rs : List R2, Zf2 (rs.map encR) = some rs
 | [] => rfl
 | r :: t => by
  rw [List.map_cons, Zf2, ZkT t]
  rfl
theorem ZrJ (rs : List R2) (hl : rs.length ≤ 1048576) (hr : ∀ r ∈ rs, 0 ≤ r.1 ∧ r.1 ≤ r.2 ∧ r.2 ≤ 1114367) : ZcZ (rs.map ofR) = some ((Z77 rs).map ofR) := by
 refine Z1a (fun _ _ ha hb => RRun.uniq ZpX (ha .sh) (hb .sh)) fun o => ?_
 have e : EE 169 [(.p (.lst o ((rs.map ofR).map ZA)))] [] = some ((.p (.lst .sh (((Z77 rs).map ofR).map ZA))), []) := by
  rw [show EE 169 = E PP XX HH 169 from rfl, Zuq (P := PP) (X := XX) (H := HH) (f := 169) (m := Zm4) (by kernel_rfl), Zpb, Zpb]
  unfold Zm4
  simp only [ZkT]
  rw [if_pos ⟨hl, hr⟩]
 exact ⟨_, e, [], by simp⟩
theorem Zyh (a b : List R2) (hl : a.length + b.length ≤ 1048576) : Zba [a.map ofR, b.map ofR] = some ((a ++ b).map ofR) := by
 refine Z1a (fun _ _ ha hb => RRun.uniq ZjC (ha .sh) (hb .sh)) fun o => ?_
 have e : EE 174 [(.p (.lst o ([a.map ofR, b.map ofR].map (eL ZA))))] [] = some ((.p (.lst .sh (((a ++ b).map ofR).map ZA))), []) := by
  rw [show EE 174 = E PP XX HH 174 from rfl, Zuq (P := PP) (X := XX) (H := HH) (f := 174) (m := Zm3) (by kernel_rfl), Zpb]
  have h1 : [a.map ofR, b.map ofR].map (eL ZA) = [.lst .sh (a.map encR), .lst .sh (b.map encR)] := by
   simp only [List.map_cons, List.map_nil, eL, Zpb]
  rw [h1]
  unfold Zm3
  simp only [ZlQ, ZkT, Option.map_some, List.flatten_cons, List.flatten_nil, List.append_nil]
  rw [if_pos ⟨by simp, by rw [List.length_append]; exact hl⟩]
 exact ⟨_, e, [], by simp⟩
theorem ZtN {rs : List R2} {i : Nat} (h : i < rs.length) : lget (rs.map ofR) (i : Int) = some (ofR rs[i]) := by
 rw [Z34, List.getElem?_map, List.getElem?_eq_getElem h]
 rfl
theorem Zup (L : List R2) (hl : L.length ≤ 1000000) : ∀ (d i : Nat) (a : Int), i + d = L.length → -2 ≤ a → a ≤ 1114367 → AscF a (L.drop i) → Z6U a (L.map ofR) (L.length : Int) (i : Int) = some true := by
 intro d
 induction d with
 | zero =>
  intro i a h _ _ _
  apply Zcj
  unfold Z6K
  rw [if_neg (by simp; omega)]
  rfl
 | succ d ih =>
  intro i a h ha ha2 hA
  have hi : i < L.length := by omega
  rw [List.drop_eq_getElem_cons hi] at hA
  have h1 := hA.1
  have h2 := hA.2.1
  apply Zcj
  unfold Z6K Z8s
  rw [if_pos (by simp; omega), ZtN hi, Option.bind_some, Zue, Option.bind_some, if_neg (by simp; omega), wrap_i64 (n := a + 2) (by omega) (by omega), if_neg (by rw [decide_eq_true_eq]; show ¬ (L[i].1 < a + 2); omega)]
  unfold Z8u Z8v
  rw [wrap_i64 (by omega) (by omega)]
  exact ih (i + 1) _ (by omega) (by simp only [ofR]; omega) (by simp only [ofR]; omega) hA.2.2
theorem Zjq {L : List R2} (h : Z4s L) : Z6T (L.map ofR) = some true := by
 apply Zlq
 unfold Za3
 rw [List.length_map]
 have := Znh h
 exact Zup L (by omega) L.length 0 (-2) (by omega) (by omega) (by omega) (Zdd.1 h)
theorem ZD3 (L : List R2) (hl : L.length ≤ 1000000) (hr : ∀ r ∈ L, 0 ≤ r.1 ∧ r.1 ≤ r.2 ∧ r.2 ≤ 1114367) : ∀ (d i : Nat) (acc : List R2) (a : Int), i + d = L.length → acc.length ≤ i → 0 ≤ a → a ≤ 1114368 → Z8k (acc.map ofR) a (L.map ofR) (L.length : Int) (i : Int) = some ((acc ++ notL a (L.drop i)).map ofR) := by
 intro d
 induction d with
 | zero =>
  intro i acc a h hacc ha ha2
  rw [List.drop_of_length_le (by omega)]
  apply ZeR
  unfold Z8f
  rw [if_neg (by simp; omega)]
  unfold Z9y notL
  by_cases hc : a ≤ 1114367
  ·rw [if_pos (by simpa using hc), if_pos hc]
   unfold lapp
   rw [if_pos (by simp [lim]; omega)]
   unfold Z6o
   simp [ofR]
  ·rw [if_neg (by simpa using hc), if_neg hc]
   unfold Z6o
   simp
 | succ d ih =>
  intro i acc a h hacc ha ha2
  have hi : i < L.length := by omega
  have h1 := hr L[i] (List.getElem_mem hi)
  rw [List.drop_eq_getElem_cons hi]
  apply ZeR
  unfold Z8f Za5
  rw [if_pos (by simp; omega), ZtN hi, Option.bind_some]
  unfold notL
  have r8 : ∀ acc' : List R2, acc'.length ≤ i + 1 → Z6L (acc'.map ofR) (L.map ofR) (L.length : Int) (i : Int) (ofR L[i]) = some ((acc' ++ notL (L[i].2 + 1) (L.drop (i + 1))).map ofR) := by
   intro acc' hacc'
   unfold Z6L Za6
   rw [show (ofR L[i]).Hi = L[i].2 from rfl, wrap_i64 (n := L[i].2 + 1) (by omega) (by omega), wrap_i64 (n := (i : Int) + 1) (by omega) (by omega)]
   exact ih (i + 1) acc' _ (by omega) hacc' (by omega) (by omega)
  by_cases hc : a < L[i].1
  ·rw [if_pos (decide_eq_true (show a < (ofR L[i]).Lo from hc)), if_pos hc]
   unfold lapp
   rw [if_pos (by simp [lim]; omega), Option.bind_some, show (ofR L[i]).Lo = L[i].1 from rfl, wrap_i64 (n := L[i].1 - 1) (by omega) (by omega)]
   have := r8 (acc ++ [(a, L[i].1 - 1)]) (by simp; omega)
   rw [List.map_append] at this
   rw [show List.map ofR [(a, L[i].1 - 1)] = [Zc.mk a (L[i].1 - 1)] from rfl] at this
   rw [this, List.append_assoc]
   rfl
  ·rw [if_neg (by rw [decide_eq_true_eq]; exact hc), if_neg hc]
   exact r8 acc (by omega)
theorem ZxS {L : List R2} (h : Z4s L) : Zaf (L.map ofR) = some ((notF L).map ofR, 0) := by
 apply Zoa
 unfold Zc4
 rw [Zjq h, Option.bind_some, if_neg (by simp)]
 unfold Za4
 have : Zcd (L.map ofR) = some ((notF L).map ofR) := by
  apply Zoc
  unfold Zc5
  rw [List.length_map]
  have := Znh h
  have := ZD3 L (by omega) (ZcE h) L.length 0 [] 0 (by omega) (by simp) (by omega) (by omega)
  simpa [notF] using this
 rw [this]
 rfl
theorem ZAj (L : List R2) (hl : L.length ≤ 1000000) (hr : ∀ r ∈ L, 0 ≤ r.1 ∧ r.1 ≤ r.2 ∧ r.2 ≤ 1114367) : ∀ (d i : Nat), i + d = L.length → Z4a (L.map ofR) (L.length : Int) (i : Int) = some (-1) := by
 intro d
 induction d with
 | zero =>
  intro i h
  apply Z8U
  unfold Z48
  rw [if_neg (by simp; omega)]
  rfl
 | succ d ih =>
  intro i h
  have hi : i < L.length := by omega
  have h1 := hr L[i] (List.getElem_mem hi)
  apply Z8U
  unfold Z48 Z52
  have hm : ZcX (ofR L[i]) = some false := by
   apply Zpm
   unfold ZcM
   rw [Zue]
   simp [h1]
  rw [if_pos (by simp; omega), ZtN hi, Option.bind_some, hm, Option.bind_some, if_neg (by simp)]
  unfold Z53
  rw [wrap_i64 (by omega) (by omega)]
  exact ih (i + 1) (by omega)
theorem ZD1 {L : List R2} (hl : L.length ≤ 1000000) (hr : ∀ r ∈ L, 0 ≤ r.1 ∧ r.1 ≤ r.2 ∧ r.2 ≤ 1114367) : Zfs (L.map ofR) = some ((Z77 L).map ofR, 0) := by
 have h1 : Z64 (L.map ofR) = some (-1) := by
  apply Zfa
  unfold Z5Y
  rw [List.length_map]
  exact ZAj L hl hr L.length 0 (by omega)
 have h2 : Z55 (L.map ofR) = some false := by
  apply Zdt
  unfold Z50
  rw [h1]
  rfl
 apply Zro
 unfold Zfl
 rw [h2, Option.bind_some, if_neg (by simp)]
 unfold Zc2
 rw [ZrJ L (by omega) hr]
 rfl
theorem ZiV (no : Bool) {L : List R2} (hl : L.length ≤ 1000000) (hr : ∀ r ∈ L, 0 ≤ r.1 ∧ r.1 ≤ r.2 ∧ r.2 ≤ 1114367) : Z43 no (L.map ofR) = some (setN (setR no L)) := by
 apply ZtI
 unfold ZgU
 rw [ZD1 hl hr, Option.bind_some]
 cases no with
 | false => rfl
 | true =>
  rw [if_pos rfl, ZxS (Ziu hr).1]
  rfl
theorem Zc0 (no : Bool) {L : List R2} (hr : ∀ r ∈ L, 0 ≤ r.1 ∧ r.1 ≤ r.2 ∧ r.2 ≤ 1114367) : Z4s (setR no L) := by
 unfold setR
 split
 ·exact ZpM (Ziu hr).1
 ·exact (Ziu hr).1
theorem Zni {r : R2} (h : 0 ≤ r.1 ∧ r.1 ≤ r.2 ∧ r.2 ≤ 1114367) : Z4s [r] := Zdd.2 ⟨h, by omega, trivial⟩
theorem ZC5 {a s : List R2} (ha : Z4s a) (hs : Z4s s) (hl : s.length ≤ 100000) : Z6r (s.map ofR) (a.map ofR) = some ((Z77 (a ++ s)).map ofR) := by
 have hla := Znh ha
 have hr : ∀ r ∈ a ++ s, 0 ≤ r.1 ∧ r.1 ≤ r.2 ∧ r.2 ≤ 1114367 := by
  intro r h
  rcases List.mem_append.1 h with h | h
  ·exact ZcE ha r h
  ·exact ZcE hs r h
 have h1 : ZcY (a.map ofR) (s.map ofR) = some ((Z77 (a ++ s)).map ofR, 0) := by
  apply Zpo
  unfold ZcN
  rw [Zjq ha, Option.bind_some, if_neg (by simp), Zjq hs, Option.bind_some, if_neg (by simp)]
  unfold Zaz
  rw [Zyh a s (by omega), Option.bind_some, ZrJ _ (by rw [List.length_append]; omega) hr]
  rfl
 apply Zik
 unfold Z86
 rw [h1]
 rfl
theorem fold_len : ∀ (l acc : List R2), (l.foldl Z2O acc).length ≤ acc.length + l.length
 | [], acc => by simp
 | r :: t, acc => by
  have h1 := fold_len t (Z2O acc r)
  have h2 : (Z2O acc r).length ≤ acc.length + 1 := by
   unfold Z2O
   split
   ·split
    ·simp
    ·simp
   ·simp
  rw [List.foldl_cons, List.length_cons]
  omega
theorem ZBO (l : List R2) : (Z77 l).length ≤ l.length := by
 have h1 := fold_len (ZbJ l) []
 have h2 := (Z93 l).length_eq
 unfold Z77
 rw [List.length_reverse]
 simp only [List.length_nil] at h1
 omega
theorem Zw6 : ∀ (l : List R2) (a : Int), (notL a l).length ≤ l.length + 1
 | [], a => by
  unfold notL
  split
  ·simp
  ·simp
 | r :: t, a => by
  have := Zw6 t (r.2 + 1)
  unfold notL
  split
  ·simp only [List.length_cons]; omega
  ·simp only [List.length_cons]; omega
theorem ZDm (no : Bool) (l : List R2) : (setR no l).length ≤ l.length + 1 := by
 have h1 := ZBO l
 have h2 := Zw6 (Z77 l) 0
 unfold setR notF
 split
 ·omega
 ·omega
theorem ZhF {a s : List R2} (ha : Z4s a) (hs : Z4s s) : Z4s (Z77 (a ++ s)) :=
 (Ziu (by
  intro r h
  rcases List.mem_append.1 h with h | h
  ·exact ZcE ha r h
  ·exact ZcE hs r h)).1
end Go.Proofs.YteoeggbihfnbfaaGreatDoor.N2
end
section
set_option linter.unusedSimpArgs false
set_option linter.unusedVariables false
namespace Go.Proofs.YteoeggbihfnbfaaGreatDoor.N2
open Go Go.Abs Go.Proofs.Unis Go.Proofs.Norm
set_option maxRecDepth 100000
theorem Z2k {a b : Int} (h : a = b) : (a == b) = true := by simpa using h
theorem Z2n {a b : Int} (h : ¬ a = b) : ¬ ((a == b) = true) := by simpa using h
theorem ZeN {a b : Int} (h : ¬ a = b) : (a != b) = true := by simpa using h
theorem Zge {a b : Int} (h : a = b) : ¬ ((a != b) = true) := by simpa using h
theorem Z2w {c : Prop} [Decidable c] (h : c) : decide c = true := decide_eq_true h
theorem Z2q {c : Prop} [Decidable c] (h : ¬ c) : ¬ (decide c = true) := by simpa using h
theorem ZrI {α : Type} {a b : α} (h : a = b) : ¬ (a ≠ b) := fun k => k h
structure Nx (l : List UInt8) (s s' : St) : Prop where
 at_ : At l s'
 len : s'.us.length ≤ s.us.length
 gr : s'.gr = s.gr
 rf : s'.rf = s.rf
theorem Nx.trans {l : List UInt8} {s s' s'' : St} (h : Nx l s s') (h' : Nx l s' s'') : Nx l s s'' :=
 ⟨h'.at_, Nat.le_trans h'.len h.len, h'.gr.trans h.gr, h'.rf.trans h.rf⟩
theorem Z82 {l : List UInt8} {s : St} (h : At l s) : Nx l s (take s) := by
 refine ⟨h.take, ?_, ?_, ?_⟩
 all_goals unfold take; split
 ·exact Nat.le_refl _
 ·rename_i h1
  rw [h1]
  simp
 all_goals rfl
theorem Zm1 {l : List UInt8} {s : St} (h : At l s) (hn : s.us ≠ []) : s.us.length = (take s).us.length + 1 := by
 obtain ⟨_, _, _, _, _, _, _, h7⟩ := h.cons hn
 exact h7
theorem ZoE (u : Int) : Z7z u = some (if short u = [] then .nl else .ex, (short u).map ofR) := by
 apply Zmw
 by_cases h1 : u = 100
 ·subst h1; simp [Z41, short, ofR, Z8C]
 by_cases h2 : u = 68
 ·subst h2; simp [Z41, short, ofR, Z8C]
 by_cases h3 : u = 119
 ·subst h3; simp [Z41, short, ofR, Z8C]
 by_cases h4 : u = 87
 ·subst h4; simp [Z41, short, ofR, Z8C]
 by_cases h5 : u = 115
 ·subst h5; simp [Z41, short, ofR, Z8C]
 by_cases h6 : u = 83
 ·subst h6; simp [Z41, short, ofR, Z8C]
 simp [Z41, Z2V, short, h1, h2, h3, h4, h5, h6]
theorem ZkV (u : Int) : (short u).length ≤ 1000 ∧ ∀ r ∈ short u, 0 ≤ r.1 ∧ r.1 ≤ r.2 ∧ r.2 ≤ 1114367 := by
 unfold short
 repeat' split
 all_goals simp
theorem ZxM (u : Int) (h1 : -1 ≤ u) (h2 : u ≤ 1114367) : ZdS u = some (hexF u) := by
 apply ZtG
 unfold ZgT ZcO ZaW ZcP ZaX hexF
 rw [wrap_i64 (n := u - 48) (by omega) (by omega), wrap_i64 (n := u - 97) (by omega) (by omega), wrap_i64 (n := u - 97 + 10) (by omega) (by omega)]
 by_cases a : 48 ≤ u
 ·by_cases b : u ≤ 57
  ·simp [a, b]
  ·by_cases c : 97 ≤ u
   ·by_cases d : u ≤ 102
    ·simp [a, b, c, d]
    ·simp [a, b, c, d]
   ·simp [a, b, c]
 ·have c : ¬ 97 ≤ u := by omega
  simp [a, c]
theorem Zir (u : Int) : -1 ≤ hexF u ∧ hexF u ≤ 15 := by
 unfold hexF
 repeat' split
 all_goals omega
theorem ZCS (L : List Zc) (u : Int) (hl : L.length ≤ 1000000) : ∀ (d i : Nat), i + d = L.length →
  ∃ k : Int, Z49 L (L.length : Int) (i : Int) u = some k ∧ (0 ≤ k ↔ (L.drop i).any (fun r => decide (r.Lo ≤ u) && decide (u ≤ r.Hi)) = true) := by
 intro d
 induction d with
 | zero =>
  intro i h
  refine ⟨-1, ?_, ?_⟩
  ·apply Z6b
   unfold Z3n
   rw [if_neg (by simp; omega)]
   rfl
  ·rw [List.drop_of_length_le (by omega)]
   simp
 | succ d ih =>
  intro i h
  have hi : i < L.length := by omega
  have hm : ZaJ L[i] u = some (decide (L[i].Lo ≤ u) && decide (u ≤ L[i].Hi)) := by
   apply Zmr
   unfold Zax
   by_cases a : L[i].Lo ≤ u
   ·simp [a]
   ·simp [a]
  rw [List.drop_eq_getElem_cons hi, List.any_cons]
  cases hc : (decide (L[i].Lo ≤ u) && decide (u ≤ L[i].Hi)) with
  | true =>
   refine ⟨(i : Int), ?_, by simp⟩
   apply Z6b
   unfold Z3n Z47
   rw [if_pos (by simp; omega), Z34, List.getElem?_eq_getElem hi, Option.bind_some, hm, hc]
   rfl
  | false =>
   obtain ⟨k, h1, h2⟩ := ih (i + 1) (by omega)
   refine ⟨k, ?_, by rw [Bool.false_or]; exact h2⟩
   apply Z6b
   unfold Z3n Z47
   rw [if_pos (by simp; omega), Z34, List.getElem?_eq_getElem hi, Option.bind_some, hm, hc, Option.bind_some, if_neg (by simp)]
   unfold Z51
   rw [wrap_i64 (by omega) (by omega)]
   exact h1
theorem ZFc (L : List Zc) (u : Int) (hl : L.length ≤ 1000000) : Zae L u = some (L.any (fun r => decide (r.Lo ≤ u) && decide (u ≤ r.Hi))) := by
 obtain ⟨k, h1, h2⟩ := ZCS L u hl L.length 0 (by omega)
 have e1 : Z63 L u = some k := by
  apply Zf8
  unfold Z5X
  exact h1
 have e2 : Z54 L u = some (decide (0 ≤ k)) := by
  apply Zdr
  unfold Z4Z
  rw [e1]
  rfl
 apply Zo8
 unfold Zc3
 rw [e2]
 rw [List.drop_zero] at h2
 show some _ = some _
 congr 1
 cases hb : L.any (fun r => decide (r.Lo ≤ u) && decide (u ≤ r.Hi)) with
 | true => rw [hb] at h2; simpa using h2
 | false => rw [hb] at h2; simpa using h2
theorem ZAo (u : Int) : Zae [⟨48, 57⟩, ⟨65, 90⟩, ⟨97, 122⟩] u = some (Zus u) := by
 rw [ZFc _ _ (by simp)]
 congr 1
 simp [Zus, Bool.or_assoc]
theorem ZqI {l : List UInt8} {s s' : St} {u p v : Int} (h : At l s) (hu : 0 ≤ u ∧ u ≤ 1114367) (e : ZbU u p s = .ok v s') : Nx l s s' ∧ 0 ≤ v ∧ v ≤ 1114367 := by
 have n0 : Nx l s s := ⟨h, Nat.le_refl _, rfl, rfl⟩
 have ha := Zir (peek s.us)
 have hb := Zir (peek (take s).us)
 unfold ZbU at e
 split at e
 ·cases e; exact ⟨n0, by omega, by omega⟩
 split at e
 ·cases e; exact ⟨n0, by omega, by omega⟩
 split at e
 ·cases e; exact ⟨n0, by omega, by omega⟩
 split at e
 ·split at e
  ·split at e
   ·cases e; exact ⟨(Z82 h).trans (Z82 h.take), by omega, by omega⟩
   ·simp at e
  ·simp at e
 split at e
 ·cases e; exact ⟨n0, hu⟩
 ·simp at e
theorem Zub {s : St} {u p c q : Int} (e : ZbU u p s = .bad c q) : c ≠ 0 := by
 unfold ZbU at e
 repeat' split at e
 all_goals first | (simp at e; done) | (cases e; simp)
theorem Zuc {l : List UInt8} {s : St} (h : At l s) (hl : l.length ≤ 1000) (u p g d : Int) (rf : List Zx) :
  Z7r u p (bl l) s.pos g d rf 0 0 = some (match ZbU u p s with | .ok v s' => (v, s'.pos, 0, 0) | .bad c q => (0, (l.length : Int), c, q)) := by
 have bad : Z32 p (bl l) 0 0 = some (0, (l.length : Int), 21, p) := by
  unfold Z32
  rw [Z6H]
  rfl
 apply ZjN
 unfold Z8W ZbU
 by_cases h1 : u = 110
 ·simp [h1]
 by_cases h2 : u = 116
 ·simp [h2]
 by_cases h3 : u = 114
 ·simp [h3]
 by_cases h4 : u = 120
 ·subst h4
  have hr := h.range
  have hr2 := h.take.range
  have ha := Zir (peek s.us)
  have hb := Zir (peek (take s).us)
  rw [if_neg (by simp), if_neg (by simp), if_neg (by simp), if_pos (by simp), if_neg (by simp), if_neg (by simp), if_neg (by simp), if_pos rfl, Z9w h, Option.bind_some, ZxM _ (by omega) (by omega), Option.bind_some]
  by_cases h5 : 0 ≤ hexF (peek s.us)
  ·have hn : s.us ≠ [] := by
    intro e
    rw [e] at h5
    simp [peek, hexF] at h5
   rw [if_pos (by simpa using h5), if_pos h5, ZcI h (by omega) hn, Option.bind_some]
   simp only []
   rw [Z9w h.take, Option.bind_some, ZxM _ (by omega) (by omega), Option.bind_some]
   by_cases h6 : 0 ≤ hexF (peek (take s).us)
   ·have hn2 : (take s).us ≠ [] := by
     intro e
     rw [e] at h6
     simp [peek, hexF] at h6
    rw [if_pos (by simpa using h6), if_pos h6, ZcI h.take (by omega) hn2, Option.bind_some, wrap_i64 (n := 16 * hexF (peek s.us)) (by omega) (by omega), wrap_i64 (by omega) (by omega)]
   ·rw [if_neg (by simpa using h6), if_neg h6, bad]
  ·rw [if_neg (by simpa using h5), if_neg h5, bad]
 ·rw [if_neg (by simpa using h1), if_neg (by simpa using h2), if_neg (by simpa using h3), if_neg (by simpa using h4), if_neg h1, if_neg h2, if_neg h3, if_neg h4]
  by_cases h5 : 32 < u
  ·by_cases h6 : u < 127
   ·rw [if_pos (by simpa using h5), if_pos (by simpa using h6), ZAo, Option.bind_some]
    cases h7 : Zus u with
    | true => rw [if_neg (by simp), bad, if_neg (by simp)]
    | false =>
     rw [if_pos (by rfl), if_pos ⟨h5, h6, rfl⟩]
     rfl
   ·rw [if_pos (by simpa using h5), if_neg (by simpa using h6), bad, if_neg (fun e => h6 e.2.1)]
  ·rw [if_neg (by simpa using h5), bad, if_neg (fun e => h5 e.1)]
end Go.Proofs.YteoeggbihfnbfaaGreatDoor.N2
end
section
set_option linter.unusedSimpArgs false
set_option linter.unusedVariables false
namespace Go.Proofs.YteoeggbihfnbfaaGreatDoor.N2
open Go Go.Abs Go.Proofs.Unis Go.Proofs.Norm
set_option maxRecDepth 100000
def EscR (l : List UInt8) (s : St) (o : Out Z7) (r : Option (Z7 × Int × List Zx × Int × Int)) : Prop :=
 match o with
 | .ok n s' => r = some (n, s'.pos, s'.rf, 0, 0) ∧ At l s' ∧ s'.us.length < s.us.length ∧ s'.gr = s.gr ∧ s'.rf.length + s'.us.length ≤ s.rf.length + s.us.length
 | .bad c q => c ≠ 0 ∧ ∃ n, r = some (n, (l.length : Int), s.rf, c, q)
theorem ZDJ {l : List UInt8} {s : St} (h : At l s) (hl : l.length ≤ 1000) (hrf : s.rf.length ≤ 2000) (p g d : Int) : EscR l s (pEsc p s) (Z4K p (bl l) s.pos g d s.rf 0 0) := by
 have top : ∀ r, Z5s p (bl l) s.pos g d s.rf 0 0 = some r → Z4K p (bl l) s.pos g d s.rf 0 0 = some r := fun r e => Zje _ _ _ _ _ _ _ _ e
 unfold pEsc
 by_cases hn : s.us = []
 ·rw [if_pos hn]
  refine ⟨by simp, nd0, top _ ?_⟩
  unfold Z5s
  rw [Z9w h, Option.bind_some, hn, if_pos (by rfl), Z6H]
  rfl
 ·rw [if_neg hn]
  have hr := h.range
  have hu : 0 ≤ peek s.us ∧ peek s.us ≤ 1114367 := by
   rcases hr with ⟨_, h2⟩ | h2
   ·exact absurd h2 hn
   ·omega
  have hnx := Z82 h
  have hlt := Zm1 h hn
  have tk := ZcI h (by omega) hn
  have top5 : ∀ r, Z3p p (peek s.us) (bl l) s.pos g d s.rf 0 0 = some r → Z4K p (bl l) s.pos g d s.rf 0 0 = some r := by
   intro r e
   refine top r ?_
   unfold Z5s
   rw [Z9w h, Option.bind_some, if_neg (by simp; omega)]
   exact e
  have hrf' : (take s).rf = s.rf := hnx.rf
  by_cases hs : short (peek s.us) = []
  ·rw [if_neg (by simp [hs])]
   have r5 : Z3p p (peek s.us) (bl l) s.pos g d s.rf 0 0 = (if ((peek s.us == 98)) = true then
 (some ((Z7.mk 9 0 0 0 2 ([] : List Zc) ([] : List Z7)), (take s).pos, s.rf, 0, 0))
 else
 (if ((peek s.us == 66)) = true then
 (some ((Z7.mk 9 0 0 0 3 ([] : List Zc) ([] : List Z7)), (take s).pos, s.rf, 0, 0))
 else
 (if ((decide (49 ≤ peek s.us))) = true then
 (if ((decide (peek s.us ≤ 57))) = true then
 (Z5d p (peek s.us) (take s).pos s.rf 0 0)
 else
 (Z3g p (peek s.us) (bl l) (take s).pos g d s.rf 0 0))
 else
 (Z3g p (peek s.us) (bl l) (take s).pos g d s.rf 0 0)))) := by
    unfold Z3p
    rw [tk, Option.bind_some, ZoE, Option.bind_some, hs]
    rfl
   have r15 : EscR l s ((ZbU (peek s.us) p (take s)).bind fun v s2 => .ok (setN (setR false [(v, v)])) s2) (Z3g p (peek s.us) (bl l) (take s).pos g d s.rf 0 0) := by
    unfold Z3g
    rw [Zuc h.take hl]
    cases hp : ZbU (peek s.us) p (take s) with
    | ok v s2 =>
     obtain ⟨a, b, c⟩ := ZqI h.take hu hp
     have hset := ZiV false (L := [(v, v)]) (by simp) (by simp; omega)
     refine ⟨?_, a.at_, ?_, a.gr.trans hnx.gr, ?_⟩
     ·simp only [Option.bind_some, Z8C]
      rw [show [Zc.mk v v] = [((v, v) : R2)].map ofR from rfl, hset, Option.bind_some, a.rf, hrf']
     ·have := a.len; omega
     ·have := a.len; rw [a.rf, hrf']; omega
    | bad c q =>
     have hc := Zub hp
     have hset := ZiV false (L := [((0 : Int), (0 : Int))]) (by simp) (by simp)
     refine ⟨hc, setN (setR false [(0, 0)]), ?_⟩
     simp only [Option.bind_some, Z8C]
     rw [show [Zc.mk 0 0] = [((0, 0) : R2)].map ofR from rfl, hset, Option.bind_some]
   have lift : ∀ o, EscR l s o (Z3p p (peek s.us) (bl l) s.pos g d s.rf 0 0) → EscR l s o (Z4K p (bl l) s.pos g d s.rf 0 0) := by
    intro o ho
    cases o with
    | ok n s' => exact ⟨top5 _ ho.1, ho.2⟩
    | bad c q => obtain ⟨hc, n, hn⟩ := ho; exact ⟨hc, n, top5 _ hn⟩
   apply lift
   rw [r5]
   by_cases h1 : peek s.us = 98
   ·rw [if_pos h1, if_pos (Z2k h1)]
    exact ⟨by rw [hrf']; rfl, h.take, by omega, hnx.gr, by rw [hrf']; omega⟩
   by_cases h2 : peek s.us = 66
   ·rw [if_neg h1, if_pos h2, if_neg (Z2n h1), if_pos (Z2k h2)]
    exact ⟨by rw [hrf']; rfl, h.take, by omega, hnx.gr, by rw [hrf']; omega⟩
   rw [if_neg h1, if_neg h2, if_neg (Z2n h1), if_neg (Z2n h2)]
   by_cases h3 : 49 ≤ peek s.us
   ·by_cases h4 : peek s.us ≤ 57
    ·rw [if_pos ⟨h3, h4⟩, if_pos (Z2w h3), if_pos (Z2w h4)]
     refine ⟨?_, ?_, by show (take s).us.length < _; omega, hnx.gr, by show (s.rf ++ [_]).length + (take s).us.length ≤ _; rw [List.length_append]; simp; omega⟩
     ·unfold Z5d lapp
      rw [if_pos (by simp [lim]; omega), wrap_i64 (n := peek s.us - 48) (by omega) (by omega)]
      rfl
     ·exact h.take
    ·rw [if_neg (show ¬ (49 ≤ peek s.us ∧ peek s.us ≤ 57) from fun e => h4 e.2), if_pos (Z2w h3), if_neg (Z2q h4)]
     exact r15
   ·rw [if_neg (show ¬ (49 ≤ peek s.us ∧ peek s.us ≤ 57) from fun e => h3 e.1), if_neg (Z2q h3)]
    exact r15
  ·rw [if_pos hs]
   obtain ⟨q1, q2⟩ := ZkV (peek s.us)
   refine ⟨top5 _ ?_, h.take, by omega, hnx.gr, by rw [hrf']; omega⟩
   unfold Z3p
   rw [tk, Option.bind_some, ZoE, Option.bind_some, if_neg hs]
   have hno : nilO Own.ex ((short (peek s.us)).map ofR) = some false := rfl
   dsimp only
   rw [hno, Option.bind_some, if_pos (show (!false) = true from rfl), Option.bind_some]
   dsimp only
   rw [ZiV _ (by omega) q2, Option.bind_some, hrf']
def MemR (l : List UInt8) (s : St) (o : Out (Int × List R2 × Bool)) (r : Option (Int × (Own × List Zc) × Bool × Int × Int × Int)) : Prop :=
 match o with
 | .ok m s' => r = some (m.1, (if m.2.1 = [] then .nl else .ex, m.2.1.map ofR), m.2.2, s'.pos, 0, 0) ∧ Nx l s s' ∧ s'.us.length < s.us.length ∧ (0 ≤ m.1 ∧ m.1 ≤ 1114367) ∧ m.2.1.length ≤ 1000 ∧ ∀ r ∈ m.2.1, 0 ≤ r.1 ∧ r.1 ≤ r.2 ∧ r.2 ≤ 1114367
 | .bad c q => c ≠ 0 ∧ r = some (0, (.nl, []), false, (l.length : Int), c, q)
theorem Zpd {l : List UInt8} {s : St} (h : At l s) (hl : l.length ≤ 1000) (hn : s.us ≠ []) (g d : Int) (rf : List Zx) : MemR l s (pMem s) (Z5x (bl l) s.pos g d rf 0 0) := by
 have top : ∀ o, MemR l s o (Z6R (bl l) s.pos g d rf 0 0) → MemR l s o (Z5x (bl l) s.pos g d rf 0 0) := by
  intro o ho
  cases o with
  | ok m s' => exact ⟨Zcq _ _ _ _ _ _ _ ho.1, ho.2⟩
  | bad c q => exact ⟨ho.1, Zcq _ _ _ _ _ _ _ ho.2⟩
 apply top
 have hr := h.range
 have hu : 0 ≤ peek s.us ∧ peek s.us ≤ 1114367 := by
  rcases hr with ⟨_, h2⟩ | h2
  ·exact absurd h2 hn
  ·omega
 have hnx := Z82 h
 have hlt := Zm1 h hn
 unfold Z6R pMem
 rw [ZcI h (by omega) hn, Option.bind_some]
 by_cases h1 : peek s.us = 92
 ·rw [if_neg (Zge h1), if_neg (ZrI h1)]
  unfold Z7g
  dsimp only
  rw [Z9w h.take, Option.bind_some]
  by_cases hn2 : (take s).us = []
  ·rw [if_pos hn2, if_pos (Z2w (show peek (take s).us < 0 by rw [hn2]; decide)), Z6H]
   exact ⟨by simp, rfl⟩
  ·have hr2 := h.take.range
   have hu2 : 0 ≤ peek (take s).us ∧ peek (take s).us ≤ 1114367 := by
    rcases hr2 with ⟨_, h2⟩ | h2
    ·exact absurd h2 hn2
    ·omega
   have hnx2 := Z82 h.take
   have hlt2 := Zm1 h.take hn2
   rw [if_neg hn2, if_neg (Z2q (show ¬ peek (take s).us < 0 by omega))]
   unfold Z7h
   rw [ZcI h.take (by omega) hn2, Option.bind_some, ZoE, Option.bind_some]
   by_cases hs : short (peek (take s).us) = []
   ·rw [if_pos hs, if_neg (ZrI hs), hs]
    show MemR l s _ (Z5e (peek (take s).us) s.pos (bl l) (take (take s)).pos g d rf 0 0)
    unfold Z5e
    rw [Zuc h.take.take hl]
    cases hp : ZbU (peek (take s).us) s.pos (take (take s)) with
    | ok v s2 =>
     obtain ⟨a, b, c⟩ := ZqI h.take.take hu2 hp
     exact ⟨rfl, (hnx.trans hnx2).trans a, by have := a.len; omega, ⟨b, c⟩, by simp, by simp⟩
    | bad c q => exact ⟨Zub hp, rfl⟩
   ·obtain ⟨q1, q2⟩ := ZkV (peek (take s).us)
    rw [if_neg hs, if_pos hs]
    exact ⟨by simp only [if_neg hs]; rfl, hnx.trans hnx2, by omega, by simp, q1, q2⟩
 ·rw [if_pos (ZeN h1), if_pos h1]
  exact ⟨rfl, hnx, by omega, hu, by simp, by simp⟩
end Go.Proofs.YteoeggbihfnbfaaGreatDoor.N2
end
section
set_option linter.unusedSimpArgs false
set_option linter.unusedVariables false
namespace Go.Proofs.YteoeggbihfnbfaaGreatDoor.N2
open Go Go.Abs Go.Proofs.Unis Go.Proofs.Norm
set_option maxRecDepth 100000
theorem ZCd (c : Prop) [Decidable c] : shrO (if c then Own.nl else Own.ex) = if c then Own.nl else Own.ex := by
 split <;> rfl
theorem ZCe : shrO Own.nl = Own.nl := rfl
structure Wd (b : ByteArray) (w : List Int) : Prop where
 ex : ∃ v : List UInt8, b = ⟨v.toArray⟩ ∧ w = bl v ∧ (∀ c ∈ v, c.toNat < 128) ∧ v.length ≤ 100 ∧ v ≠ []
theorem Z4r {l : List UInt8} {s : St} {b : ByteArray} {w : List Int} (hw : Wd b w) (h : At l s) (hl : l.length ≤ 1000) (e : wd w s = none) : Z1F b (bl l) s.pos = some (false, s.pos) := by
 obtain ⟨v, rfl, rfl, h1, h2, _⟩ := hw.ex
 rw [(Zwz h (by omega) v h1 h2).1, e]
theorem Z2z {l : List UInt8} {s s1 : St} {b : ByteArray} {w : List Int} (hw : Wd b w) (h : At l s) (hl : l.length ≤ 1000) (e : wd w s = some s1) : Z1F b (bl l) s.pos = some (true, s1.pos) ∧ Nx l s s1 ∧ s1.us.length < s.us.length := by
 obtain ⟨v, rfl, rfl, h1, h2, h3⟩ := hw.ex
 obtain ⟨a, b⟩ := Zwz h (by omega) v h1 h2
 obtain ⟨b1, b2, b3, b4⟩ := b s1 e
 have : v.length ≠ 0 := fun e => h3 (List.eq_nil_of_length_eq_zero e)
 exact ⟨by rw [a, e], ⟨b1, by omega, b3, b4⟩, by omega⟩
theorem w45 : Wd (ByteArray.mk #[45]) [45] := ⟨[45], rfl, rfl, by decide, by decide, by decide⟩
theorem w94 : Wd (ByteArray.mk #[94]) [94] := ⟨[94], rfl, rfl, by decide, by decide, by decide⟩
def ClsR (l : List UInt8) (s : St) (o : Out Z7) (r : Option (Z7 × Int × Int × Int)) : Prop :=
 match o with
 | .ok n s' => r = some (n, s'.pos, 0, 0) ∧ Nx l s s'
 | .bad c q => c ≠ 0 ∧ ∃ n, r = some (n, (l.length : Int), c, q)
theorem ClsR.from {l : List UInt8} {s s1 : St} {o : Out Z7} {r : Option (Z7 × Int × Int × Int)} (h : ClsR l s1 o r) (hn : Nx l s s1) : ClsR l s o r := by
 cases o with
 | ok n s' => exact ⟨h.1, hn.trans h.2⟩
 | bad c q => exact h
theorem Zi4 (p : Int) (no : Bool) (x8 : Int) (b : List Int) (a g d : Int) (rf : List Zx) (c q : Int) (all : List Zc) (hc : c ≠ 0) : Z1T p no x8 b a g d rf c q all = some (nd0, a, c, q) := by
 unfold Z1T
 apply ZbO
 unfold Z69
 rw [if_neg (by simpa using hc)]
 rfl
theorem Zr1 {l : List UInt8} (hl : l.length ≤ 1000) (p : Int) (no : Bool) (g d : Int) (rf : List Zx) : ∀ (k : Nat) (fst : Bool) (all : List R2) (s : St) (x8 : Int), At l s → Z4s all → s.us.length < k → (fst = true ↔ x8 = 0) → 0 ≤ x8 → x8 + s.us.length ≤ 5000 →
  ClsR l s (Z9V p no k fst all s) (Z4b p no x8 (bl l) s.pos g d rf 0 0 (all.map ofR)) := by
 intro k
 induction k with
 | zero => intro fst all s x8 _ _ hk; omega
 | succ k ih =>
  intro fst all s x8 h hall hk hf h0 hb
  have top : ∀ o, ClsR l s o (Z4P p no x8 (bl l) s.pos g d rf 0 0 (all.map ofR)) → ClsR l s o (Z4b p no x8 (bl l) s.pos g d rf 0 0 (all.map ofR)) := by
   intro o ho
   have e : ∀ r, Z4P p no x8 (bl l) s.pos g d rf 0 0 (all.map ofR) = some r → Z4b p no x8 (bl l) s.pos g d rf 0 0 (all.map ofR) = some r := by
    intro r e
    apply ZbO
    unfold Z69
    rw [if_pos (by rfl)]
    exact e
   cases o with
   | ok n s' => exact ⟨e _ ho.1, ho.2⟩
   | bad c q => obtain ⟨hc, n, hn⟩ := ho; exact ⟨hc, n, e _ hn⟩
  have next : ∀ (all' : List R2) (s1 : St), Nx l s s1 → s1.us.length < s.us.length → Z4s all' → ClsR l s (Z9V p no k false all' s1) (Z1T p no x8 (bl l) s1.pos g d rf 0 0 (all'.map ofR)) := by
   intro all' s1 hn hlt ha'
   unfold Z1T
   rw [wrap_i64 (n := x8 + 1) (by omega) (by omega)]
   exact (ih false all' s1 (x8 + 1) hn.at_ ha' (by omega) (by simp; omega) (by omega) (by omega)).from hn
  have stop : ∀ (c q : Int) (al : List Zc) (z8 : Int), c ≠ 0 → ClsR l s (.bad c q) ((Z1h c q (bl l) 0 0).bind fun r2 => Z1T p no z8 (bl l) r2.1 g d rf r2.2.1 r2.2.2 al) := by
   intro c q al z8 hc
   rw [Z6H, Option.bind_some, Zi4 _ _ _ _ _ _ _ _ _ _ _ hc]
   exact ⟨hc, _, rfl⟩
  apply top
  have hr := h.range
  unfold Z4P Z9V
  rw [Z9w h, Option.bind_some]
  by_cases hn : s.us = []
  ·rw [if_pos hn, if_pos (Z2k (show peek s.us = -1 by rw [hn]; rfl))]
   exact stop _ _ _ _ (by decide)
  have hu : 0 ≤ peek s.us ∧ peek s.us ≤ 1114367 := by
   rcases hr with ⟨_, h2⟩ | h2
   ·exact absurd h2 hn
   ·omega
  rw [if_neg hn, if_neg (Z2n (show ¬ peek s.us = -1 by omega))]
  by_cases h1 : peek s.us = 93
  ·rw [if_pos h1, if_pos (Z2k h1)]
   cases fst with
   | true =>
    rw [if_pos rfl, if_pos (Z2k (hf.1 rfl))]
    exact stop _ _ _ _ (by decide)
   | false =>
    have : ¬ x8 = 0 := fun e => by simpa using hf.2 e
    rw [if_neg (show ¬ (false = true) by simp), if_neg (Z2n this)]
    unfold Z7d Z5K
    rw [ZcI h (by omega) hn, Option.bind_some]
    cases no with
    | true =>
     rw [if_pos rfl, if_pos rfl, ZxS hall, Option.bind_some]
     exact ⟨rfl, Z82 h⟩
    | false =>
     rw [if_neg (by simp), if_neg (by simp)]
     exact ⟨rfl, Z82 h⟩
  rw [if_neg h1, if_neg (Z2n h1)]
  by_cases h2 : peek s.us = 91
  ·rw [if_pos (.inl h2), if_pos (Z2k h2), if_pos (Z2k h2)]
   exact stop _ _ _ _ (by decide)
  by_cases h3 : peek s.us = 45
  ·rw [if_pos (.inr h3), if_neg (Z2n h2), if_pos (Z2k h3)]
   exact stop _ _ _ _ (by decide)
  rw [if_neg (show ¬ (peek s.us = 91 ∨ peek s.us = 45) by omega), if_neg (Z2n h2), if_neg (Z2n h3)]
  unfold Z5L
  have hm := Zpd h hl hn g d rf
  cases hp : pMem s with
  | bad c q =>
   rw [hp] at hm
   obtain ⟨hc, hm⟩ := hm
   rw [hm, Option.bind_some]
   have hno : nilO Own.nl ([] : List Zc) = some true := rfl
   simp only [ZCe]
   rw [hno, Option.bind_some, if_neg (show ¬ ((!true) = true) by simp)]
   unfold Z5M
   have hend : wd [45] ⟨[], (l.length : Int), s.gr, s.rf⟩ = none := rfl
   have hat : At l ⟨[], (l.length : Int), s.gr, s.rf⟩ := ⟨l.length, Nat.le_refl _, rfl, by rw [List.drop_of_length_le (Nat.le_refl _)]; rfl⟩
   have := Z4r w45 hat hl hend
   dsimp only at this
   rw [this, Option.bind_some, if_neg (by simp)]
   unfold Z2y
   rw [if_neg (Z2n hc), Zi4 _ _ _ _ _ _ _ _ _ _ _ hc]
   exact ⟨hc, _, rfl⟩
  | ok m s1 =>
   rw [hp] at hm
   obtain ⟨hm, hnx, hlt, hm1, hm2, hm3⟩ := hm
   rw [hm, Option.bind_some]
   simp only [Out.bind, ZCd]
   by_cases hs : m.2.1 = []
   ·have hno : nilO (if m.2.1 = [] then Own.nl else Own.ex) (m.2.1.map ofR) = some true := by rw [if_pos hs]; rfl
    rw [hno, Option.bind_some, if_neg (show ¬ ((!true) = true) by simp), if_neg (ZrI hs)]
    unfold Z5M
    have one : ∀ (v : Int) (s2 : St), Nx l s s2 → s2.us.length < s.us.length → m.1 ≤ v → v ≤ 1114367 → ClsR l s (Z9V p no k false (Z77 (all ++ [(m.1, v)])) s2) (Z2y p no x8 m.1 v (bl l) s2.pos g d rf 0 0 (all.map ofR)) := by
     intro v s2 hn2 hlt2 hv1 hv2
     unfold Z2y
     have hone : Z4s [(m.1, v)] := Zni (by simp only []; omega)
     rw [if_pos (by rfl), show [Zc.mk m.1 v] = [((m.1, v) : R2)].map ofR from rfl, ZC5 hall hone (by simp), Option.bind_some]
     exact next _ s2 hn2 hlt2 (ZhF hall hone)
    cases hw : wd [45] s1 with
    | none =>
     rw [Z4r w45 hnx.at_ hl hw, Option.bind_some, if_neg (by simp)]
     exact one m.1 s1 hnx hlt (by omega) (by omega)
    | some s2 =>
     obtain ⟨q1, q2, q3⟩ := Z2z w45 hnx.at_ hl hw
     have hn2 := hnx.trans q2
     have hr2 := q2.at_.range
     rw [q1, Option.bind_some, if_pos rfl]
     dsimp only
     rw [Z9w q2.at_, Option.bind_some]
     unfold Z3S
     by_cases c1 : peek s2.us = 93
     ·rw [if_pos (.inr (.inl c1)), if_pos (Z2k c1)]
      exact stop _ _ _ _ (by decide)
     rw [if_neg (Z2n c1)]
     by_cases c2 : peek s2.us = 91
     ·rw [if_pos (.inr (.inr (.inl c2))), if_pos (Z2k c2)]
      exact stop _ _ _ _ (by decide)
     rw [if_neg (Z2n c2)]
     by_cases c3 : peek s2.us = 45
     ·rw [if_pos (.inr (.inr (.inr c3))), if_pos (Z2k c3)]
      exact stop _ _ _ _ (by decide)
     rw [if_neg (Z2n c3)]
     by_cases c4 : s2.us = []
     ·rw [if_pos (.inl c4), if_pos (Z2w (show peek s2.us < 0 by rw [c4]; decide))]
      exact stop _ _ _ _ (by decide)
     have hu2 : 0 ≤ peek s2.us := by
      rcases hr2 with ⟨_, h2⟩ | h2
      ·exact absurd h2 c4
      ·omega
     rw [if_neg (show ¬ (s2.us = [] ∨ peek s2.us = 93 ∨ peek s2.us = 91 ∨ peek s2.us = 45) by simp only [c1, c2, c3, c4, or_self, not_false_eq_true]), if_neg (Z2q (show ¬ peek s2.us < 0 by omega))]
     unfold Z7e
     have hm' := Zpd q2.at_ hl c4 g d rf
     cases hp2 : pMem s2 with
     | bad c q =>
      rw [hp2] at hm'
      obtain ⟨hc, hm'⟩ := hm'
      rw [hm', Option.bind_some]
      dsimp only
      rw [if_neg (Z2n hc)]
      unfold Z2y
      rw [if_neg (Z2n hc), Zi4 _ _ _ _ _ _ _ _ _ _ _ hc]
      exact ⟨hc, _, rfl⟩
     | ok m2 s3 =>
      rw [hp2] at hm'
      obtain ⟨hm', hnx', hlt', hm1', hm2', hm3'⟩ := hm'
      rw [hm', Option.bind_some]
      dsimp only
      simp only [ZCd]
      rw [if_pos (Z2k rfl)]
      have fall : ∀ z, ClsR l s (.bad 22 s.pos) (Z4H p no x8 s.pos m.1 z (bl l) g d rf 0 0 (all.map ofR)) := by
       intro z
       unfold Z4H
       rw [Z6H, Option.bind_some]
       unfold Z2y
       dsimp only
       rw [if_neg (by decide), Zi4 _ _ _ _ _ _ _ _ _ _ _ (by decide)]
       exact ⟨by decide, _, rfl⟩
      by_cases e1 : m2.2.1 = []
      ·have hno2 : nilO (if m2.2.1 = [] then Own.nl else Own.ex) (m2.2.1.map ofR) = some true := by rw [if_pos e1]; rfl
       rw [hno2, Option.bind_some, if_neg (show ¬ ((!true) = true) by simp)]
       by_cases e2 : m2.1 < m.1
       ·rw [if_pos (Z2w e2), if_pos (.inr e2)]
        exact fall _
       ·rw [if_neg (Z2q e2), if_neg (show ¬ (m2.2.1 ≠ [] ∨ m2.1 < m.1) by simp only [e1, ne_eq, not_true_eq_false, false_or]; exact e2)]
        exact one m2.1 s3 (hn2.trans hnx') (by omega) (by omega) (by omega)
      ·have hno2 : nilO (if m2.2.1 = [] then Own.nl else Own.ex) (m2.2.1.map ofR) = some false := by rw [if_neg e1]; rfl
       rw [hno2, Option.bind_some, if_pos (show (!false) = true from rfl), if_pos (.inl e1)]
       exact fall _
   ·have hno : nilO (if m.2.1 = [] then Own.nl else Own.ex) (m.2.1.map ofR) = some false := by rw [if_neg hs]; rfl
    have hset := Zc0 m.2.2 hm3
    have hlen : (setR m.2.2 m.2.1).length ≤ 100000 := by have := ZDm m.2.2 m.2.1; omega
    rw [hno, Option.bind_some, if_pos (show (!false) = true from rfl), if_pos hs, ZiV _ (by omega) hm3, Option.bind_some, show (setN (setR m.2.2 m.2.1)).Set = (setR m.2.2 m.2.1).map ofR from rfl, ZC5 hall hset hlen, Option.bind_some, Z9w hnx.at_, Option.bind_some]
    by_cases c1 : peek s1.us = 45
    ·rw [if_pos c1, if_pos (Z2k c1)]
     exact stop _ _ _ _ (by decide)
    ·rw [if_neg c1, if_neg (Z2n c1)]
     exact next _ s1 hnx hlt (ZhF hall hset)
end Go.Proofs.YteoeggbihfnbfaaGreatDoor.N2
end
section
set_option linter.unusedSimpArgs false
set_option linter.unusedVariables false
namespace Go.Proofs.YteoeggbihfnbfaaGreatDoor.N2
open Go Go.Abs Go.Proofs.Unis Go.Proofs.Norm
set_option maxRecDepth 100000
theorem Nx.refl {l : List UInt8} {s : St} (h : At l s) : Nx l s s := ⟨h, Nat.le_refl _, rfl, rfl⟩
theorem ClsR.of {l : List UInt8} {s : St} {o : Out Z7} {b g : Option (Z7 × Int × Int × Int)} (hb : ClsR l s o b) (hg : ∀ r, b = some r → g = some r) : ClsR l s o g := by
 cases o with
 | ok n s' => exact ⟨hg _ hb.1, hb.2⟩
 | bad c q => obtain ⟨hc, n, hn⟩ := hb; exact ⟨hc, n, hg _ hn⟩
theorem ZAz {l : List UInt8} {s : St} (h : At l s) (hl : l.length ≤ 1000) (p g d : Int) (rf : List Zx) : ClsR l s (ZlX p s) (Z91 p (bl l) s.pos g d rf 0 0) := by
 refine ClsR.of (b := Z7c p (bl l) s.pos g d rf 0 0) ?_ fun r e => ZjI _ _ _ _ _ _ _ _ e
 have n0 : Z4s [] := trivial
 unfold Z7c ZlX
 cases hw : wd [94] s with
 | none =>
  rw [Z4r w94 h hl hw, Option.bind_some]
  have := h.len
  exact Zr1 hl p false g d rf _ true [] s 0 h n0 (by omega) (by simp) (by omega) (by omega)
 | some s1 =>
  obtain ⟨q1, q2, q3⟩ := Z2z w94 h hl hw
  rw [q1, Option.bind_some]
  have := q2.at_.len
  exact (Zr1 hl p true g d rf _ true [] s1 0 q2.at_ n0 (by omega) (by simp) (by omega) (by omega)).from q2
theorem w44 : Wd (ByteArray.mk #[44]) [44] := ⟨[44], rfl, rfl, by decide, by decide, by decide⟩
theorem w125 : Wd (ByteArray.mk #[125]) [125] := ⟨[125], rfl, rfl, by decide, by decide, by decide⟩
theorem w63 : Wd (ByteArray.mk #[63]) [63] := ⟨[63], rfl, rfl, by decide, by decide, by decide⟩
theorem w43 : Wd (ByteArray.mk #[43]) [43] := ⟨[43], rfl, rfl, by decide, by decide, by decide⟩
theorem w42 : Wd (ByteArray.mk #[42]) [42] := ⟨[42], rfl, rfl, by decide, by decide, by decide⟩
theorem w123 : Wd (ByteArray.mk #[123]) [123] := ⟨[123], rfl, rfl, by decide, by decide, by decide⟩
theorem ZgM {l : List UInt8} {s : St} (h : At l s) (hl : l.length ≤ 1000) (g d : Int) (rf : List Zx) (x3 x4 : Int) (h4 : 0 ≤ x4 ∧ x4 ≤ 10) (h3 : -1 ≤ x3 ∧ x3 ≤ 100) :
  ∀ r, (if x4 < 2 ∧ digit (peek s.us) = true then Z3U (10 * max x3 0 + peek s.us - 48) (x4 + 1) (bl l) (take s).pos g d rf 0 0 else some (x3, s.pos)) = some r → Z3U x3 x4 (bl l) s.pos g d rf 0 0 = some r := by
 intro r hr
 apply Zhk
 unfold Z7i Z4J
 by_cases h5 : x4 < 2
 ·rw [if_pos (Z2w h5), Z9w h, Option.bind_some]
  by_cases h6 : 48 ≤ peek s.us
  ·rw [if_pos (Z2w h6), Option.bind_some]
   by_cases h7 : peek s.us ≤ 57
   ·have hn : s.us ≠ [] := by
     intro e
     rw [e] at h6
     simp [peek] at h6
    rw [if_pos (Z2w h7)]
    unfold Z7j
    rw [ZcI h (by omega) hn, Option.bind_some]
    rw [wrap_i64 (n := 10 * max x3 0) (by omega) (by omega), wrap_i64 (n := 10 * max x3 0 + peek s.us) (by omega) (by omega), wrap_i64 (n := 10 * max x3 0 + peek s.us - 48) (by omega) (by omega), wrap_i64 (n := x4 + 1) (by omega) (by omega)]
    rw [if_pos ⟨h5, by simp [digit, h6, h7]⟩] at hr
    exact hr
   ·rw [if_neg (Z2q h7)]
    rw [if_neg (by simp [digit, h7])] at hr
    exact hr
  ·rw [if_neg (Z2q h6)]
   rw [if_neg (by simp [digit, h6])] at hr
   exact hr
 ·rw [if_neg (Z2q h5)]
  rw [if_neg (fun e => h5 e.1)] at hr
  exact hr
theorem ZtU {u : Int} : digit u = true ↔ 48 ≤ u ∧ u ≤ 57 := by simp [digit]
theorem ZxU {l : List UInt8} {s : St} (h : At l s) (hl : l.length ≤ 1000) (g d : Int) (rf : List Zx) :
  Z5y (bl l) s.pos g d rf 0 0 = some ((pNum s).1, (pNum s).2.pos) ∧ Nx l s (pNum s).2 ∧ -1 ≤ (pNum s).1 ∧ (pNum s).1 ≤ 99 := by
 have top : ∀ r, Z3U (-1) 0 (bl l) s.pos g d rf 0 0 = some r → Z5y (bl l) s.pos g d rf 0 0 = some r := fun r e => Zjg _ _ _ _ _ _ _ e
 unfold pNum
 by_cases h1 : digit (peek s.us) = true
 ·have r1 := ZtU.1 h1
  rw [if_pos h1]
  by_cases h2 : digit (peek (take s).us) = true
  ·have r2 := ZtU.1 h2
   rw [if_pos h2]
   refine ⟨top _ (ZgM h hl g d rf _ _ (by omega) (by omega) _ ?_), (Z82 h).trans (Z82 h.take), by simp only []; omega, by simp only []; omega⟩
   rw [if_pos ⟨by omega, h1⟩]
   refine ZgM h.take hl g d rf _ _ (by omega) (by omega) _ ?_
   rw [if_pos ⟨by omega, h2⟩]
   refine ZgM h.take.take hl g d rf _ _ (by omega) (by omega) _ ?_
   rw [if_neg (by omega)]
   congr 2
   omega
  ·rw [if_neg h2]
   refine ⟨top _ (ZgM h hl g d rf _ _ (by omega) (by omega) _ ?_), Z82 h, by simp only []; omega, by simp only []; omega⟩
   rw [if_pos ⟨by omega, h1⟩]
   refine ZgM h.take hl g d rf _ _ (by omega) (by omega) _ ?_
   rw [if_neg (fun e => h2 e.2)]
   congr 2
   omega
 ·rw [if_neg h1]
  refine ⟨top _ (ZgM h hl g d rf _ _ (by omega) (by omega) _ ?_), Nx.refl h, by simp, by simp⟩
  rw [if_neg (fun e => h1 e.2)]
def CntR (l : List UInt8) (s : St) (o : Out (Int × Int)) (r : Option (Int × Int × Int × Int × Int)) : Prop :=
 match o with
 | .ok n s' => r = some (n.1, n.2, s'.pos, 0, 0) ∧ Nx l s s'
 | .bad c q => c ≠ 0 ∧ ∃ a b, r = some (a, b, (l.length : Int), c, q)
theorem CntR.from {l : List UInt8} {s s1 : St} {o : Out (Int × Int)} {r : Option (Int × Int × Int × Int × Int)} (h : CntR l s1 o r) (hn : Nx l s s1) : CntR l s o r := by
 cases o with
 | ok n s' => exact ⟨h.1, hn.trans h.2⟩
 | bad c q => exact h
theorem Zl8 (l : List UInt8) (s : St) (p lo hi : Int) : CntR l s (.bad 23 p) (Z3f p lo hi (bl l) 0 0) := by
 unfold Z3f
 rw [Z6H]
 exact ⟨by decide, lo, hi, rfl⟩
theorem ZtF {l : List UInt8} {s : St} (h : At l s) (hl : l.length ≤ 1000) (p lo hi : Int) : CntR l s (pFin p lo hi s) (Z30 p lo hi (bl l) s.pos 0 0) := by
 unfold Z30 pFin
 by_cases h1 : lo < 0
 ·rw [if_pos (.inl h1), if_pos (Z2w h1)]
  exact Zl8 ..
 by_cases h2 : hi < lo
 ·rw [if_pos (.inr (.inl h2)), if_neg (Z2q h1), if_pos (Z2w h2)]
  exact Zl8 ..
 by_cases h3 : 64 < hi
 ·rw [if_pos (.inr (.inr h3)), if_neg (Z2q h1), if_neg (Z2q h2), if_pos (Z2w h3)]
  exact Zl8 ..
 rw [if_neg (show ¬ (lo < 0 ∨ hi < lo ∨ 64 < hi) by omega), if_neg (Z2q h1), if_neg (Z2q h2), if_neg (Z2q h3)]
 cases hw : wd [125] s with
 | none =>
  rw [Z4r w125 h hl hw, Option.bind_some, if_pos (show (!false) = true from rfl)]
  exact Zl8 ..
 | some s1 =>
  obtain ⟨q1, q2, q3⟩ := Z2z w125 h hl hw
  rw [q1, Option.bind_some, if_neg (show ¬ ((!true) = true) by simp)]
  exact ⟨rfl, q2⟩
theorem Zyi {l : List UInt8} {s : St} (h : At l s) (hl : l.length ≤ 1000) (p g d : Int) (rf : List Zx) : CntR l s (ZgN p s) (Z6W p (bl l) s.pos g d rf 0 0) := by
 have top : ∀ o, CntR l s o (Z6Q p (bl l) s.pos g d rf 0 0) → CntR l s o (Z6W p (bl l) s.pos g d rf 0 0) := by
  intro o ho
  cases o with
  | ok n s' => exact ⟨Zcp _ _ _ _ _ _ _ _ ho.1, ho.2⟩
  | bad c q => obtain ⟨hc, a, b, hn⟩ := ho; exact ⟨hc, a, b, Zcp _ _ _ _ _ _ _ _ hn⟩
 apply top
 obtain ⟨n1, n2, n3, n4⟩ := ZxU h hl g d rf
 unfold Z6Q ZgN
 rw [n1, Option.bind_some]
 dsimp only
 cases hw : wd [44] (pNum s).2 with
 | none =>
  rw [Z4r w44 n2.at_ hl hw, Option.bind_some, if_neg (by simp)]
  exact (ZtF n2.at_ hl p _ _).from n2
 | some s2 =>
  obtain ⟨q1, q2, q3⟩ := Z2z w44 n2.at_ hl hw
  obtain ⟨m1, m2, m3, m4⟩ := ZxU q2.at_ hl g d rf
  rw [q1, Option.bind_some, if_pos rfl]
  dsimp only
  rw [m1, Option.bind_some]
  dsimp only
  have hn := n2.trans (q2.trans m2)
  by_cases h1 : (pNum s2).1 < 0
  ·rw [if_pos (Z2w h1)]
   by_cases h2 : 0 ≤ (pNum s).1
   ·rw [if_pos (Z2w h2), if_pos (show (pNum s2).1 < 0 ∧ 0 ≤ (pNum s).1 from ⟨h1, h2⟩)]
    unfold Z7f
    have r8 : ∀ s5 : St, CntR l s (.bad 23 p) (Z4I p (pNum s).1 (bl l) s5.pos 0 0) := by
     intro s5
     unfold Z4I Z30
     rw [if_neg (Z2q (show ¬ (pNum s).1 < 0 by omega)), if_pos (Z2w (show (-2 : Int) < (pNum s).1 by omega))]
     exact Zl8 ..
    cases hw2 : wd [125] (pNum s2).2 with
    | none =>
     rw [Z4r w125 m2.at_ hl hw2, Option.bind_some, if_neg (by simp)]
     exact r8 _
    | some s4 =>
     obtain ⟨t1, t2, t3⟩ := Z2z w125 m2.at_ hl hw2
     rw [t1, Option.bind_some, if_pos rfl]
     by_cases h3 : (pNum s).1 ≤ 64
     ·dsimp only
      rw [if_pos (Z2w h3), if_pos h3]
      exact ⟨rfl, hn.trans t2⟩
     ·dsimp only
      rw [if_neg (Z2q h3), if_neg h3]
      exact r8 _
   ·rw [if_neg (Z2q h2), if_neg (show ¬ ((pNum s2).1 < 0 ∧ 0 ≤ (pNum s).1) from fun e => h2 e.2)]
    exact (ZtF m2.at_ hl p _ _).from hn
  ·rw [if_neg (Z2q h1), if_neg (show ¬ ((pNum s2).1 < 0 ∧ 0 ≤ (pNum s).1) from fun e => h1 e.1)]
   exact (ZtF m2.at_ hl p _ _).from hn
def fin (l : List UInt8) : St := ⟨[], (l.length : Int), 0, []⟩
theorem fin_at (l : List UInt8) : At l (fin l) := ⟨l.length, Nat.le_refl _, rfl, by rw [List.drop_of_length_le (Nat.le_refl _)]; rfl⟩
theorem Zew {l : List UInt8} (hl : l.length ≤ 1000) {b : ByteArray} {c : Int} {w : List Int} (hw : Wd b (c :: w)) : Z1F b (bl l) (l.length : Int) = some (false, (l.length : Int)) :=
 Z4r hw (fin_at l) hl rfl
theorem Zno {l : List UInt8} (hl : l.length ≤ 1000) (c q k lo hi m rr : Int) (st : List Zc) (ks : List Z7) : Z3G (bl l) (l.length : Int) c q k lo hi m rr st ks = some (⟨k, lo, hi, m, rr, st, ks⟩, (l.length : Int), c, q) := by
 unfold Z3G
 rw [Zew hl w63, Option.bind_some, if_neg (by simp)]
 dsimp only
 rw [Zew hl w43, Option.bind_some, if_neg (by simp)]
 rfl
theorem Zkj {l : List UInt8} {s : St} (h : At l s) (hl : l.length ≤ 1000) (kid : Z7) (may : Bool) (p lo hi : Int) : ClsR l s (ZhG kid may p lo hi s) (Z2W may p (bl l) s.pos 0 0 4 lo hi 0 0 [] [kid]) := by
 unfold Z2W ZhG
 cases may with
 | false =>
  rw [if_pos rfl, if_pos (show (!false) = true from rfl), Z6H, Option.bind_some]
  dsimp only
  rw [Zno hl]
  exact ⟨by decide, _, rfl⟩
 | true =>
  rw [if_neg (by simp), if_neg (show ¬ ((!true) = true) by simp)]
  unfold Z3G Z4t
  cases hw : wd [63] s with
  | some s1 =>
   obtain ⟨t1, t2, t3⟩ := Z2z w63 h hl hw
   rw [t1, Option.bind_some, if_pos rfl]
   exact ⟨rfl, t2⟩
  | none =>
   rw [Z4r w63 h hl hw, Option.bind_some, if_neg (by simp)]
   dsimp only
   cases hw2 : wd [43] s with
   | some s1 =>
    obtain ⟨t1, t2, t3⟩ := Z2z w43 h hl hw2
    rw [t1, Option.bind_some, if_pos rfl]
    exact ⟨rfl, t2⟩
   | none =>
    rw [Z4r w43 h hl hw2, Option.bind_some, if_neg (by simp)]
    exact ⟨rfl, Nx.refl h⟩
theorem ZDl {l : List UInt8} (hl : l.length ≤ 1000) (kid : Z7) (may : Bool) (g d : Int) (rf : List Zx) (c q : Int) : Z6X kid may (bl l) (l.length : Int) g d rf c q = some (kid, (l.length : Int), c, q) := by
 apply Zct
 unfold Z5t
 rw [Zew hl w42, Option.bind_some, if_neg (by simp)]
 dsimp only
 rw [Zew hl w43, Option.bind_some, if_neg (by simp)]
 dsimp only
 rw [Zew hl w63, Option.bind_some, if_neg (by simp)]
 dsimp only
 rw [Zew hl w123, Option.bind_some, if_neg (by simp)]
theorem Zy3 {l : List UInt8} {s : St} (h : At l s) (hl : l.length ≤ 1000) (kid : Z7) (may : Bool) (g d : Int) (rf : List Zx) : ClsR l s (pRep kid may s) (Z6X kid may (bl l) s.pos g d rf 0 0) := by
 refine ClsR.of (b := Z5t kid may (bl l) s.pos g d rf 0 0) ?_ fun r e => Zct _ _ _ _ _ _ _ _ _ e
 unfold Z5t pRep
 cases hw : wd [42] s with
 | some s1 =>
  obtain ⟨t1, t2, t3⟩ := Z2z w42 h hl hw
  rw [t1, Option.bind_some, if_pos rfl]
  exact (Zkj t2.at_ hl kid may _ _ _).from t2
 | none =>
  rw [Z4r w42 h hl hw, Option.bind_some, if_neg (by simp)]
  dsimp only
  cases hw2 : wd [43] s with
  | some s1 =>
   obtain ⟨t1, t2, t3⟩ := Z2z w43 h hl hw2
   rw [t1, Option.bind_some, if_pos rfl]
   exact (Zkj t2.at_ hl kid may _ _ _).from t2
  | none =>
   rw [Z4r w43 h hl hw2, Option.bind_some, if_neg (by simp)]
   dsimp only
   cases hw3 : wd [63] s with
   | some s1 =>
    obtain ⟨t1, t2, t3⟩ := Z2z w63 h hl hw3
    rw [t1, Option.bind_some, if_pos rfl]
    exact (Zkj t2.at_ hl kid may _ _ _).from t2
   | none =>
    rw [Z4r w63 h hl hw3, Option.bind_some, if_neg (by simp)]
    dsimp only
    cases hw4 : wd [123] s with
    | none =>
     rw [Z4r w123 h hl hw4, Option.bind_some, if_neg (by simp)]
     exact ⟨rfl, Nx.refl h⟩
    | some s1 =>
     obtain ⟨t1, t2, t3⟩ := Z2z w123 h hl hw4
     rw [t1, Option.bind_some, if_pos rfl]
     dsimp only
     have hc := Zyi t2.at_ hl s.pos g d rf
     cases hp : ZgN s.pos s1 with
     | bad c q =>
      rw [hp] at hc
      obtain ⟨hc0, a, b, hc⟩ := hc
      rw [hc, Option.bind_some]
      unfold Z2W
      dsimp only [Out.bind]
      cases may with
      | false =>
       rw [if_pos (show (!false) = true from rfl), ZtZ _ _ _ _ _ hc0, Option.bind_some]
       dsimp only
       rw [Zno hl]
       exact ⟨hc0, _, rfl⟩
      | true =>
       rw [if_neg (show ¬ ((!true) = true) by simp), Zno hl]
       exact ⟨hc0, _, rfl⟩
     | ok n s2 =>
      rw [hp] at hc
      obtain ⟨hc, hn⟩ := hc
      rw [hc, Option.bind_some]
      exact (Zkj hn.at_ hl kid may _ _ _).from (t2.trans hn)
end Go.Proofs.YteoeggbihfnbfaaGreatDoor.N2
end
section
set_option linter.unusedSimpArgs false
set_option linter.unusedVariables false
namespace Go.Proofs.YteoeggbihfnbfaaGreatDoor.N2
open Go Go.Abs Go.Proofs.Unis Go.Proofs.Norm
set_option maxRecDepth 100000
structure Inv (l : List UInt8) (s : St) : Prop where
 at_ : At l s
 g0 : 0 ≤ s.gr
 g9 : s.gr ≤ 9
 rf : s.rf.length + s.us.length ≤ 1500
structure Mv (l : List UInt8) (s s' : St) : Prop where
 at_ : At l s'
 len : s'.us.length ≤ s.us.length
 g0 : 0 ≤ s'.gr
 g9 : s'.gr ≤ 9
 rf : s'.rf.length + s'.us.length ≤ s.rf.length + s.us.length
theorem Mv.inv {l : List UInt8} {s s' : St} (h : Mv l s s') (hi : Inv l s) : Inv l s' := ⟨h.at_, h.g0, h.g9, Nat.le_trans h.rf hi.rf⟩
theorem Mv.trans {l : List UInt8} {s s' s'' : St} (h : Mv l s s') (h' : Mv l s' s'') : Mv l s s'' :=
 ⟨h'.at_, Nat.le_trans h'.len h.len, h'.g0, h'.g9, Nat.le_trans h'.rf h.rf⟩
theorem Nx.mv {l : List UInt8} {s s' : St} (h : Nx l s s') (hi : Inv l s) : Mv l s s' :=
 ⟨h.at_, h.len, by rw [h.gr]; exact hi.g0, by rw [h.gr]; exact hi.g9, by rw [h.rf]; have := h.len; omega⟩
def AltR (l : List UInt8) (d : Int) (s : St) (o : Out Z7) (r : Option (Z7 × Int × Int × Int × List Zx × Int × Int)) : Prop :=
 match o with
 | .ok n s' => r = some (n, s'.pos, s'.gr, d, s'.rf, 0, 0) ∧ Mv l s s'
 | .bad c q => c ≠ 0 ∧ ∃ n g' d' rf', rf'.length ≤ 1500 ∧ r = some (n, (l.length : Int), g', d', rf', c, q)
def AtmR (l : List UInt8) (d : Int) (s : St) (o : Out (Z7 × Bool)) (r : Option (Z7 × Bool × Int × Int × Int × List Zx × Int × Int)) : Prop :=
 match o with
 | .ok n s' => r = some (n.1, n.2, s'.pos, s'.gr, d, s'.rf, 0, 0) ∧ Mv l s s'
 | .bad c q => c ≠ 0 ∧ ∃ n may g' d' rf', rf'.length ≤ 1500 ∧ r = some (n, may, (l.length : Int), g', d', rf', c, q)
theorem AltR.of {l : List UInt8} {d : Int} {s : St} {o : Out Z7} {b g : Option (Z7 × Int × Int × Int × List Zx × Int × Int)} (hb : AltR l d s o b) (hg : ∀ r, b = some r → g = some r) : AltR l d s o g := by
 cases o with
 | ok n s' => exact ⟨hg _ hb.1, hb.2⟩
 | bad c q => obtain ⟨hc, n, g', d', rf', hq, hn⟩ := hb; exact ⟨hc, n, g', d', rf', hq, hg _ hn⟩
theorem AtmR.of {l : List UInt8} {d : Int} {s : St} {o : Out (Z7 × Bool)} {b g : Option (Z7 × Bool × Int × Int × Int × List Zx × Int × Int)} (hb : AtmR l d s o b) (hg : ∀ r, b = some r → g = some r) : AtmR l d s o g := by
 cases o with
 | ok n s' => exact ⟨hg _ hb.1, hb.2⟩
 | bad c q => obtain ⟨hc, n, m, g', d', rf', hq, hn⟩ := hb; exact ⟨hc, n, m, g', d', rf', hq, hg _ hn⟩
theorem AltR.from {l : List UInt8} {d : Int} {s s1 : St} {o : Out Z7} {r : Option (Z7 × Int × Int × Int × List Zx × Int × Int)} (h : AltR l d s1 o r) (hn : Mv l s s1) : AltR l d s o r := by
 cases o with
 | ok n s' => exact ⟨h.1, hn.trans h.2⟩
 | bad c q => exact h
theorem AtmR.from {l : List UInt8} {d : Int} {s s1 : St} {o : Out (Z7 × Bool)} {r : Option (Z7 × Bool × Int × Int × Int × List Zx × Int × Int)} (h : AtmR l d s1 o r) (hn : Mv l s s1) : AtmR l d s o r := by
 cases o with
 | ok n s' => exact ⟨h.1, hn.trans h.2⟩
 | bad c q => exact h
theorem w124 : Wd (ByteArray.mk #[124]) [124] := ⟨[124], rfl, rfl, by decide, by decide, by decide⟩
theorem w41 : Wd (ByteArray.mk #[41]) [41] := ⟨[41], rfl, rfl, by decide, by decide, by decide⟩
theorem wL0 : Wd (ByteArray.mk #[63, 61]) [63, 61] := ⟨[63, 61], rfl, rfl, by decide, by decide, by decide⟩
theorem wL1 : Wd (ByteArray.mk #[63, 33]) [63, 33] := ⟨[63, 33], rfl, rfl, by decide, by decide, by decide⟩
theorem wL2 : Wd (ByteArray.mk #[63, 60, 61]) [63, 60, 61] := ⟨[63, 60, 61], rfl, rfl, by decide, by decide, by decide⟩
theorem wL3 : Wd (ByteArray.mk #[63, 60, 33]) [63, 60, 33] := ⟨[63, 60, 33], rfl, rfl, by decide, by decide, by decide⟩
theorem wAt : Wd (ByteArray.mk #[63, 62]) [63, 62] := ⟨[63, 62], rfl, rfl, by decide, by decide, by decide⟩
theorem wNo : Wd (ByteArray.mk #[63, 58]) [63, 58] := ⟨[63, 58], rfl, rfl, by decide, by decide, by decide⟩
theorem Zq1 (x3 : List Z7) (b : List Int) (a g d : Int) (rf : List Zx) (c q : Int) (hc : c ≠ 0) : Z5w x3 b a g d rf c q = some (joined 2 x3, a, g, d, rf, c, q) := by
 apply Zcn
 unfold Z6O Z3t
 rw [if_neg (Z2n hc), Zis]
 rfl
theorem ZnZ {l : List UInt8} (hl : l.length ≤ 1000) (x3 : List Z7) (g d : Int) (rf : List Zx) (c q : Int) : Z5v x3 (bl l) (l.length : Int) g d rf c q = some (joined 3 x3, (l.length : Int), g, d, rf, c, q) := by
 apply Zcl
 unfold Z5r Z6N
 rw [Zew hl w124, Option.bind_some, if_neg (by simp), Zis]
 rfl
theorem ZCr {l : List UInt8} (hl : l.length ≤ 1000) (g d : Int) (rf : List Zx) (c q : Int) (hc : c ≠ 0) : Z4l (bl l) (l.length : Int) g d rf c q = some (nd0, (l.length : Int), g, d, rf, c, q) := by
 apply ZeU
 unfold Z6M
 have : Z6V (bl l) (l.length : Int) g d rf c q = some (nd0, (l.length : Int), g, d, rf, c, q) := by
  apply ZeW
  unfold Z8g
  exact Zq1 _ _ _ _ _ _ _ _ hc
 rw [this, Option.bind_some]
 exact ZnZ hl _ _ _ _ _ _
theorem ZuD {l : List UInt8} (hl : l.length ≤ 1000) {d : Int} {P : Int → St → Out (Z7 × Bool)} (HP : ∀ p s, Inv l s → AtmR l d s (P p s) (Z4U p (bl l) s.pos s.gr d s.rf 0 0)) {s : St} (h : Inv l s) (hn : s.us ≠ []) :
  AtmR l d (take s) (Zkf P s) (Z9N (bl l) s.pos s.gr d s.rf 0 0) := by
 refine AtmR.of (b := Z7J (bl l) s.pos s.gr d s.rf 0 0) ?_ fun r e => ZkC _ _ _ _ _ _ _ e
 have hnx := Z82 h.at_
 have hiv := (hnx.mv h).inv h
 have m0 : Mv l (take s) (take s) := (Nx.refl hnx.at_).mv hiv
 have hg : (take s).gr = s.gr := hnx.gr
 have hrf : (take s).rf = s.rf := hnx.rf
 have hu : 0 ≤ peek s.us ∧ peek s.us ≤ 1114367 := by
  rcases h.at_.range with ⟨_, h2⟩ | h2
  ·exact absurd h2 hn
  ·omega
 have bad : ∀ c q, c ≠ 0 → AtmR l d (take s) (.bad c q) ((Z1h c q (bl l) 0 0).bind fun r7 => Z20 r7.1 s.gr d s.rf r7.2.1 r7.2.2) := by
  intro c q hc
  rw [Z6H]
  exact ⟨hc, _, _, _, _, _, show s.rf.length ≤ 1500 by have := h.rf; omega, rfl⟩
 have plain : AtmR l d (take s) (.ok (setN (setR false [(peek s.us, peek s.us)]), true) (take s)) ((Z2u (peek s.us)).bind fun r12 => (Z43 false ([r12] : List Zc)).bind fun r13 => some (r13, true, (take s).pos, s.gr, d, s.rf, 0, 0)) := by
  have hset := ZiV false (L := [(peek s.us, peek s.us)]) (by simp) (by simp; omega)
  rw [Z8C, Option.bind_some, show [Zc.mk (peek s.us) (peek s.us)] = [((peek s.us, peek s.us) : R2)].map ofR from rfl, hset, Option.bind_some]
  exact ⟨by rw [hg, hrf], m0⟩
 unfold Z7J Zkf
 rw [ZcI h.at_ (by omega) hn, Option.bind_some]
 dsimp only
 by_cases h1 : peek s.us = 46
 ·rw [if_pos h1, if_pos (Z2k h1)]
  have hset := ZiV true (L := [((10 : Int), (10 : Int))]) (by simp) (by simp)
  rw [Z8C, Option.bind_some, show [Zc.mk 10 10] = [((10, 10) : R2)].map ofR from rfl, hset, Option.bind_some]
  exact ⟨by rw [hg, hrf], m0⟩
 rw [if_neg h1, if_neg (Z2n h1)]
 by_cases h2 : peek s.us = 94
 ·rw [if_pos h2, if_pos (Z2k h2)]
  exact ⟨by rw [hg, hrf]; rfl, m0⟩
 rw [if_neg h2, if_neg (Z2n h2)]
 by_cases h3 : peek s.us = 36
 ·rw [if_pos h3, if_pos (Z2k h3)]
  exact ⟨by rw [hg, hrf]; rfl, m0⟩
 rw [if_neg h3, if_neg (Z2n h3)]
 by_cases h4 : peek s.us = 92
 ·rw [if_pos h4, if_pos (Z2k h4)]
  have he := ZDJ hnx.at_ hl (by have := hiv.rf; omega) s.pos s.gr d
  rw [hrf] at he
  cases hp : pEsc s.pos (take s) with
  | bad c q =>
   rw [hp] at he
   obtain ⟨hc, n, he⟩ := he
   rw [hrf] at he
   rw [he]
   exact ⟨hc, _, _, _, _, _, show s.rf.length ≤ 1500 by have := h.rf; omega, rfl⟩
  | ok n s' =>
   rw [hp] at he
   obtain ⟨he, e1, e2, e3, e4⟩ := he
   rw [he]
   refine ⟨?_, ⟨e1, by omega, by rw [e3, hg]; exact h.g0, by rw [e3, hg]; exact h.g9, e4⟩⟩
   rw [e3, hg]
   rfl
 rw [if_neg h4, if_neg (Z2n h4)]
 by_cases h5 : peek s.us = 91
 ·rw [if_pos h5, if_pos (Z2k h5)]
  have he := ZAz hnx.at_ hl s.pos s.gr d s.rf
  cases hp : ZlX s.pos (take s) with
  | bad c q =>
   rw [hp] at he
   obtain ⟨hc, n, he⟩ := he
   rw [he]
   exact ⟨hc, _, _, _, _, _, show s.rf.length ≤ 1500 by have := h.rf; omega, rfl⟩
  | ok n s' =>
   rw [hp] at he
   obtain ⟨he, e1⟩ := he
   rw [he]
   refine ⟨?_, e1.mv hiv⟩
   rw [e1.gr, e1.rf, hg, hrf]
   rfl
 rw [if_neg h5, if_neg (Z2n h5)]
 by_cases h6 : peek s.us = 40
 ·rw [if_pos h6, if_pos (Z2k h6)]
  have he := HP s.pos (take s) hiv
  rw [hg, hrf] at he
  cases hp : P s.pos (take s) with
  | bad c q =>
   rw [hp] at he
   obtain ⟨hc, n, m, g', d', rf', hq, he⟩ := he
   rw [he]
   exact ⟨hc, _, _, _, _, _, hq, rfl⟩
  | ok n s' =>
   rw [hp] at he
   obtain ⟨he, e1⟩ := he
   rw [he]
   exact ⟨rfl, e1⟩
 rw [if_neg h6, if_neg (Z2n h6)]
 by_cases h7 : peek s.us = 42
 ·rw [if_pos (show peek s.us = 42 ∨ peek s.us = 43 ∨ peek s.us = 63 ∨ peek s.us = 123 from .inl h7), if_pos (Z2k h7), if_pos (Z2k h7)]
  exact bad _ _ (by decide)
 rw [if_neg (Z2n h7)]
 by_cases h8 : peek s.us = 43
 ·rw [if_pos (show peek s.us = 42 ∨ peek s.us = 43 ∨ peek s.us = 63 ∨ peek s.us = 123 from .inr (.inl h8)), if_pos (Z2k h8), if_pos (Z2k h8)]
  exact bad _ _ (by decide)
 rw [if_neg (Z2n h8)]
 by_cases h9 : peek s.us = 63
 ·rw [if_pos (show peek s.us = 42 ∨ peek s.us = 43 ∨ peek s.us = 63 ∨ peek s.us = 123 from .inr (.inr (.inl h9))), if_pos (Z2k h9), if_pos (Z2k h9)]
  exact bad _ _ (by decide)
 rw [if_neg (Z2n h9)]
 by_cases h10 : peek s.us = 123
 ·rw [if_pos (show peek s.us = 42 ∨ peek s.us = 43 ∨ peek s.us = 63 ∨ peek s.us = 123 from .inr (.inr (.inr h10))), if_pos (Z2k h10)]
  exact bad _ _ (by decide)
 rw [if_neg (show ¬ (peek s.us = 42 ∨ peek s.us = 43 ∨ peek s.us = 63 ∨ peek s.us = 123) by omega), if_neg (Z2n h10)]
 by_cases h11 : peek s.us = 93
 ·rw [if_pos (show peek s.us = 93 ∨ peek s.us = 125 from .inl h11), if_pos (Z2k h11), if_pos (Z2k h11)]
  exact bad _ _ (by decide)
 rw [if_neg (Z2n h11)]
 by_cases h12 : peek s.us = 125
 ·rw [if_pos (show peek s.us = 93 ∨ peek s.us = 125 from .inr h12), if_pos (Z2k h12)]
  exact bad _ _ (by decide)
 rw [if_neg (show ¬ (peek s.us = 93 ∨ peek s.us = 125) by omega), if_neg (Z2n h12)]
 exact plain
end Go.Proofs.YteoeggbihfnbfaaGreatDoor.N2
end
section
set_option linter.unusedSimpArgs false
set_option linter.unusedVariables false
namespace Go.Proofs.YteoeggbihfnbfaaGreatDoor.N2
open Go Go.Abs Go.Proofs.Unis Go.Proofs.Norm
set_option maxRecDepth 100000
section
variable {l : List UInt8} (hl : l.length ≤ 1000) {d : Int} {P : Int → St → Out (Z7 × Bool)} (HP : ∀ p s, Inv l s → AtmR l d s (P p s) (Z4U p (bl l) s.pos s.gr d s.rf 0 0))
theorem Zjr (kids : List Z7) (n : Z7) (h : kids.length ≤ 5000) : lapp kids [n] = some (kids ++ [n]) := by
 unfold lapp
 rw [if_pos (by simp [lim]; omega)]
include hl HP in
theorem ZCt : ∀ (k : Nat) (kids : List Z7) (s : St), Inv l s → s.us.length < k → kids.length + s.us.length ≤ 3000 → AltR l d s (Zkg P k kids s) (Z5w kids (bl l) s.pos s.gr d s.rf 0 0) := by
 intro k
 induction k with
 | zero => intro kids s _ hk; omega
 | succ k ih =>
  intro kids s h hk hb
  have r9 : AltR l d s (.ok (joined 2 kids) s) (Z3t kids s.pos s.gr d s.rf 0 0) := by
   unfold Z3t
   rw [Zis]
   exact ⟨rfl, (Nx.refl h.at_).mv h⟩
  have r7 : s.us ≠ [] → AltR l d s ((Zkf P s).bind fun m s1 => (pRep m.1 m.2 s1).bind fun n s2 => Zkg P k (kids ++ [n]) s2) (Z4G kids (bl l) s.pos s.gr d s.rf 0 0) := by
   intro hn
   have hlt := Zm1 h.at_ hn
   have hiv := ((Z82 h.at_).mv h).inv h
   have ha := ZuD hl HP h hn
   unfold Z4G
   cases hp : Zkf P s with
   | bad c q =>
    rw [hp] at ha
    obtain ⟨hc, n, m, g', d', rf', hq, ha⟩ := ha
    rw [ha, Option.bind_some]
    dsimp only
    rw [ZDl hl, Option.bind_some]
    dsimp only
    rw [Zjr _ _ (by omega), Option.bind_some, Zq1 _ _ _ _ _ _ _ _ hc]
    exact ⟨hc, _, _, _, _, hq, rfl⟩
   | ok n s1 =>
    rw [hp] at ha
    obtain ⟨ha, hm⟩ := ha
    rw [ha, Option.bind_some]
    dsimp only [Out.bind]
    have hi1 := hm.inv hiv
    have hr := Zy3 hm.at_ hl n.1 n.2 s1.gr d s1.rf
    cases hp2 : pRep n.1 n.2 s1 with
    | bad c q =>
     rw [hp2] at hr
     obtain ⟨hc, n', hr⟩ := hr
     rw [hr, Option.bind_some]
     dsimp only
     rw [Zjr _ _ (by omega), Option.bind_some, Zq1 _ _ _ _ _ _ _ _ hc]
     exact ⟨hc, _, _, _, _, show s1.rf.length ≤ 1500 by have := hi1.rf; omega, rfl⟩
    | ok n' s2 =>
     rw [hp2] at hr
     obtain ⟨hr, hx⟩ := hr
     rw [hr, Option.bind_some]
     dsimp only
     rw [Zjr _ _ (by omega), Option.bind_some, ← hx.gr, ← hx.rf]
     have h2 := hx.mv hi1
     have := h2.len
     have := hm.len
     exact (ih (kids ++ [n']) s2 (h2.inv hi1) (by omega) (by simp; omega)).from (((Z82 h.at_).mv h).trans (hm.trans h2))
  refine AltR.of (b := Z6P kids (bl l) s.pos s.gr d s.rf 0 0) ?_ fun r e => ?_
  ·unfold Z6P Zkg
   rw [Z9w h.at_, Option.bind_some]
   by_cases hn : s.us = []
   ·have hp : peek s.us = -1 := by rw [hn]; rfl
    rw [if_pos (show stops s.us = true by rw [hn]; rfl), if_pos (Z2k hp), if_pos (Z2k hp)]
    exact r9
   have hu : 0 ≤ peek s.us := by
    rcases h.at_.range with ⟨_, h2⟩ | h2
    ·exact absurd h2 hn
    ·omega
   have he : s.us.isEmpty = false := by
    cases hs : s.us with
    | nil => exact absurd hs hn
    | cons a b => rfl
   rw [if_neg (Z2n (show ¬ peek s.us = -1 by omega))]
   by_cases h1 : peek s.us = 124
   ·rw [if_pos (show stops s.us = true by simp [stops, h1]), if_pos (Z2k h1), if_pos (Z2k h1)]
    exact r9
   rw [if_neg (Z2n h1)]
   by_cases h2 : peek s.us = 41
   ·rw [if_pos (show stops s.us = true by simp [stops, h2]), if_pos (Z2k h2)]
    exact r9
   rw [if_neg (show ¬ (stops s.us = true) by simp [stops, he, h1, h2]), if_neg (Z2n h2)]
   exact r7 hn
  ·apply Zcn
   unfold Z6O
   rw [if_pos (by rfl)]
   exact e
include hl HP in
theorem ZoJ {s : St} (h : Inv l s) : AltR l d s (pCat P s) (Z6V (bl l) s.pos s.gr d s.rf 0 0) := by
 have := h.rf
 refine AltR.of (ZCt hl HP (s.us.length + 1) [] s h (by omega) (by simp; omega)) fun r e => ?_
 apply ZeW
 unfold Z8g
 exact e
include hl HP in
theorem ZCq : ∀ (k : Nat) (kids : List Z7) (s : St), Inv l s → s.us.length < k → kids.length + s.us.length ≤ 3000 → AltR l d s (Znk P k kids s) (Z5v kids (bl l) s.pos s.gr d s.rf 0 0) := by
 intro k
 induction k with
 | zero => intro kids s _ hk; omega
 | succ k ih =>
  intro kids s h hk hb
  refine AltR.of (b := Z5r kids (bl l) s.pos s.gr d s.rf 0 0) ?_ fun r e => Zcl _ _ _ _ _ _ _ _ e
  unfold Z5r Znk
  cases hw : wd [124] s with
  | none =>
   rw [Z4r w124 h.at_ hl hw, Option.bind_some, if_neg (by simp)]
   unfold Z6N
   rw [Zis]
   exact ⟨rfl, (Nx.refl h.at_).mv h⟩
  | some s1 =>
   obtain ⟨t1, t2, t3⟩ := Z2z w124 h.at_ hl hw
   have m1 := t2.mv h
   rw [t1, Option.bind_some, if_pos rfl]
   unfold Z8x
   have hc := ZoJ hl HP (m1.inv h)
   rw [t2.gr, t2.rf] at hc
   dsimp only
   cases hp : pCat P s1 with
   | bad c q =>
    rw [hp] at hc
    obtain ⟨hc0, n, g', d', rf', hq, hc⟩ := hc
    rw [hc, Option.bind_some]
    dsimp only
    rw [Zjr _ _ (by omega), Option.bind_some, ZnZ hl]
    exact ⟨hc0, _, _, _, _, hq, rfl⟩
   | ok n s2 =>
    rw [hp] at hc
    obtain ⟨hc, m2⟩ := hc
    rw [hc, Option.bind_some]
    dsimp only
    rw [Zjr _ _ (by omega), Option.bind_some]
    have := m2.len
    exact (ih (kids ++ [n]) s2 (m2.inv (m1.inv h)) (by omega) (by simp; omega)).from (m1.trans m2)
include hl HP in
theorem ZuB {s : St} (h : Inv l s) : AltR l d s (Zpf P s) (Z4l (bl l) s.pos s.gr d s.rf 0 0) := by
 refine AltR.of (b := Z6M (bl l) s.pos s.gr d s.rf 0 0) ?_ fun r e => ZeU _ _ _ _ _ _ _ e
 unfold Z6M Zpf
 have hc := ZoJ hl HP h
 cases hp : pCat P s with
 | bad c q =>
  rw [hp] at hc
  obtain ⟨hc0, n, g', d', rf', hq, hc⟩ := hc
  rw [hc, Option.bind_some]
  dsimp only
  rw [ZnZ hl]
  exact ⟨hc0, _, _, _, _, hq, rfl⟩
 | ok n s2 =>
  rw [hp] at hc
  obtain ⟨hc, m2⟩ := hc
  rw [hc, Option.bind_some]
  have := m2.len
  have := h.rf
  exact (ZCq hl HP (s2.us.length + 1) [n] s2 (m2.inv h) (by omega) (by simp; omega)).from m2
end
theorem ff : ¬ (false = true) := by simp
theorem Zkd {l : List UInt8} {s : St} (h : At l s) (hl : l.length ≤ 1000) {L : List ByteArray} {i : Nat} {b : ByteArray} {w : List Int} (hw : Wd b w) (hL : L[i]? = some b) (hi : i ≤ 100) (e : wd w s = none) : ∀ r, Z2m L (L.length : Int) ((i + 1 : Nat) : Int) (bl l) s.pos = some r → Z2m L (L.length : Int) (i : Int) (bl l) s.pos = some r := by
 intro r hr
 have hlt : i < L.length := (List.getElem?_eq_some_iff.1 hL).1
 apply Z65
 unfold Z3i Z3T
 rw [if_pos (Z2w (by omega)), Z34, hL, Option.bind_some, Z4r hw h hl e, Option.bind_some, if_neg (by simp)]
 unfold Z4S
 rw [wrap_i64 (by omega) (by omega)]
 exact hr
theorem Znd {l : List UInt8} {s s1 : St} (h : At l s) (hl : l.length ≤ 1000) {L : List ByteArray} {i : Nat} {b : ByteArray} {w : List Int} (hw : Wd b w) (hL : L[i]? = some b) (e : wd w s = some s1) : Z2m L (L.length : Int) (i : Int) (bl l) s.pos = some ((i : Int), s1.pos) := by
 have hlt : i < L.length := (List.getElem?_eq_some_iff.1 hL).1
 apply Z65
 unfold Z3i Z3T
 rw [if_pos (Z2w (by omega)), Z34, hL, Option.bind_some, (Z2z hw h hl e).1, Option.bind_some, if_pos rfl]
theorem ZD0 (l : List UInt8) (p : Int) (L : List ByteArray) : Z2m L (L.length : Int) (L.length : Int) (bl l) p = some (-1, p) := by
 apply Z65
 unfold Z3i
 rw [if_neg (Z2q (by omega))]
 rfl
theorem Zua {l : List UInt8} (hl : l.length ≤ 1000) {d : Int} (hd : 0 ≤ d ∧ d < 32) {A : St → Out Z7} (HA : ∀ s, Inv l s → AltR l (d + 1) s (A s) (Z4l (bl l) s.pos s.gr (d + 1) s.rf 0 0)) (p : Int) (s : St) (h : Inv l s) :
  AtmR l d s (ZlY A p s) (Z4U p (bl l) s.pos s.gr d s.rf 0 0) := by
 have r20 : ∀ (a g : Int) (rf : List Zx) (c q k lo hi m rr : Int) (st : List Zc) (kid : Z7), Z31 a g (d + 1) rf c q k lo hi m rr st kid = some ((if k = 0 then kid else ⟨k, lo, hi, m, rr, st, [kid]⟩), (if k = 0 then true else k != 7), a, g, d, rf, c, q) := by
  intro a g rf c q k lo hi m rr st kid
  unfold Z31 Z5N
  rw [wrap_i64 (n := d + 1 - 1) (by omega) (by omega), show d + 1 - 1 = d by omega]
  by_cases hk : k = 0
  ·rw [if_pos (Z2k hk), if_pos hk, if_pos hk]
  ·rw [if_neg (Z2n hk), if_neg hk, if_neg hk]
 have r20' : ∀ (a g d0 : Int) (rf : List Zx) (c q k lo hi m rr : Int) (st : List Zc) (kid : Z7), ∃ n may d', Z31 a g d0 rf c q k lo hi m rr st kid = some (n, may, a, g, d', rf, c, q) := by
  intro a g d0 rf c q k lo hi m rr st kid
  unfold Z31 Z5N
  by_cases hk : k = 0
  ·exact ⟨_, _, _, by rw [if_pos (Z2k hk)]⟩
  ·exact ⟨_, _, _, by rw [if_neg (Z2n hk)]⟩
 have stop : ∀ (g d0 : Int) (rf : List Zx) (c q k lo hi m rr : Int) (st : List Zc), c ≠ 0 → rf.length ≤ 1500 → AtmR l d s (.bad c q) (Z2p p (bl l) (l.length : Int) g d0 rf c q k lo hi m rr st) := by
  intro g d0 rf c q k lo hi m rr st hc hq
  unfold Z2p
  rw [ZCr hl _ _ _ _ _ hc, Option.bind_some]
  dsimp only
  rw [if_neg (Z2n hc)]
  obtain ⟨n, may, d', e⟩ := r20' (l.length : Int) g d0 rf c q k lo hi m rr st nd0
  rw [e]
  exact ⟨hc, _, _, _, _, _, hq, rfl⟩
 have go : ∀ (k m rr : Int) (s1 : St), Mv l s s1 → AtmR l d s ((A s1).bind fun kid s2 => match wd [41] s2 with
   | none => .bad 20 p
   | some s3 => if k = 0 then .ok (kid, true) s3 else .ok (⟨k, 0, 0, m, rr, [], [kid]⟩, k != 7) s3) (Z2p p (bl l) s1.pos s1.gr (d + 1) s1.rf 0 0 k 0 0 m rr []) := by
  intro k m rr s1 hm
  have hi1 := hm.inv h
  have ha := HA s1 hi1
  unfold Z2p
  cases hp : A s1 with
  | bad c q =>
   rw [hp] at ha
   obtain ⟨hc, n, g', d', rf', hq, ha⟩ := ha
   rw [ha, Option.bind_some]
   dsimp only
   rw [if_neg (Z2n hc)]
   obtain ⟨n, may, d'', e⟩ := r20' (l.length : Int) g' d' rf' c q k 0 0 m rr [] n
   rw [e]
   exact ⟨hc, _, _, _, _, _, hq, rfl⟩
  | ok n s2 =>
   rw [hp] at ha
   obtain ⟨ha, m2⟩ := ha
   rw [ha, Option.bind_some]
   dsimp only [Out.bind]
   rw [if_pos (Z2k rfl)]
   cases hw : wd [41] s2 with
   | none =>
    rw [Z4r w41 m2.at_ hl hw, Option.bind_some, if_pos (show (!false) = true from rfl)]
    unfold Z7k
    rw [Z6H, Option.bind_some, r20]
    exact ⟨by decide, _, _, _, _, _, show s2.rf.length ≤ 1500 by have := (m2.inv hi1).rf; omega, rfl⟩
   | some s3 =>
    obtain ⟨t1, t2, t3⟩ := Z2z w41 m2.at_ hl hw
    rw [t1, Option.bind_some, if_neg (show ¬ ((!true) = true) by simp), r20, ← t2.gr, ← t2.rf]
    have mm := hm.trans (m2.trans (t2.mv (m2.inv hi1)))
    dsimp only
    by_cases hk : k = 0
    ·rw [if_pos hk, if_pos hk, if_pos hk]
     exact ⟨rfl, mm⟩
    ·rw [if_neg hk, if_neg hk, if_neg hk]
     exact ⟨rfl, mm⟩
 refine AtmR.of (b := Z6a p (bl l) s.pos s.gr d s.rf 0 0 0 0 0 0 0 []) ?_ fun r e => ?_
 ·unfold Z6a ZlY ZAb
  have g9 := h.g9
  have g0 := h.g0
  have lk : Zek = some [(ByteArray.mk #[63, 61]), (ByteArray.mk #[63, 33]), (ByteArray.mk #[63, 60, 61]), (ByteArray.mk #[63, 60, 33])] := Zqm rfl
  rw [lk, Option.bind_some, wrap_i64 (n := d + 1) (by omega) (by omega)]
  generalize hL : [(ByteArray.mk #[63, 61]), (ByteArray.mk #[63, 33]), (ByteArray.mk #[63, 60, 61]), (ByteArray.mk #[63, 60, 33])] = L
  have L0 : L[0]? = some (ByteArray.mk #[63, 61]) := by rw [← hL]; rfl
  have L1 : L[1]? = some (ByteArray.mk #[63, 33]) := by rw [← hL]; rfl
  have L2 : L[2]? = some (ByteArray.mk #[63, 60, 61]) := by rw [← hL]; rfl
  have L3 : L[3]? = some (ByteArray.mk #[63, 60, 33]) := by rw [← hL]; rfl
  have Ll : L.length = 4 := by rw [← hL]; rfl
  have idx : ∀ r, Z2m L (L.length : Int) ((0 : Nat) : Int) (bl l) s.pos = some r → Z5F L (bl l) s.pos = some r := by
   intro r e
   apply ZeE
   unfold Z5B
   exact e
  cases hw0 : wd [63, 61] s with
  | some s1 =>
   rw [idx _ (Znd h.at_ hl wL0 L0 hw0), Option.bind_some]
   obtain ⟨t1, t2, t3⟩ := Z2z wL0 h.at_ hl hw0
   have := go 7 0 0 s1 (t2.mv h)
   rw [t2.gr, t2.rf] at this
   exact this
  | none =>
  have i1 := fun r e => idx r (Zkd h.at_ hl wL0 L0 (by omega) hw0 r e)
  cases hw1 : wd [63, 33] s with
  | some s1 =>
   rw [i1 _ (Znd h.at_ hl wL1 L1 hw1), Option.bind_some]
   obtain ⟨t1, t2, t3⟩ := Z2z wL1 h.at_ hl hw1
   have := go 7 1 0 s1 (t2.mv h)
   rw [t2.gr, t2.rf] at this
   exact this
  | none =>
  have i2 := fun r e => i1 r (Zkd h.at_ hl wL1 L1 (by omega) hw1 r e)
  cases hw2 : wd [63, 60, 61] s with
  | some s1 =>
   rw [i2 _ (Znd h.at_ hl wL2 L2 hw2), Option.bind_some]
   obtain ⟨t1, t2, t3⟩ := Z2z wL2 h.at_ hl hw2
   have := go 7 2 0 s1 (t2.mv h)
   rw [t2.gr, t2.rf] at this
   exact this
  | none =>
  have i3 := fun r e => i2 r (Zkd h.at_ hl wL2 L2 (by omega) hw2 r e)
  cases hw3 : wd [63, 60, 33] s with
  | some s1 =>
   rw [i3 _ (Znd h.at_ hl wL3 L3 hw3), Option.bind_some]
   obtain ⟨t1, t2, t3⟩ := Z2z wL3 h.at_ hl hw3
   have := go 7 3 0 s1 (t2.mv h)
   rw [t2.gr, t2.rf] at this
   exact this
  | none =>
  have i4 := i3 _ (Zkd h.at_ hl wL3 L3 (by omega) hw3 _ (by have := ZD0 l s.pos L; rw [Ll] at this ⊢; exact this))
  rw [i4, Option.bind_some]
  dsimp only
  rw [if_neg (Z2q (show ¬ ((0 : Int) ≤ -1) by decide))]
  cases hw4 : wd [63, 62] s with
  | some s1 =>
   obtain ⟨t1, t2, t3⟩ := Z2z wAt h.at_ hl hw4
   rw [t1, Option.bind_some, if_pos rfl]
   have := go 8 0 0 s1 (t2.mv h)
   rw [t2.gr, t2.rf] at this
   exact this
  | none =>
  rw [Z4r wAt h.at_ hl hw4, Option.bind_some, if_neg ff]
  dsimp only
  cases hw5 : wd [63, 58] s with
  | some s1 =>
   obtain ⟨t1, t2, t3⟩ := Z2z wNo h.at_ hl hw5
   rw [t1, Option.bind_some, if_pos rfl]
   have := go 0 0 0 s1 (t2.mv h)
   rw [t2.gr, t2.rf] at this
   exact this
  | none =>
  rw [Z4r wNo h.at_ hl hw5, Option.bind_some, if_neg ff]
  dsimp only
  rw [Z9w h.at_, Option.bind_some]
  by_cases h1 : peek s.us = 63
  ·rw [if_pos h1, if_pos (Z2k h1), Z6H, Option.bind_some]
   exact stop _ _ _ _ _ _ _ _ _ _ _ (by decide) (by have := h.rf; omega)
  rw [if_neg h1, if_neg (Z2n h1)]
  by_cases h2 : s.gr = 9
  ·rw [if_pos h2, if_pos (Z2k h2), Z6H, Option.bind_some]
   exact stop _ _ _ _ _ _ _ _ _ _ _ (by decide) (by have := h.rf; omega)
  rw [if_neg h2, if_neg (Z2n h2), wrap_i64 (n := s.gr + 1) (by omega) (by omega)]
  have mm : Mv l s { s with gr := s.gr + 1 } := ⟨h.at_, Nat.le_refl _, by simp only []; omega, by simp only []; omega, Nat.le_refl _⟩
  exact go 5 0 (s.gr + 1) { s with gr := s.gr + 1 } mm
 ·apply Z9R
  unfold Z5W
  rw [if_neg (Z2n (show ¬ d = 32 by omega))]
  exact e
theorem Zxs {l : List UInt8} (hl : l.length ≤ 1000) : ∀ (k : Nat) (d : Int), d + k = 32 → 0 ≤ d → ∀ s, Inv l s → AltR l d s (pAlt k s) (Z4l (bl l) s.pos s.gr d s.rf 0 0) := by
 intro k
 induction k with
 | zero =>
  intro d hd h0 s h
  refine ZuB hl (P := fun p _ => .bad 25 p) ?_ h
  intro p s h
  refine ⟨by decide, nd0, true, s.gr, d, s.rf, by have := h.rf; omega, ?_⟩
  apply Z9R
  unfold Z5W
  rw [if_pos (Z2k (show d = 32 by omega)), Z6H]
  rfl
 | succ k ih =>
  intro d hd h0 s h
  exact ZuB hl (P := fun p s => ZlY (pAlt k) p s) (fun p s h => Zua hl (by omega) (ih (d + 1) (by omega) (by omega)) p s h) h
end Go.Proofs.YteoeggbihfnbfaaGreatDoor.N2
end
section
set_option linter.unusedSimpArgs false
set_option linter.unusedVariables false
namespace Go.Proofs.YteoeggbihfnbfaaGreatDoor.N2
open Go Go.Abs Go.Proofs.Unis Go.Proofs.Norm
set_option maxRecDepth 100000
theorem ZqK {l : List UInt8} (R : List Zx) (hR : R.length ≤ 2000) (g c q k lo hi m rr : Int) (st : List Zc) (ks : List Z7) (fold : Bool) (hc : c ≠ 0) : ∀ (n i : Nat), i + n = R.length →
  Z7W R (R.length : Int) (i : Int) (bl l) g c q k lo hi m rr st ks fold = some (Zng, ⟨c, q⟩) := by
 intro n
 induction n with
 | zero =>
  intro i h
  apply Z9M
  unfold Z6D Z8M
  rw [if_neg (Z2q (by omega)), if_pos (ZeN hc)]
  rfl
 | succ n ih =>
  intro i h
  have hil : i < R.length := by omega
  apply Z9M
  unfold Z6D Z8L
  rw [if_pos (Z2w (by omega)), Z34, List.getElem?_eq_getElem hil, Option.bind_some]
  have r13 : Z59 R (R.length : Int) (i : Int) (bl l) g c q k lo hi m rr st ks fold = some (Zng, ⟨c, q⟩) := by
   unfold Z59
   rw [wrap_i64 (by omega) (by omega)]
   exact ih (i + 1) (by omega)
  by_cases hg : g < R[i].group
  ·rw [if_pos (Z2w hg), ZtZ _ _ _ _ _ hc, Option.bind_some]
   exact r13
  ·rw [if_neg (Z2q hg)]
   exact r13
theorem ZFA {l : List UInt8} (R : List Zx) (hR : R.length ≤ 2000) (g k lo hi m rr : Int) (st : List Zc) (ks : List Z7) (fold : Bool) : ∀ (n i : Nat), i + n = R.length →
  Z7W R (R.length : Int) (i : Int) (bl l) g 0 0 k lo hi m rr st ks fold = some (match (R.drop i).find? (fun x => decide (g < x.group)) with
   | some x => (Zng, ⟨26, x.at_⟩)
   | none => (⟨⟨k, lo, hi, m, rr, st, ks⟩, g, fold⟩, ⟨0, 0⟩)) := by
 intro n
 induction n with
 | zero =>
  intro i h
  rw [List.drop_of_length_le (by omega)]
  apply Z9M
  unfold Z6D Z8M
  rw [if_neg (Z2q (by omega)), if_neg (Zge rfl)]
  rfl
 | succ n ih =>
  intro i h
  have hil : i < R.length := by omega
  apply Z9M
  unfold Z6D Z8L
  rw [if_pos (Z2w (by omega)), Z34, List.getElem?_eq_getElem hil, Option.bind_some, List.drop_eq_getElem_cons hil, List.find?_cons]
  by_cases hg : g < R[i].group
  ·rw [if_pos (Z2w hg), Z6H, Option.bind_some]
   simp only [hg, decide_true]
   unfold Z59
   rw [wrap_i64 (by omega) (by omega)]
   exact ZqK R hR g 26 _ k lo hi m rr st ks fold (by decide) n (i + 1) (by omega)
  ·rw [if_neg (Z2q hg)]
   simp only [hg, decide_false]
   unfold Z59
   rw [wrap_i64 (by omega) (by omega)]
   exact ih (i + 1) (by omega)
theorem wFo : Wd (ByteArray.mk #[40, 63, 105, 41]) [40, 63, 105, 41] := ⟨[40, 63, 105, 41], rfl, rfl, by decide, by decide, by decide⟩
def Z6x (x : ByteArray) : ZT × Zl :=
 if 256 < x.data.toList.length then (Zng, ⟨12, 0⟩) else Zwa (unis x.data.toList)
theorem Zxx {l : List UInt8} (hl : l.length ≤ 1000) (fold : Bool) {s : St} (h : Inv l s) (hg : s.gr = 0) (hrf : s.rf = []) :
  ((Z4l (bl l) s.pos 0 0 [] 0 0).bind fun r2 =>
   if ((r2.2.2.2.2.2.1 == 0)) = true then
   (if ((decide (r2.2.1 < ((bl l).length : Int)))) = true then
   (Z99 (bl l) r2.2.1 r2.2.2.1 r2.2.2.2.2.1 r2.2.2.2.2.2.1 r2.2.2.2.2.2.2 r2.1.Kind r2.1.Lo r2.1.Hi r2.1.Mode r2.1.Ref r2.1.Set r2.1.Kids fold)
   else
   (Z4R (bl l) r2.2.2.1 r2.2.2.2.2.1 r2.2.2.2.2.2.1 r2.2.2.2.2.2.2 r2.1.Kind r2.1.Lo r2.1.Hi r2.1.Mode r2.1.Ref r2.1.Set r2.1.Kids fold))
   else
   (Z4R (bl l) r2.2.2.1 r2.2.2.2.2.1 r2.2.2.2.2.2.1 r2.2.2.2.2.2.2 r2.1.Kind r2.1.Lo r2.1.Hi r2.1.Mode r2.1.Ref r2.1.Set r2.1.Kids fold)) = some (pEnd fold (pAlt 32 s)) := by
 have ha := Zxs hl 32 0 (by omega) (by omega) s h
 rw [hg, hrf] at ha
 cases hp : pAlt 32 s with
 | bad c q =>
  rw [hp] at ha
  obtain ⟨hc, n, g', d', rf', hq, ha⟩ := ha
  rw [ha, Option.bind_some]
  dsimp only
  rw [if_neg (Z2n hc)]
  unfold Z4R pEnd
  exact ZqK (l := l) rf' (by omega) g' c q n.Kind n.Lo n.Hi n.Mode n.Ref n.Set n.Kids fold hc rf'.length 0 (by omega)
 | ok n s2 =>
  rw [hp] at ha
  obtain ⟨ha, hm⟩ := ha
  have hi := hm.inv h
  have hR := hi.rf
  rw [ha, Option.bind_some]
  dsimp only
  rw [if_pos (Z2k rfl), Zch]
  unfold Z99 Z4R pEnd
  by_cases hn : s2.us = []
  ·have hpos := hm.at_.nil.1 hn
   rw [if_neg (Z2q (by omega))]
   dsimp only
   rw [if_neg (ZrI hn)]
   have := ZFA (l := l) s2.rf (by omega) s2.gr n.Kind n.Lo n.Hi n.Mode n.Ref n.Set n.Kids fold s2.rf.length 0 (by omega)
   rw [List.drop_zero, show (⟨n.Kind, n.Lo, n.Hi, n.Mode, n.Ref, n.Set, n.Kids⟩ : Z7) = n by cases n; rfl] at this
   exact this
  ·have hpos : s2.pos < (l.length : Int) := by
    have h1 := hm.at_.len
    have : s2.pos ≠ l.length := fun e => hn (hm.at_.nil.2 e)
    omega
   rw [if_pos (Z2w hpos), Z6H, Option.bind_some]
   dsimp only
   rw [if_pos hn]
   exact ZqK (l := l) s2.rf (by omega) s2.gr 20 _ n.Kind n.Lo n.Hi n.Mode n.Ref n.Set n.Kids fold (by decide) s2.rf.length 0 (by omega)
theorem Zow (x : ByteArray) : Zej x = some (Z6x x) := by
 apply Zqk
 unfold Zee Z6x
 have hsz : x.size = x.data.toList.length := rfl
 by_cases h : 256 < x.data.toList.length
 ·rw [if_pos (Z2w (by rw [hsz]; omega)), if_pos h]
  rfl
 ·rw [if_neg (Z2q (by rw [hsz]; omega)), if_neg h]
  unfold Zbk Zwa
  rw [ZAv]
  generalize x.data.toList = l at h ⊢
  have hat : At l ⟨unis l, 0, 0, []⟩ := ⟨0, by omega, rfl, rfl⟩
  have hi : Inv l ⟨unis l, 0, 0, []⟩ := ⟨hat, by simp, by simp, by have := hat.len; simp only [] at this; simp; omega⟩
  cases hw : wd [40, 63, 105, 41] ⟨unis l, 0, 0, []⟩ with
  | none =>
   have := Z4r wFo hat (by omega) hw
   dsimp only at this
   rw [this, Option.bind_some]
   exact Zxx (by omega) false hi rfl rfl
  | some s1 =>
   obtain ⟨t1, t2, t3⟩ := Z2z wFo hat (by omega) hw
   dsimp only at t1
   rw [t1, Option.bind_some]
   exact Zxx (by omega) true ((t2.mv hi).inv hi) t2.gr t2.rf
end Go.Proofs.YteoeggbihfnbfaaGreatDoor.N2
end
