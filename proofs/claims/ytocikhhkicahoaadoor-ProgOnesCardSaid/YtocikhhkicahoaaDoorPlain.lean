/- The program's parser is the plain function. No condition. -/
import Derived.Test.YtocikhhkicahoaaDoorPlainA
import Derived.Test.YtocikhhkicahoaaDoorTypB
import Derived.Test.YtocikhhkicahoaaDoorTypC

set_option linter.unusedSimpArgs false
set_option linter.unusedVariables false
set_option linter.defProp false
section
namespace Go.Proofs.YtocikhhkicahoaaDoor.N2
open Go Go.Abs Go.Proofs.Unis Go.Proofs.Norm
set_option maxRecDepth 100000
theorem ZBS {a b : ByteArray} : seq a b = true ↔ a = b := by
 unfold seq
 rw [← beq_toListBytes]
 obtain ⟨⟨x⟩⟩ := a
 obtain ⟨⟨y⟩⟩ := b
 show ((⟨x⟩ : Array UInt8) == ⟨y⟩) = true ↔ _
 simp
theorem Z4i {α : Type} (l : List α) (i : Nat) : lget l (i : Int) = l[i]? := by simp [lget]
def bl (l : List UInt8) : List Int := l.map fun b => (b.toNat : Int)
theorem Zc2 (l : List UInt8) : (bl l).length = l.length := by simp [bl]
theorem ZyQ (x : ByteArray) : Z49 x = bl x.data.toList := rfl
theorem ZEA (l : List UInt8) : strI (bl l) = ⟨l.toArray⟩ := by
 unfold strI bl
 rw [ZlB]
 have : (fun n : Int => UInt8.ofNat n.toNat) ∘ (fun b : UInt8 => (b.toNat : Int)) = id := by
  funext b
  simp
 rw [this, List.map_id]
theorem ZBl (l : List UInt8) (i j : Nat) (h : i ≤ j) (hj : j ≤ l.length) : lsl (bl l) (i : Int) (j : Int) = some (bl ((l.drop i).take (j - i))) := by
 unfold lsl
 rw [if_pos (by rw [Zc2]; omega)]
 simp only [Int.toNat_natCast, bl, ← ZyC, ← List.map_drop, List.drop_take]
theorem Zx9 (l : List UInt8) (h : l ≠ []) : Z95 (bl l) = some (((Lib.decodeGo ⟨l.toArray⟩).1 : Int), ((Lib.decodeGo ⟨l.toArray⟩).2 : Int)) := by
 refine Z1i (fun _ _ ha hb => RRun.uniq Zgo (ha .sh) (hb .sh)) fun o => ?_
 have e : EE 76 [(.p (.lst o ((bl l).map (eI .u8))))] [] = some ((.p (.tup [(.v (.int .i32 (Lib.decodeGo ⟨l.toArray⟩).1)), (.v (.int .i64 (Lib.decodeGo ⟨l.toArray⟩).2))])), []) := by
  rw [show EE 76 = E PP XX HH 76 from rfl, Zso (P := PP) (X := XX) (H := HH) (f := 76) (m := ZnP) (by kernel_rfl)]
  have hb : (bl l).map (eI .u8) = l.map fun b => .v (.int .u8 b.toNat) := by
   unfold bl
   rw [ZlB]
   rfl
  rw [hb]
  cases l with
  | nil => exact absurd rfl h
  | cons a r =>
   show (Zgp ((a :: r).map fun b => .v (.int .u8 b.toNat))).map _ = _
   rw [Zp8]
   rfl
 exact ⟨_, e, [], by simp⟩
theorem Zvd (l : List UInt8) (i : Nat) (h : i < l.length) : ZdF (bl l) (i : Int) = some ((U (l.drop i)).1, ((U (l.drop i)).2 : Int)) := by
 have hne : l.drop i ≠ [] := by
  intro e
  have := congrArg List.length e
  simp at this
  omega
 apply ZrI
 unfold Zgh
 rw [if_neg (by simp), if_neg (by simp [Zc2]; omega)]
 unfold ZcL
 have hl : lsl (bl l) (i : Int) ((bl l).length : Int) = some (bl (l.drop i)) := by
  rw [Zc2, ZBl l i l.length (by omega) (Z2H _), Zvq (by simp)]
 rw [hl, ZV, Zx9 _ hne, ZV]
 have hd := ZEL hne
 have hU : U (l.drop i) = ZbD (nth (l.drop i) 0) (Lib.decodeGo ⟨(l.drop i).toArray⟩) := by
  rw [hd]; rfl
 have h0 : nth (l.drop i) 0 = (l.getD i 0).toNat := by simp [nth]
 have hg : lget (bl l) (i : Int) = some (((l.getD i 0).toNat : Nat) : Int) := by
  rw [Z4i, bl, q8_, Z9w, q4_ h]
  rfl
 have hlt : (l.getD i 0).toNat < 256 := UInt8.toNat_lt _
 have hb := (Zsl ⟨(l.drop i).toArray⟩).1
 rw [hU, ZbD]
 simp only [beq_iff_eq]
 have r6 : Z9d ((Lib.decodeGo ⟨(l.drop i).toArray⟩).1 : Int) ((Lib.decodeGo ⟨(l.drop i).toArray⟩).2 : Int) = some (((Lib.decodeGo ⟨(l.drop i).toArray⟩).1 : Int), ((Lib.decodeGo ⟨(l.drop i).toArray⟩).2 : Int)) := by
  unfold Z9d
  rw [wrap_i64 (by omega) (by omega)]
 by_cases h1 : (Lib.decodeGo ⟨(l.drop i).toArray⟩).1 = 65533
 ·rw [if_pos (by omega)]
  by_cases h2 : (Lib.decodeGo ⟨(l.drop i).toArray⟩).2 = 1
  ·rw [if_pos (by omega), if_pos ⟨h1, h2⟩]
   unfold ZcM
   rw [hg, ZV, wrap_i64 (n := ((l.getD i 0).toNat : Int)) (by omega) (by omega), wrap_i64 (by omega) (by omega), h0]
   rfl
  ·rw [if_neg (by omega), if_neg (fun h => h2 h.2), r6]
 ·rw [if_neg (by omega), if_neg (fun h => h1 h.1), r6]
def At (l : List UInt8) (s : St) : Prop := ∃ i : Nat, i ≤ l.length ∧ s.pos = (i : Int) ∧ s.us = unis (l.drop i)
theorem At.nil {l : List UInt8} {s : St} (h : At l s) : s.us = [] ↔ s.pos = l.length := by
 obtain ⟨i, h1, h2, h3⟩ := h
 rw [h3, h2]
 constructor
 ·intro e
  by_cases hn : l.drop i = []
  ·have := congrArg List.length hn
   simp at this
   omega
  ·rw [Zh8 hn] at e
   simp at e
 ·intro e
  rw [Zeb (by omega)]
  rfl
theorem At.len {l : List UInt8} {s : St} (h : At l s) : s.us.length ≤ l.length ∧ 0 ≤ s.pos ∧ s.pos ≤ l.length := by
 obtain ⟨i, h1, h2, h3⟩ := h
 have := ZvQ _ (l.drop i) (Z2H _)
 rw [Zn5] at this
 rw [h3]
 omega
theorem At.cons {l : List UInt8} {s : St} (h : At l s) (hn : s.us ≠ []) : ∃ (i : Nat), i < l.length ∧ s.pos = (i : Int) ∧ peek s.us = (U (l.drop i)).1 ∧ (take s).pos = (i : Int) + ((U (l.drop i)).2 : Int) ∧ (take s).us = unis (l.drop (i + (U (l.drop i)).2)) ∧ i + (U (l.drop i)).2 ≤ l.length ∧ s.us.length = (take s).us.length + 1 := by
 have hp : s.pos ≠ l.length := fun e => hn (h.nil.2 e)
 obtain ⟨i, h1, h2, h3⟩ := h
 have hi : i < l.length := by omega
 have hne : l.drop i ≠ [] := by
  intro e
  have := congrArg List.length e
  simp at this
  omega
 have hz := ZEK hne
 rw [Zn5] at hz
 rw [Zh8 hne] at h3
 refine ⟨i, hi, h2, by rw [h3]; rfl, ?_, ?_, by omega, ?_⟩
 ·unfold take
  rw [h3]
  show s.pos + _ = _
  rw [h2]
 ·unfold take
  rw [h3]
  show unis _ = _
  rw [ZD0]
 ·unfold take
  rw [h3]
  rfl
theorem At.take {l : List UInt8} {s : St} (h : At l s) : At l (take s) := by
 by_cases hn : s.us = []
 ·have : N2.take s = s := by unfold N2.take; rw [hn]
  rw [this]
  exact h
 ·obtain ⟨i, h1, h2, h3, h4, h5, h6, h7⟩ := h.cons hn
  exact ⟨i + (U (l.drop i)).2, h6, by rw [h4]; omega, h5⟩
theorem At.range {l : List UInt8} {s : St} (h : At l s) : peek s.us = -1 ∧ s.us = [] ∨ 0 ≤ peek s.us ∧ peek s.us ≤ 1114367 ∧ s.us ≠ [] := by
 by_cases hn : s.us = []
 ·exact .inl ⟨by rw [hn]; rfl, hn⟩
 ·obtain ⟨i, _, _, h3, _⟩ := h.cons hn
  have := ZDR (l.drop i)
  exact .inr ⟨by omega, by omega, hn⟩
theorem Z9v {l : List UInt8} {s : St} (h : At l s) (g d : Int) (rf : List Zz) (f : Z14) : Z2G ⟨bl l, s.pos, g, d, rf, f⟩ = some (peek s.us) := by
 apply ZjG
 unfold Z9D
 by_cases hn : s.us = []
 ·have := h.nil.1 hn
  rw [if_pos (by simp [Zc2]; omega), hn]
  rfl
 ·obtain ⟨i, h1, h2, h3, _⟩ := h.cons hn
  rw [if_neg (by simp [Zc2]; omega)]
  unfold Z8a
  simp only [h2]
  rw [Zvd l i h1, ZV, h3]
theorem Zcx {l : List UInt8} {s : St} (h : At l s) (hl : l.length ≤ 100000) (hn : s.us ≠ []) : Z3k (bl l) s.pos = some (peek s.us, (take s).pos) := by
 obtain ⟨i, h1, h2, h3, h4, h5, h6, _⟩ := h.cons hn
 apply ZjH
 unfold Z9E
 rw [h2, Zvd l i h1, ZV, h3, h4, wrap_i64 (by omega) (by omega)]
theorem ZwB : ∀ (w : List Int) (us t : List Un), isW w us = some t → us.length = t.length + w.length
 | [], us, t, h => by
  simp only [isW, q1_] at h
  subst h
  rfl
 | c :: w, [], t, h => by simp [isW] at h
 | c :: w, (u, n) :: us, t, h => by
  simp only [isW] at h
  split at h
  ·have := ZwB w us t h
   simp only [q5_]
   omega
  ·simp at h
theorem Zs3 : ∀ (w : List UInt8) (l : List UInt8), (∀ c ∈ w, c.toNat < 128) → isW (bl w) (unis l) = if l.take w.length = w then some (unis (l.drop w.length)) else none
 | [], l, _ => by simp [bl, isW]
 | c :: w, [], _ => by simp [bl, isW, ZlK]
 | c :: w, x :: l, hw => by
  have hc := hw c (Zcu ..)
  have hc' : c.toNat < 128 := hc
  show (isW ((c.toNat : Int) :: bl w) (unis (x :: l))) = _
  by_cases hx : x.toNat < 128
  ·rw [Z9a hx]
   simp only [isW, q5_, ZH9, List.drop_succ_cons, Zly]
   by_cases he : x = c
   ·subst he
    simp only [if_true, true_and]
    exact Zs3 w l fun d hd => hw d (Zdn _ hd)
   ·have : ¬ ((x.toNat : Int) = (c.toNat : Int)) := fun e => he (UInt8.toNat_inj.1 (by omega))
    rw [if_neg this, if_neg (fun e => he e.1)]
  ·have hU := ZEJ (c := x) (l := l) (by omega)
   rw [Zh8 (by simp)]
   simp only [isW, q5_, ZH9, Zly]
   rw [if_neg (by omega), if_neg (fun e => by rw [e.1] at hx; omega)]
theorem ZvS {l : List UInt8} {s : St} (h : At l s) (hl : l.length ≤ 100000) (w : List UInt8) (hw : ∀ c ∈ w, c.toNat < 128) (hwl : w.length ≤ 100) :
  Z1H ⟨w.toArray⟩ (bl l) s.pos = some (match wd (bl w) s with | some s1 => (true, s1.pos) | none => (false, s.pos)) ∧ ∀ s1, wd (bl w) s = some s1 → At l s1 ∧ s.us.length = s1.us.length + w.length ∧ s1.gr = s.gr ∧ s1.rf = s.rf := by
 obtain ⟨i, h1, h2, h3⟩ := h
 have hW := Zs3 w (l.drop i) hw
 have hsz : (⟨w.toArray⟩ : ByteArray).size = w.length := by show w.toArray.size = _; simp
 have hwd : wd (bl w) s = if (l.drop i).take w.length = w then some { s with us := unis ((l.drop i).drop w.length), pos := s.pos + w.length } else none := by
  unfold wd
  rw [h3, hW]
  by_cases hc : (l.drop i).take w.length = w
  ·rw [if_pos hc, if_pos hc]
   simp only [Zc2]
  ·rw [if_neg hc, if_neg hc]
 have hlen : (l.drop i).take w.length = w → i + w.length ≤ l.length := by
  intro e
  have := congrArg List.length e
  simp at this
  omega
 constructor
 ·apply ZjI
  unfold Z9F
  rw [hwd, h2, Zc2, hsz, wrap_i64 (n := (l.length : Int) - i) (by omega) (by omega), wrap_i64 (n := (i : Int) + (w.length : Int)) (by omega) (by omega)]
  by_cases hk : i + w.length ≤ l.length
  ·rw [if_neg (by simp; omega), show (i : Int) + (w.length : Int) = ((i + w.length : Nat) : Int) by omega, ZBl l i _ (by omega) hk, ZV, ZEA, Nat.add_sub_cancel_left]
   by_cases hc : (l.drop i).take w.length = w
   ·rw [if_pos hc, hc, if_neg (by simp [ZBS])]
    unfold Z8c
    rw [hsz, wrap_i64 (by omega) (by omega)]
    simp
   ·have hs : seq ⟨((l.drop i).take w.length).toArray⟩ ⟨w.toArray⟩ = false := by
     cases hq : seq ⟨((l.drop i).take w.length).toArray⟩ ⟨w.toArray⟩ with
     | false => rfl
     | true =>
      have := ZBS.1 hq
      exact absurd (by simpa using congrArg (fun x : ByteArray => x.data.toList) this) hc
    rw [if_neg hc, hs, if_pos (by rfl)]
    rfl
  ·rw [if_pos (by simp; omega), if_neg (fun e => hk (hlen e))]
   rfl
 ·intro s1 e
  rw [hwd] at e
  split at e
  ·rename_i hc
   cases e
   have hk := hlen hc
   rw [if_pos hc] at hW
   have := ZwB _ _ _ hW
   rw [Zc2] at this
   exact ⟨⟨i + w.length, hk, by simp only [h2]; omega, by simp only [ZD0]⟩, by rw [h3]; exact this, rfl, rfl⟩
  ·simp at e
theorem Z7r (c p : Int) (l : List UInt8) : Z1c c p (bl l) 0 0 = some ((l.length : Int), c, p) := by
 apply ZdA
 unfold Z7T
 rw [if_pos (by rfl)]
 unfold Z59
 rw [Zc2]
theorem ZrY (c p c0 p0 : Int) (l : List UInt8) (h : c0 ≠ 0) : Z1c c p (bl l) c0 p0 = some ((l.length : Int), c0, p0) := by
 apply ZdA
 unfold Z7T
 rw [if_neg (by simpa using h)]
 unfold Z59
 rw [Zc2]
theorem Z84 (u : Int) : Z2w u = some ⟨u, u⟩ := ZrE _ rfl
theorem ZhX (k : Int) (l : List Zk) : ZaR k l = some (joined k l) := by
 apply ZnV
 unfold ZcG
 match l with
 | [] => rfl
 | [x] => rfl
 | x :: y :: r =>
  rw [if_neg (by simp; omega), if_neg (by simp; omega)]
  rfl
end Go.Proofs.YtocikhhkicahoaaDoor.N2
end
section
namespace Go.Proofs.Norm
def AscF (a : Int) : List R2 → Prop
 | [] => True
 | r :: t => (0 ≤ r.1 ∧ r.1 ≤ r.2 ∧ r.2 ≤ 1114367) ∧ a + 2 ≤ r.1 ∧ AscF r.2 t
def ZmP (a : Int) : List R2 → Int
 | [] => a
 | r :: t => ZmP r.2 t
theorem Zlh (a : Int) : ∀ (l : List R2) (r : R2), ZmP a (l ++ [r]) = r.2
 | [], r => rfl
 | x :: l, r => Zlh x.2 l r
theorem Zol : ∀ (l : List R2) (a : Int) (r : R2), AscF a (l ++ [r]) ↔ AscF a l ∧ (0 ≤ r.1 ∧ r.1 ≤ r.2 ∧ r.2 ≤ 1114367) ∧ ZmP a l + 2 ≤ r.1
 | [], a, r => by simp [AscF, ZmP]
 | x :: l, a, r => by
  simp only [Zb1, AscF, ZmP, Zol l x.2 r]
  constructor
  ·rintro ⟨h1, h2, h3, h4⟩; exact ⟨⟨h1, h2, h3⟩, h4⟩
  ·rintro ⟨⟨h1, h2, h3⟩, h4⟩; exact ⟨h1, h2, h3, h4⟩
theorem Desc.asc : ∀ {l : List R2}, Desc l → AscF (-2) l.reverse
 | [], _ => trivial
 | [r], h => by
  have h : 0 ≤ r.1 ∧ r.1 ≤ r.2 ∧ r.2 ≤ 1114367 := h
  exact ⟨h, by omega, trivial⟩
 | r :: o :: os, h => by
  rw [Zn7, Zol]
  refine ⟨h.2.2.asc, h.1, ?_⟩
  rw [Zn7, Zlh]
  exact h.2.1
theorem AscF.norm : ∀ {l : List R2}, AscF (-2) l.reverse → Desc l
 | [], _ => trivial
 | [r], h => h.1
 | r :: o :: os, h => by
  rw [Zn7, Zol] at h
  refine ⟨h.2.1, ?_, h.1.norm⟩
  have := h.2.2
  rw [Zn7, Zlh] at this
  exact this
theorem Z8g {l : List R2} : Z2x l ↔ AscF (-2) l := by
 unfold Z2x
 constructor
 ·intro h
  have := h.asc
  rwa [List.reverse_reverse] at this
 ·intro h
  apply AscF.norm
  rwa [List.reverse_reverse]
theorem AscF.mono : ∀ {l : List R2} {a a' : Int}, AscF a l → a' ≤ a → AscF a' l
 | [], _, _, _, _ => trivial
 | r :: t, a, a', h, hl => ⟨h.1, by have := h.2.1; omega, h.2.2⟩
theorem AscF.right : ∀ {l : List R2} {a : Int}, AscF a l → ∀ r ∈ l, 0 ≤ r.1 ∧ r.1 ≤ r.2 ∧ r.2 ≤ 1114367
 | [], _, _, r, hr => by simp at hr
 | x :: t, a, h, r, hr => by
  rcases Z6c.1 hr with rfl | hr
  ·exact h.1
  ·exact h.2.2.right r hr
theorem AscF.len : ∀ {l : List R2} {a : Int}, AscF a l → l ≠ [] → a + 2 * (l.length : Int) ≤ 1114367
 | [], _, _, hn => absurd rfl hn
 | [r], a, h, _ => by
  have := h.1
  have := h.2.1
  simp only [q5_, q7_]
  omega
 | r :: o :: t, a, h, _ => by
  have := h.1
  have := h.2.1
  have := h.2.2.len (by simp)
  simp only [q5_] at *
  omega
theorem Zd3 {l : List R2} (h : Z2x l) : l.length ≤ 557185 := by
 by_cases hn : l = []
 ·subst hn; simp
 ·have := (Z8g.1 h).len hn
  omega
theorem Z5U {l : List R2} (h : Z2x l) : ∀ r ∈ l, 0 ≤ r.1 ∧ r.1 ≤ r.2 ∧ r.2 ≤ 1114367 := (Z8g.1 h).right
end Go.Proofs.Norm
namespace Go.Proofs.YtocikhhkicahoaaDoor.N2
open Go Go.Abs Go.Proofs.Unis Go.Proofs.Norm
set_option maxRecDepth 100000
theorem ZoL : ∀ (l : List R2) (at_ a : Int), 0 ≤ at_ → a + 2 ≤ at_ → AscF (at_ - 2) l → AscF a (notL at_ l)
 | [], at_, a, h0, ha, _ => by
  unfold notL
  split
  ·exact ⟨⟨h0, by assumption, by simp⟩, ha, trivial⟩
  ·trivial
 | r :: t, at_, a, h0, ha, h => by
  have h1 := h.1
  have h2 := h.2.1
  unfold notL
  split
  ·exact ⟨⟨h0, by simp only []; omega, by simp only []; omega⟩, ha, ZoL t _ _ (by omega) (by simp only []; omega) (h.2.2.mono (by omega))⟩
  ·exact ZoL t _ _ (by omega) (by omega) (h.2.2.mono (by omega))
theorem Zoe {l : List R2} (h : Z2x l) : Z2x (notF l) :=
 Z8g.2 (ZoL l 0 (-2) (by omega) (by omega) (Z8g.1 h))
theorem Zna (r : R2) : Z7U (ofR r) = some (decide (0 ≤ r.1 ∧ r.1 ≤ r.2 ∧ r.2 ≤ 1114367)) := by
 apply Zjw
 unfold Z9y
 simp only [ofR]
 by_cases h1 : 0 ≤ r.1
 ·by_cases h2 : r.1 ≤ r.2
  ·simp [h1, h2]
   exact decide_eq_decide.2 Iff.rfl
  ·simp [h1, h2]
 ·simp [h1]
theorem Zkx (rs : List R2) : (rs.map ofR).map Zv = rs.map encR := by
 rw [ZlB]
 rfl
theorem Zgn : ∀ rs : List R2, Zd4 (rs.map encR) = some rs
 | [] => rfl
 | r :: t => by
  rw [Z9x, Zd4, Zgn t]
  rfl
theorem Zi0 (rs : List R2) (hl : rs.length ≤ 1048576) (hr : ∀ r ∈ rs, 0 ≤ r.1 ∧ r.1 ≤ r.2 ∧ r.2 ≤ 1114367) : ZaO (rs.map ofR) = some ((Z5v rs).map ofR) := by
 refine Z1i (fun _ _ ha hb => RRun.uniq Zb9 (ha .sh) (hb .sh)) fun o => ?_
 have e : EE 25 [(.p (.lst o ((rs.map ofR).map Zv)))] [] = some ((.p (.lst .sh (((Z5v rs).map ofR).map Zv))), []) := by
  rw [show EE 25 = E PP XX HH 25 from rfl, Zso (P := PP) (X := XX) (H := HH) (f := 25) (m := ZkN) (by kernel_rfl), Zkx, Zkx]
  unfold ZkN
  simp only [Zgn]
  rw [if_pos ⟨hl, hr⟩]
 exact ⟨_, e, [], by simp⟩
theorem Zpb (a b : List R2) (hl : a.length + b.length ≤ 1048576) : ZaZ [a.map ofR, b.map ofR] = some ((a ++ b).map ofR) := by
 refine Z1i (fun _ _ ha hb => RRun.uniq Zb9 (ha .sh) (hb .sh)) fun o => ?_
 have e : EE 57 [(.p (.lst o ([a.map ofR, b.map ofR].map (eL Zv))))] [] = some ((.p (.lst .sh (((a ++ b).map ofR).map Zv))), []) := by
  rw [show EE 57 = E PP XX HH 57 from rfl, Zso (P := PP) (X := XX) (H := HH) (f := 57) (m := ZkM) (by kernel_rfl), Zkx]
  have h1 : [a.map ofR, b.map ofR].map (eL Zv) = [.lst .sh (a.map encR), .lst .sh (b.map encR)] := by
   simp only [Z9x, Zfc, eL, Zkx]
  rw [h1]
  unfold ZkM
  simp only [Zkw, Zgn, Z8K, List.flatten_cons, List.flatten_nil, ZiN]
  rw [if_pos ⟨by simp, by rw [q3_]; exact hl⟩]
 exact ⟨_, e, [], by simp⟩
theorem ZkB {rs : List R2} {i : Nat} (h : i < rs.length) : lget (rs.map ofR) (i : Int) = some (ofR rs[i]) := by
 rw [Z4i, q8_, q4_ h]
 rfl
theorem Zsm (L : List R2) (hl : L.length ≤ 1000000) : ∀ (d i : Nat) (a : Int), i + d = L.length → -2 ≤ a → a ≤ 1114367 → AscF a (L.drop i) → Z5A a (L.map ofR) (L.length : Int) (i : Int) = some true := by
 intro d
 induction d with
 | zero =>
  intro i a h _ _ _
  apply Z7t
  unfold Z4q
  rw [if_neg (by simp; omega)]
  rfl
 | succ d ih =>
  intro i a h ha ha2 hA
  have hi : i < L.length := by omega
  rw [Zfa hi] at hA
  have h1 := hA.1
  have h2 := hA.2.1
  apply Z7t
  unfold Z4q Z6F
  rw [if_pos (by simp; omega), ZkB hi, ZV, Zna, ZV, if_neg (by simp; omega), wrap_i64 (n := a + 2) (by omega) (by omega), if_neg (by rw [decide_eq_true_eq]; show ¬ (L[i].1 < a + 2); omega)]
  unfold Z6H Z6I
  rw [wrap_i64 (by omega) (by omega)]
  exact ih (i + 1) _ (by omega) (by simp only [ofR]; omega) (by simp only [ofR]; omega) hA.2.2
theorem Zb0 {L : List R2} (h : Z2x L) : Z4c (L.map ofR) = some true := by
 apply Zej
 unfold Z8i
 rw [Z8t]
 have := Zd3 h
 exact Zsm L (by omega) L.length 0 (-2) (by omega) (by omega) (by omega) (Z8g.1 h)
theorem ZCK (L : List R2) (hl : L.length ≤ 1000000) (hr : ∀ r ∈ L, 0 ≤ r.1 ∧ r.1 ≤ r.2 ∧ r.2 ≤ 1114367) : ∀ (d i : Nat) (acc : List R2) (a : Int), i + d = L.length → acc.length ≤ i → 0 ≤ a → a ≤ 1114368 → Z8o (acc.map ofR) a (L.map ofR) (L.length : Int) (i : Int) = some ((acc ++ notL a (L.drop i)).map ofR) := by
 intro d
 induction d with
 | zero =>
  intro i acc a h hacc ha ha2
  rw [Zeb (by omega)]
  apply Zel
  unfold Z8j
  rw [if_neg (by simp; omega)]
  unfold Z9C notL
  by_cases hc : a ≤ 1114367
  ·rw [if_pos (by simpa using hc), if_pos hc]
   unfold lapp
   rw [if_pos (by simp [lim]; omega)]
   unfold Z6s
   simp [ofR]
  ·rw [if_neg (by simpa using hc), if_neg hc]
   unfold Z6s
   simp
 | succ d ih =>
  intro i acc a h hacc ha ha2
  have hi : i < L.length := by omega
  have h1 := hr L[i] (Zlz hi)
  rw [Zfa hi]
  apply Zel
  unfold Z8j Za0
  rw [if_pos (by simp; omega), ZkB hi, ZV]
  unfold notL
  have r8 : ∀ acc' : List R2, acc'.length ≤ i + 1 → Z6J (acc'.map ofR) (L.map ofR) (L.length : Int) (i : Int) (ofR L[i]) = some ((acc' ++ notL (L[i].2 + 1) (L.drop (i + 1))).map ofR) := by
   intro acc' hacc'
   unfold Z6J Za1
   rw [show (ofR L[i]).Hi = L[i].2 from rfl, wrap_i64 (n := L[i].2 + 1) (by omega) (by omega), wrap_i64 (n := (i : Int) + 1) (by omega) (by omega)]
   exact ih (i + 1) acc' _ (by omega) hacc' (by omega) (by omega)
  by_cases hc : a < L[i].1
  ·rw [if_pos (decide_eq_true (show a < (ofR L[i]).Lo from hc)), if_pos hc]
   unfold lapp
   rw [if_pos (by simp [lim]; omega), ZV, show (ofR L[i]).Lo = L[i].1 from rfl, wrap_i64 (n := L[i].1 - 1) (by omega) (by omega)]
   have := r8 (acc ++ [(a, L[i].1 - 1)]) (by simp; omega)
   rw [ZiL] at this
   rw [show List.map ofR [(a, L[i].1 - 1)] = [Z8.mk a (L[i].1 - 1)] from rfl] at this
   rw [this, Z8s]
   rfl
  ·rw [if_neg (by rw [decide_eq_true_eq]; exact hc), if_neg hc]
   exact r8 acc (by omega)
theorem ZrM {L : List R2} (h : Z2x L) : Z8C (L.map ofR) = some ((notF L).map ofR, 0) := by
 apply ZmA
 unfold ZbH
 rw [Zb0 h, ZV, if_neg (by simp)]
 unfold Z9Z
 have : ZbP (L.map ofR) = some ((notF L).map ofR) := by
  apply ZmC
  unfold ZbI
  rw [Z8t]
  have := Zd3 h
  have := ZCK L (by omega) (Z5U h) L.length 0 [] 0 (by omega) (by simp) (by omega) (by omega)
  simpa [notF] using this
 rw [this]
 rfl
theorem ZyI (L : List R2) (hl : L.length ≤ 1000000) (hr : ∀ r ∈ L, 0 ≤ r.1 ∧ r.1 ≤ r.2 ∧ r.2 ≤ 1114367) : ∀ (d i : Nat), i + d = L.length → Z42 (L.map ofR) (L.length : Int) (i : Int) = some (-1) := by
 intro d
 induction d with
 | zero =>
  intro i h
  apply Z8V
  unfold Z40
  rw [if_neg (by simp; omega)]
  rfl
 | succ d ih =>
  intro i h
  have hi : i < L.length := by omega
  have h1 := hr L[i] (Zlz hi)
  apply Z8V
  unfold Z40 Z55
  have hm : ZcO (ofR L[i]) = some false := by
   apply ZnS
   unfold ZcD
   rw [Zna]
   simp [h1]
  rw [if_pos (by simp; omega), ZkB hi, ZV, hm, ZV, if_neg (by simp)]
  unfold Z56
  rw [wrap_i64 (by omega) (by omega)]
  exact ih (i + 1) (by omega)
theorem ZCI {L : List R2} (hl : L.length ≤ 1000000) (hr : ∀ r ∈ L, 0 ≤ r.1 ∧ r.1 ≤ r.2 ∧ r.2 ≤ 1114367) : ZeR (L.map ofR) = some ((Z5v L).map ofR, 0) := by
 have h1 : Z6a (L.map ofR) = some (-1) := by
  apply ZeK
  unfold Z64
  rw [Z8t]
  exact ZyI L hl hr L.length 0 (by omega)
 have h2 : Z58 (L.map ofR) = some false := by
  apply Zdh
  unfold Z53
  rw [h1]
  rfl
 apply Zqi
 unfold ZeM
 rw [h2, ZV, if_neg (by simp)]
 unfold ZbF
 rw [Zi0 L (by omega) hr]
 rfl
theorem Zig (no : Bool) {L : List R2} (hl : L.length ≤ 1000000) (hr : ∀ r ∈ L, 0 ≤ r.1 ∧ r.1 ≤ r.2 ∧ r.2 ≤ 1114367) : Z3Y no (L.map ofR) = some (setN (setR no L)) := by
 apply ZrF
 unfold Zgf
 rw [ZCI hl hr, ZV]
 cases no with
 | false => rfl
 | true =>
  rw [if_pos rfl, ZrM (Zf7 hr).1]
  rfl
theorem Zwo (no : Bool) {L : List R2} (hr : ∀ r ∈ L, 0 ≤ r.1 ∧ r.1 ≤ r.2 ∧ r.2 ≤ 1114367) : Z2x (setR no L) := by
 unfold setR
 split
 ·exact Zoe (Zf7 hr).1
 ·exact (Zf7 hr).1
theorem ZqI {r : R2} (h : 0 ≤ r.1 ∧ r.1 ≤ r.2 ∧ r.2 ≤ 1114367) : Z2x [r] := Z8g.2 ⟨h, by omega, trivial⟩
theorem ZBJ {a s : List R2} (ha : Z2x a) (hs : Z2x s) (hl : s.length ≤ 100000) : Z6v (s.map ofR) (a.map ofR) = some ((Z5v (a ++ s)).map ofR) := by
 have hla := Zd3 ha
 have hr : ∀ r ∈ a ++ s, 0 ≤ r.1 ∧ r.1 ≤ r.2 ∧ r.2 ≤ 1114367 := by
  intro r h
  rcases Zbs.1 h with h | h
  ·exact Z5U ha r h
  ·exact Z5U hs r h
 have h1 : Z9e (a.map ofR) (s.map ofR) = some ((Z5v (a ++ s)).map ofR, 0) := by
  apply Zhs
  unfold ZaJ
  rw [Zb0 ha, ZV, if_neg (by simp), Zb0 hs, ZV, if_neg (by simp)]
  unfold Z8L
  rw [Zpb a s (by omega), ZV, Zi0 _ (by rw [q3_]; omega) hr]
  rfl
 apply ZhM
 unfold Z89
 rw [h1]
 rfl
theorem fold_len : ∀ (l acc : List R2), (l.foldl Z2M acc).length ≤ acc.length + l.length
 | [], acc => by simp
 | r :: t, acc => by
  have h1 := fold_len t (Z2M acc r)
  have h2 : (Z2M acc r).length ≤ acc.length + 1 := by
   unfold Z2M
   split
   ·split
    ·simp
    ·simp
   ·simp
  rw [Zfb, q5_]
  omega
theorem ZBr (l : List R2) : (Z5v l).length ≤ l.length := by
 have h1 := fold_len (Zbp l) []
 have h2 := (Z96 l).length_eq
 unfold Z5v
 rw [List.length_reverse]
 simp only [q7_] at h1
 omega
theorem ZoM : ∀ (l : List R2) (a : Int), (notL a l).length ≤ l.length + 1
 | [], a => by
  unfold notL
  split
  ·simp
  ·simp
 | r :: t, a => by
  have := ZoM t (r.2 + 1)
  unfold notL
  split
  ·simp only [q5_]; omega
  ·simp only [q5_]; omega
theorem ZD5 (no : Bool) (l : List R2) : (setR no l).length ≤ l.length + 1 := by
 have h1 := ZBr l
 have h2 := ZoM (Z5v l) 0
 unfold setR notF
 split
 ·omega
 ·omega
theorem Zsb {a s : List R2} (ha : Z2x a) (hs : Z2x s) : Z2x (Z5v (a ++ s)) :=
 (Zf7 (by
  intro r h
  rcases Zbs.1 h with h | h
  ·exact Z5U ha r h
  ·exact Z5U hs r h)).1
end Go.Proofs.YtocikhhkicahoaaDoor.N2
end
section
namespace Go.Proofs.YtocikhhkicahoaaDoor.N2
open Go Go.Abs Go.Proofs.Unis Go.Proofs.Norm
set_option maxRecDepth 100000
theorem Z2i {a b : Int} (h : a = b) : (a == b) = true := by simpa using h
theorem Z2b {a b : Int} (h : ¬ a = b) : ¬ ((a == b) = true) := by simpa using h
theorem Zwq {a b : Int} (h : ¬ a = b) : (a != b) = true := by simpa using h
theorem Zwp {a b : Int} (h : a = b) : ¬ ((a != b) = true) := by simpa using h
theorem Z2f {c : Prop} [Decidable c] (h : c) : decide c = true := decide_eq_true h
theorem Z21 {c : Prop} [Decidable c] (h : ¬ c) : ¬ (decide c = true) := by simpa using h
theorem ZqF {α : Type} {a b : α} (h : a = b) : ¬ (a ≠ b) := fun k => k h
structure Nx (l : List UInt8) (s s' : St) : Prop where
 at_ : At l s'
 len : s'.us.length ≤ s.us.length
 gr : s'.gr = s.gr
 rf : s'.rf = s.rf
theorem Nx.trans {l : List UInt8} {s s' s'' : St} (h : Nx l s s') (h' : Nx l s' s'') : Nx l s s'' :=
 ⟨h'.at_, Zho h'.len h.len, h'.gr.trans h.gr, h'.rf.trans h.rf⟩
theorem Z9g {l : List UInt8} {s : St} (h : At l s) : Nx l s (take s) := by
 refine ⟨h.take, ?_, ?_, ?_⟩
 all_goals unfold take; split
 ·exact Z2H _
 ·rename_i h1
  rw [h1]
  simp
 all_goals rfl
theorem ZnN {l : List UInt8} {s : St} (h : At l s) (hn : s.us ≠ []) : s.us.length = (take s).us.length + 1 := by
 obtain ⟨_, _, _, _, _, _, _, h7⟩ := h.cons hn
 exact h7
theorem Zni (u : Int) : Z7G u = some (if short u = [] then .nl else .ex, (short u).map ofR) := by
 apply Zl7
 by_cases h1 : u = 100
 ·subst h1; simp [Z3X, short, ofR, Z84]
 by_cases h2 : u = 68
 ·subst h2; simp [Z3X, short, ofR, Z84]
 by_cases h3 : u = 119
 ·subst h3; simp [Z3X, short, ofR, Z84]
 by_cases h4 : u = 87
 ·subst h4; simp [Z3X, short, ofR, Z84]
 by_cases h5 : u = 115
 ·subst h5; simp [Z3X, short, ofR, Z84]
 by_cases h6 : u = 83
 ·subst h6; simp [Z3X, short, ofR, Z84]
 simp [Z3X, Z2Y, short, h1, h2, h3, h4, h5, h6]
theorem Zoj (u : Int) : (short u).length ≤ 1000 ∧ ∀ r ∈ short u, 0 ≤ r.1 ∧ r.1 ≤ r.2 ∧ r.2 ≤ 1114367 := by
 unfold short
 repeat' split
 all_goals simp
theorem ZwA (u : Int) (h1 : -1 ≤ u) (h2 : u ≤ 1114367) : Zdz u = some (hexF u) := by
 apply ZrD
 unfold Zge ZcE ZaK ZcF ZaL hexF
 rw [wrap_i64 (n := u - 48) (by omega) (by omega), wrap_i64 (n := u - 97) (by omega) (by omega), wrap_i64 (n := u - 97 + 10) (by omega) (by omega)]
 by_cases a : 48 ≤ u
 ·by_cases b : u ≤ 57
  ·simp [a, b]
  ·by_cases c : 97 ≤ u
   ·by_cases d : u ≤ 102
    ·simp [a, b, c, d]
    ·simp [a, b, c, d]
   ·simp [a, b, c]
 ·have c : ¬ 97 ≤ u := by omega
  simp [a, c]
theorem ZhW (u : Int) : -1 ≤ hexF u ∧ hexF u ≤ 15 := by
 unfold hexF
 repeat' split
 all_goals omega
theorem ZCy (L : List Z8) (u : Int) (hl : L.length ≤ 1000000) : ∀ (d i : Nat), i + d = L.length →
  ∃ k : Int, Z41 L (L.length : Int) (i : Int) u = some k ∧ (0 ≤ k ↔ (L.drop i).any (fun r => decide (r.Lo ≤ u) && decide (u ≤ r.Hi)) = true) := by
 intro d
 induction d with
 | zero =>
  intro i h
  refine ⟨-1, ?_, ?_⟩
  ·apply Z6h
   unfold Z3t
   rw [if_neg (by simp; omega)]
   rfl
  ·rw [Zeb (by omega)]
   simp
 | succ d ih =>
  intro i h
  have hi : i < L.length := by omega
  have hm : ZaD L[i] u = some (decide (L[i].Lo ≤ u) && decide (u ≤ L[i].Hi)) := by
   apply Zl1
   unfold Zaw
   by_cases a : L[i].Lo ≤ u
   ·simp [a]
   ·simp [a]
  rw [Zfa hi, List.any_cons]
  cases hc : (decide (L[i].Lo ≤ u) && decide (u ≤ L[i].Hi)) with
  | true =>
   refine ⟨(i : Int), ?_, by simp⟩
   apply Z6h
   unfold Z3t Z3Z
   rw [if_pos (by simp; omega), Z4i, q4_ hi, ZV, hm, hc]
   rfl
  | false =>
   obtain ⟨k, h1, h2⟩ := ih (i + 1) (by omega)
   refine ⟨k, ?_, by rw [Bool.false_or]; exact h2⟩
   apply Z6h
   unfold Z3t Z3Z
   rw [if_pos (by simp; omega), Z4i, q4_ hi, ZV, hm, hc, ZV, if_neg (by simp)]
   unfold Z54
   rw [wrap_i64 (by omega) (by omega)]
   exact h1
theorem ZrJ (L : List Z8) (u : Int) (hl : L.length ≤ 1000000) : Z7s L u = some (L.any (fun r => decide (r.Lo ≤ u) && decide (u ≤ r.Hi))) := by
 obtain ⟨k, h1, h2⟩ := ZCy L u hl L.length 0 (by omega)
 have e1 : Z69 L u = some k := by
  apply ZeI
  unfold Z63
  exact h1
 have e2 : Z57 L u = some (decide (0 ≤ k)) := by
  apply Zdf
  unfold Z52
  rw [e1]
  rfl
 apply Zmz
 unfold ZbG
 rw [e2]
 rw [ZoV] at h2
 show some _ = some _
 congr 1
 cases hb : L.any (fun r => decide (r.Lo ≤ u) && decide (u ≤ r.Hi)) with
 | true => rw [hb] at h2; simpa using h2
 | false => rw [hb] at h2; simpa using h2
theorem ZyM (u : Int) : Z7s [⟨48, 57⟩, ⟨65, 90⟩, ⟨97, 122⟩] u = some (Zss u) := by
 rw [ZrJ _ _ (by simp)]
 congr 1
 simp [Zss, Bool.or_assoc]
theorem Zvn {l : List UInt8} {s s' : St} {u p v : Int} (h : At l s) (hu : 0 ≤ u ∧ u ≤ 1114367) (e : Zai u p s = .ok v s') : Nx l s s' ∧ 0 ≤ v ∧ v ≤ 1114367 := by
 have n0 : Nx l s s := ⟨h, Z2H _, rfl, rfl⟩
 have ha := ZhW (peek s.us)
 have hb := ZhW (peek (take s).us)
 unfold Zai at e
 split at e
 ·cases e; exact ⟨n0, by omega, by omega⟩
 split at e
 ·cases e; exact ⟨n0, by omega, by omega⟩
 split at e
 ·cases e; exact ⟨n0, by omega, by omega⟩
 split at e
 ·split at e
  ·split at e
   ·cases e; exact ⟨(Z9g h).trans (Z9g h.take), by omega, by omega⟩
   ·simp at e
  ·simp at e
 split at e
 ·cases e; exact ⟨n0, hu⟩
 ·simp at e
theorem Zsc {s : St} {u p c q : Int} (e : Zai u p s = .bad c q) : c ≠ 0 := by
 unfold Zai at e
 repeat' split at e
 all_goals first | (simp at e; done) | (cases e; simp)
theorem Zsd {l : List UInt8} {s : St} (h : At l s) (hl : l.length ≤ 1000) (u p g d : Int) (rf : List Zz) :
  Z7u u p (bl l) s.pos g d rf 0 0 = some (match Zai u p s with | .ok v s' => (v, s'.pos, 0, 0) | .bad c q => (0, (l.length : Int), c, q)) := by
 have bad : Z38 p (bl l) 0 0 = some (0, (l.length : Int), 21, p) := by
  unfold Z38
  rw [Z7r]
  rfl
 apply Zj8
 unfold Z92 Zai
 by_cases h1 : u = 110
 ·simp [h1]
 by_cases h2 : u = 116
 ·simp [h2]
 by_cases h3 : u = 114
 ·simp [h3]
 by_cases h4 : u = 120
 ·subst h4
  have hr := h.range
  have hr2 := h.take.range
  have ha := ZhW (peek s.us)
  have hb := ZhW (peek (take s).us)
  rw [if_neg (by simp), if_neg (by simp), if_neg (by simp), if_pos (by simp), if_neg (by simp), if_neg (by simp), if_neg (by simp), if_pos rfl, Z9v h, ZV, ZwA _ (by omega) (by omega), ZV]
  by_cases h5 : 0 ≤ hexF (peek s.us)
  ·have hn : s.us ≠ [] := by
    intro e
    rw [e] at h5
    simp [peek, hexF] at h5
   rw [if_pos (by simpa using h5), if_pos h5, Zcx h (by omega) hn, ZV]
   simp only []
   rw [Z9v h.take, ZV, ZwA _ (by omega) (by omega), ZV]
   by_cases h6 : 0 ≤ hexF (peek (take s).us)
   ·have hn2 : (take s).us ≠ [] := by
     intro e
     rw [e] at h6
     simp [peek, hexF] at h6
    rw [if_pos (by simpa using h6), if_pos h6, Zcx h.take (by omega) hn2, ZV, wrap_i64 (n := 16 * hexF (peek s.us)) (by omega) (by omega), wrap_i64 (by omega) (by omega)]
   ·rw [if_neg (by simpa using h6), if_neg h6, bad]
  ·rw [if_neg (by simpa using h5), if_neg h5, bad]
 ·rw [if_neg (by simpa using h1), if_neg (by simpa using h2), if_neg (by simpa using h3), if_neg (by simpa using h4), if_neg h1, if_neg h2, if_neg h3, if_neg h4]
  by_cases h5 : 32 < u
  ·by_cases h6 : u < 127
   ·rw [if_pos (by simpa using h5), if_pos (by simpa using h6), ZyM, ZV]
    cases h7 : Zss u with
    | true => rw [if_neg (by simp), bad, if_neg (by simp)]
    | false =>
     rw [if_pos (by rfl), if_pos ⟨h5, h6, rfl⟩]
     rfl
   ·rw [if_pos (by simpa using h5), if_neg (by simpa using h6), bad, if_neg (fun e => h6 e.2.1)]
  ·rw [if_neg (by simpa using h5), bad, if_neg (fun e => h5 e.1)]
def EscR (l : List UInt8) (s : St) (o : Out Zk) (r : Option (Zk × Int × List Zz × Int × Int)) : Prop :=
 match o with
 | .ok n s' => r = some (n, s'.pos, s'.rf, 0, 0) ∧ At l s' ∧ s'.us.length < s.us.length ∧ s'.gr = s.gr ∧ s'.rf.length + s'.us.length ≤ s.rf.length + s.us.length
 | .bad c q => c ≠ 0 ∧ ∃ n, r = some (n, (l.length : Int), s.rf, c, q)
theorem ZqG {α β : Type} {f : α → β} {l : List α} (h : l ≠ []) : nilO Own.ex (l.map f) = some false := by
 cases l with
 | nil => exact absurd rfl h
 | cons x r => rfl
theorem ZE0 {l : List UInt8} {s : St} (h : At l s) (hl : l.length ≤ 1000) (hrf : s.rf.length ≤ 2000) (p g d : Int) : EscR l s (pEsc p s) (Z4z p (bl l) s.pos g d s.rf 0 0) := by
 have top : ∀ r, Z5x p (bl l) s.pos g d s.rf 0 0 = some r → Z4z p (bl l) s.pos g d s.rf 0 0 = some r := fun r e => Ziu _ _ _ _ _ _ _ _ e
 unfold pEsc
 by_cases hn : s.us = []
 ·rw [if_pos hn]
  refine ⟨by simp, nd0, top _ ?_⟩
  unfold Z5x
  rw [Z9v h, ZV, hn, if_pos (by rfl), Z7r]
  rfl
 ·rw [if_neg hn]
  have hr := h.range
  have hu : 0 ≤ peek s.us ∧ peek s.us ≤ 1114367 := by
   rcases hr with ⟨_, h2⟩ | h2
   ·exact absurd h2 hn
   ·omega
  have hnx := Z9g h
  have hlt := ZnN h hn
  have tk := Zcx h (by omega) hn
  have top5 : ∀ r, Z3w p (peek s.us) (bl l) s.pos g d s.rf 0 0 = some r → Z4z p (bl l) s.pos g d s.rf 0 0 = some r := by
   intro r e
   refine top r ?_
   unfold Z5x
   rw [Z9v h, ZV, if_neg (by simp; omega)]
   exact e
  have hrf' : (take s).rf = s.rf := hnx.rf
  by_cases hs : short (peek s.us) = []
  ·rw [if_neg (by simp [hs])]
   have r5 : Z3w p (peek s.us) (bl l) s.pos g d s.rf 0 0 = (if ((peek s.us == 98)) = true then
 (some ((Zk.mk 9 0 0 0 2 ([] : List Z8) ([] : List Zk)), (take s).pos, s.rf, 0, 0))
 else
 (if ((peek s.us == 66)) = true then
 (some ((Zk.mk 9 0 0 0 3 ([] : List Z8) ([] : List Zk)), (take s).pos, s.rf, 0, 0))
 else
 (if ((decide (49 ≤ peek s.us))) = true then
 (if ((decide (peek s.us ≤ 57))) = true then
 (Z5l p (peek s.us) (take s).pos s.rf 0 0)
 else
 (Z3m p (peek s.us) (bl l) (take s).pos g d s.rf 0 0))
 else
 (Z3m p (peek s.us) (bl l) (take s).pos g d s.rf 0 0)))) := by
    unfold Z3w
    rw [tk, ZV, Zni, ZV, hs]
    rfl
   have r15 : EscR l s ((Zai (peek s.us) p (take s)).bind fun v s2 => .ok (setN (setR false [(v, v)])) s2) (Z3m p (peek s.us) (bl l) (take s).pos g d s.rf 0 0) := by
    unfold Z3m
    rw [Zsd h.take hl]
    cases hp : Zai (peek s.us) p (take s) with
    | ok v s2 =>
     obtain ⟨a, b, c⟩ := Zvn h.take hu hp
     have hset := Zig false (L := [(v, v)]) (by simp) (by simp; omega)
     refine ⟨?_, a.at_, ?_, a.gr.trans hnx.gr, ?_⟩
     ·simp only [ZV, Z84]
      rw [show [Z8.mk v v] = [((v, v) : R2)].map ofR from rfl, hset, ZV, a.rf, hrf']
     ·have := a.len; omega
     ·have := a.len; rw [a.rf, hrf']; omega
    | bad c q =>
     have hc := Zsc hp
     have hset := Zig false (L := [((0 : Int), (0 : Int))]) (by simp) (by simp)
     refine ⟨hc, setN (setR false [(0, 0)]), ?_⟩
     simp only [ZV, Z84]
     rw [show [Z8.mk 0 0] = [((0, 0) : R2)].map ofR from rfl, hset, ZV]
   have lift : ∀ o, EscR l s o (Z3w p (peek s.us) (bl l) s.pos g d s.rf 0 0) → EscR l s o (Z4z p (bl l) s.pos g d s.rf 0 0) := by
    intro o ho
    cases o with
    | ok n s' => exact ⟨top5 _ ho.1, ho.2⟩
    | bad c q => obtain ⟨hc, n, hn⟩ := ho; exact ⟨hc, n, top5 _ hn⟩
   apply lift
   rw [r5]
   by_cases h1 : peek s.us = 98
   ·rw [if_pos h1, if_pos (Z2i h1)]
    exact ⟨by rw [hrf']; rfl, h.take, by omega, hnx.gr, by rw [hrf']; omega⟩
   by_cases h2 : peek s.us = 66
   ·rw [if_neg h1, if_pos h2, if_neg (Z2b h1), if_pos (Z2i h2)]
    exact ⟨by rw [hrf']; rfl, h.take, by omega, hnx.gr, by rw [hrf']; omega⟩
   rw [if_neg h1, if_neg h2, if_neg (Z2b h1), if_neg (Z2b h2)]
   by_cases h3 : 49 ≤ peek s.us
   ·by_cases h4 : peek s.us ≤ 57
    ·rw [if_pos ⟨h3, h4⟩, if_pos (Z2f h3), if_pos (Z2f h4)]
     refine ⟨?_, ?_, by show (take s).us.length < _; omega, hnx.gr, by show (s.rf ++ [_]).length + (take s).us.length ≤ _; rw [q3_]; simp; omega⟩
     ·unfold Z5l lapp
      rw [if_pos (by simp [lim]; omega), wrap_i64 (n := peek s.us - 48) (by omega) (by omega)]
      rfl
     ·exact h.take
    ·rw [if_neg (show ¬ (49 ≤ peek s.us ∧ peek s.us ≤ 57) from fun e => h4 e.2), if_pos (Z2f h3), if_neg (Z21 h4)]
     exact r15
   ·rw [if_neg (show ¬ (49 ≤ peek s.us ∧ peek s.us ≤ 57) from fun e => h3 e.1), if_neg (Z21 h3)]
    exact r15
  ·rw [if_pos hs]
   obtain ⟨q1, q2⟩ := Zoj (peek s.us)
   refine ⟨top5 _ ?_, h.take, by omega, hnx.gr, by rw [hrf']; omega⟩
   unfold Z3w
   rw [tk, ZV, Zni, ZV, if_neg hs]
   have hno : nilO Own.ex ((short (peek s.us)).map ofR) = some false := ZqG hs
   dsimp only
   rw [hno, ZV, if_pos (show (!false) = true from rfl), ZV]
   dsimp only
   rw [Zig _ (by omega) q2, ZV, hrf']
def MemR (l : List UInt8) (s : St) (o : Out (Int × List R2 × Bool)) (r : Option (Int × (Own × List Z8) × Bool × Int × Int × Int)) : Prop :=
 match o with
 | .ok m s' => r = some (m.1, (if m.2.1 = [] then .nl else .ex, m.2.1.map ofR), m.2.2, s'.pos, 0, 0) ∧ Nx l s s' ∧ s'.us.length < s.us.length ∧ (0 ≤ m.1 ∧ m.1 ≤ 1114367) ∧ m.2.1.length ≤ 1000 ∧ ∀ r ∈ m.2.1, 0 ≤ r.1 ∧ r.1 ≤ r.2 ∧ r.2 ≤ 1114367
 | .bad c q => c ≠ 0 ∧ r = some (0, (.nl, []), false, (l.length : Int), c, q)
theorem ZwE {l : List UInt8} {s : St} (h : At l s) (hl : l.length ≤ 1000) (hn : s.us ≠ []) (g d : Int) (rf : List Zz) : MemR l s (pMem s) (Z5D (bl l) s.pos g d rf 0 0) := by
 have top : ∀ o, MemR l s o (Z6P (bl l) s.pos g d rf 0 0) → MemR l s o (Z5D (bl l) s.pos g d rf 0 0) := by
  intro o ho
  cases o with
  | ok m s' => exact ⟨Zce _ _ _ _ _ _ _ ho.1, ho.2⟩
  | bad c q => exact ⟨ho.1, Zce _ _ _ _ _ _ _ ho.2⟩
 apply top
 have hr := h.range
 have hu : 0 ≤ peek s.us ∧ peek s.us ≤ 1114367 := by
  rcases hr with ⟨_, h2⟩ | h2
  ·exact absurd h2 hn
  ·omega
 have hnx := Z9g h
 have hlt := ZnN h hn
 unfold Z6P pMem
 rw [Zcx h (by omega) hn, ZV]
 by_cases h1 : peek s.us = 92
 ·rw [if_neg (Zwp h1), if_neg (ZqF h1)]
  unfold Z7c
  dsimp only
  rw [Z9v h.take, ZV]
  by_cases hn2 : (take s).us = []
  ·rw [if_pos hn2, if_pos (Z2f (show peek (take s).us < 0 by rw [hn2]; decide)), Z7r]
   exact ⟨by simp, rfl⟩
  ·have hr2 := h.take.range
   have hu2 : 0 ≤ peek (take s).us ∧ peek (take s).us ≤ 1114367 := by
    rcases hr2 with ⟨_, h2⟩ | h2
    ·exact absurd h2 hn2
    ·omega
   have hnx2 := Z9g h.take
   have hlt2 := ZnN h.take hn2
   rw [if_neg hn2, if_neg (Z21 (show ¬ peek (take s).us < 0 by omega))]
   unfold Z7d
   rw [Zcx h.take (by omega) hn2, ZV, Zni, ZV]
   by_cases hs : short (peek (take s).us) = []
   ·rw [if_pos hs, if_neg (ZqF hs), hs]
    show MemR l s _ (Z5m (peek (take s).us) s.pos (bl l) (take (take s)).pos g d rf 0 0)
    unfold Z5m
    rw [Zsd h.take.take hl]
    cases hp : Zai (peek (take s).us) s.pos (take (take s)) with
    | ok v s2 =>
     obtain ⟨a, b, c⟩ := Zvn h.take.take hu2 hp
     exact ⟨rfl, (hnx.trans hnx2).trans a, by have := a.len; omega, ⟨b, c⟩, by simp, by simp⟩
    | bad c q => exact ⟨Zsc hp, rfl⟩
   ·obtain ⟨q1, q2⟩ := Zoj (peek (take s).us)
    rw [if_neg hs, if_pos hs]
    have hno := ZqG (f := ofR) hs
    exact ⟨by simp only [if_neg hs]; rw [show shrO Own.ex = Own.ex from rfl, hno]; rfl, hnx.trans hnx2, by omega, by simp, q1, q2⟩
 ·rw [if_pos (Zwq h1), if_pos h1]
  exact ⟨rfl, hnx, by omega, hu, by simp, by simp⟩
theorem ZBT (c : Prop) [Decidable c] : shrO (if c then Own.nl else Own.ex) = if c then Own.nl else Own.ex := by
 split <;> rfl
theorem ZBU : shrO Own.nl = Own.nl := rfl
structure Wd (b : ByteArray) (w : List Int) : Prop where
 ex : ∃ v : List UInt8, b = ⟨v.toArray⟩ ∧ w = bl v ∧ (∀ c ∈ v, c.toNat < 128) ∧ v.length ≤ 100 ∧ v ≠ []
theorem Z4g {l : List UInt8} {s : St} {b : ByteArray} {w : List Int} (hw : Wd b w) (h : At l s) (hl : l.length ≤ 1000) (e : wd w s = none) : Z1H b (bl l) s.pos = some (false, s.pos) := by
 obtain ⟨v, rfl, rfl, h1, h2, _⟩ := hw.ex
 rw [(ZvS h (by omega) v h1 h2).1, e]
theorem Z3L {l : List UInt8} {s s1 : St} {b : ByteArray} {w : List Int} (hw : Wd b w) (h : At l s) (hl : l.length ≤ 1000) (e : wd w s = some s1) : Z1H b (bl l) s.pos = some (true, s1.pos) ∧ Nx l s s1 ∧ s1.us.length < s.us.length := by
 obtain ⟨v, rfl, rfl, h1, h2, h3⟩ := hw.ex
 obtain ⟨a, b⟩ := ZvS h (by omega) v h1 h2
 obtain ⟨b1, b2, b3, b4⟩ := b s1 e
 have : v.length ≠ 0 := fun e => h3 (Zhm e)
 exact ⟨by rw [a, e], ⟨b1, by omega, b3, b4⟩, by omega⟩
theorem w45 : Wd (ByteArray.mk #[45]) [45] := ⟨[45], rfl, rfl, by decide, by decide, by decide⟩
theorem w94 : Wd (ByteArray.mk #[94]) [94] := ⟨[94], rfl, rfl, by decide, by decide, by decide⟩
def ClsR (l : List UInt8) (s : St) (o : Out Zk) (r : Option (Zk × Int × Int × Int)) : Prop :=
 match o with
 | .ok n s' => r = some (n, s'.pos, 0, 0) ∧ Nx l s s'
 | .bad c q => c ≠ 0 ∧ ∃ n, r = some (n, (l.length : Int), c, q)
theorem ClsR.from {l : List UInt8} {s s1 : St} {o : Out Zk} {r : Option (Zk × Int × Int × Int)} (h : ClsR l s1 o r) (hn : Nx l s s1) : ClsR l s o r := by
 cases o with
 | ok n s' => exact ⟨h.1, hn.trans h.2⟩
 | bad c q => exact h
theorem Zhx (p : Int) (no : Bool) (x8 : Int) (b : List Int) (a g d : Int) (rf : List Zz) (c q : Int) (all : List Z8) (hc : c ≠ 0) : Z1T p no x8 b a g d rf c q all = some (nd0, a, c, q) := by
 unfold Z1T
 apply Zbt
 unfold Z6e
 rw [if_neg (by simpa using hc)]
 rfl
theorem Zpa {l : List UInt8} (hl : l.length ≤ 1000) (p : Int) (no : Bool) (g d : Int) (rf : List Zz) : ∀ (k : Nat) (fst : Bool) (all : List R2) (s : St) (x8 : Int), At l s → Z2x all → s.us.length < k → (fst = true ↔ x8 = 0) → 0 ≤ x8 → x8 + s.us.length ≤ 5000 →
  ClsR l s (Z8F p no k fst all s) (Z43 p no x8 (bl l) s.pos g d rf 0 0 (all.map ofR)) := by
 intro k
 induction k with
 | zero => intro fst all s x8 _ _ hk; omega
 | succ k ih =>
  intro fst all s x8 h hall hk hf h0 hb
  have top : ∀ o, ClsR l s o (Z4P p no x8 (bl l) s.pos g d rf 0 0 (all.map ofR)) → ClsR l s o (Z43 p no x8 (bl l) s.pos g d rf 0 0 (all.map ofR)) := by
   intro o ho
   have e : ∀ r, Z4P p no x8 (bl l) s.pos g d rf 0 0 (all.map ofR) = some r → Z43 p no x8 (bl l) s.pos g d rf 0 0 (all.map ofR) = some r := by
    intro r e
    apply Zbt
    unfold Z6e
    rw [if_pos (by rfl)]
    exact e
   cases o with
   | ok n s' => exact ⟨e _ ho.1, ho.2⟩
   | bad c q => obtain ⟨hc, n, hn⟩ := ho; exact ⟨hc, n, e _ hn⟩
  have next : ∀ (all' : List R2) (s1 : St), Nx l s s1 → s1.us.length < s.us.length → Z2x all' → ClsR l s (Z8F p no k false all' s1) (Z1T p no x8 (bl l) s1.pos g d rf 0 0 (all'.map ofR)) := by
   intro all' s1 hn hlt ha'
   unfold Z1T
   rw [wrap_i64 (n := x8 + 1) (by omega) (by omega)]
   exact (ih false all' s1 (x8 + 1) hn.at_ ha' (by omega) (by simp; omega) (by omega) (by omega)).from hn
  have stop : ∀ (c q : Int) (al : List Z8) (z8 : Int), c ≠ 0 → ClsR l s (.bad c q) ((Z1c c q (bl l) 0 0).bind fun r2 => Z1T p no z8 (bl l) r2.1 g d rf r2.2.1 r2.2.2 al) := by
   intro c q al z8 hc
   rw [Z7r, ZV, Zhx _ _ _ _ _ _ _ _ _ _ _ hc]
   exact ⟨hc, _, rfl⟩
  apply top
  have hr := h.range
  unfold Z4P Z8F
  rw [Z9v h, ZV]
  by_cases hn : s.us = []
  ·rw [if_pos hn, if_pos (Z2i (show peek s.us = -1 by rw [hn]; rfl))]
   exact stop _ _ _ _ (by decide)
  have hu : 0 ≤ peek s.us ∧ peek s.us ≤ 1114367 := by
   rcases hr with ⟨_, h2⟩ | h2
   ·exact absurd h2 hn
   ·omega
  rw [if_neg hn, if_neg (Z2b (show ¬ peek s.us = -1 by omega))]
  by_cases h1 : peek s.us = 93
  ·rw [if_pos h1, if_pos (Z2i h1)]
   cases fst with
   | true =>
    rw [if_pos rfl, if_pos (Z2i (hf.1 rfl))]
    exact stop _ _ _ _ (by decide)
   | false =>
    have : ¬ x8 = 0 := fun e => by simpa using hf.2 e
    rw [if_neg (show ¬ (false = true) by simp), if_neg (Z2b this)]
    unfold Z79 Z5J
    rw [Zcx h (by omega) hn, ZV]
    cases no with
    | true =>
     rw [if_pos rfl, if_pos rfl, ZrM hall, ZV]
     exact ⟨rfl, Z9g h⟩
    | false =>
     rw [if_neg (by simp), if_neg (by simp)]
     exact ⟨rfl, Z9g h⟩
  rw [if_neg h1, if_neg (Z2b h1)]
  by_cases h2 : peek s.us = 91
  ·rw [if_pos (.inl h2), if_pos (Z2i h2), if_pos (Z2i h2)]
   exact stop _ _ _ _ (by decide)
  by_cases h3 : peek s.us = 45
  ·rw [if_pos (.inr h3), if_neg (Z2b h2), if_pos (Z2i h3)]
   exact stop _ _ _ _ (by decide)
  rw [if_neg (show ¬ (peek s.us = 91 ∨ peek s.us = 45) by omega), if_neg (Z2b h2), if_neg (Z2b h3)]
  unfold Z5K
  have hm := ZwE h hl hn g d rf
  cases hp : pMem s with
  | bad c q =>
   rw [hp] at hm
   obtain ⟨hc, hm⟩ := hm
   rw [hm, ZV]
   have hno : nilO Own.nl ([] : List Z8) = some true := rfl
   simp only [ZBU]
   rw [hno, ZV, if_neg (show ¬ ((!true) = true) by simp)]
   unfold Z5L
   have hend : wd [45] ⟨[], (l.length : Int), s.gr, s.rf⟩ = none := rfl
   have hat : At l ⟨[], (l.length : Int), s.gr, s.rf⟩ := ⟨l.length, Z2H _, rfl, by rw [Zeb (Z2H _)]; rfl⟩
   have := Z4g w45 hat hl hend
   dsimp only at this
   rw [this, ZV, if_neg (by simp)]
   unfold Z2A
   rw [if_neg (Z2b hc), Zhx _ _ _ _ _ _ _ _ _ _ _ hc]
   exact ⟨hc, _, rfl⟩
  | ok m s1 =>
   rw [hp] at hm
   obtain ⟨hm, hnx, hlt, hm1, hm2, hm3⟩ := hm
   rw [hm, ZV]
   simp only [Out.bind, ZBT]
   by_cases hs : m.2.1 = []
   ·have hno : nilO (if m.2.1 = [] then Own.nl else Own.ex) (m.2.1.map ofR) = some true := by rw [if_pos hs]; rfl
    rw [hno, ZV, if_neg (show ¬ ((!true) = true) by simp), if_neg (ZqF hs)]
    unfold Z5L
    have one : ∀ (v : Int) (s2 : St), Nx l s s2 → s2.us.length < s.us.length → m.1 ≤ v → v ≤ 1114367 → ClsR l s (Z8F p no k false (Z5v (all ++ [(m.1, v)])) s2) (Z2A p no x8 m.1 v (bl l) s2.pos g d rf 0 0 (all.map ofR)) := by
     intro v s2 hn2 hlt2 hv1 hv2
     unfold Z2A
     have hone : Z2x [(m.1, v)] := ZqI (by simp only []; omega)
     rw [if_pos (by rfl), show [Z8.mk m.1 v] = [((m.1, v) : R2)].map ofR from rfl, ZBJ hall hone (by simp), ZV]
     exact next _ s2 hn2 hlt2 (Zsb hall hone)
    cases hw : wd [45] s1 with
    | none =>
     rw [Z4g w45 hnx.at_ hl hw, ZV, if_neg (by simp)]
     exact one m.1 s1 hnx hlt (by omega) (by omega)
    | some s2 =>
     obtain ⟨q1, q2, q3⟩ := Z3L w45 hnx.at_ hl hw
     have hn2 := hnx.trans q2
     have hr2 := q2.at_.range
     rw [q1, ZV, if_pos rfl]
     dsimp only
     rw [Z9v q2.at_, ZV]
     unfold Z3R
     by_cases c1 : peek s2.us = 93
     ·rw [if_pos (.inr (.inl c1)), if_pos (Z2i c1)]
      exact stop _ _ _ _ (by decide)
     rw [if_neg (Z2b c1)]
     by_cases c2 : peek s2.us = 91
     ·rw [if_pos (.inr (.inr (.inl c2))), if_pos (Z2i c2)]
      exact stop _ _ _ _ (by decide)
     rw [if_neg (Z2b c2)]
     by_cases c3 : peek s2.us = 45
     ·rw [if_pos (.inr (.inr (.inr c3))), if_pos (Z2i c3)]
      exact stop _ _ _ _ (by decide)
     rw [if_neg (Z2b c3)]
     by_cases c4 : s2.us = []
     ·rw [if_pos (.inl c4), if_pos (Z2f (show peek s2.us < 0 by rw [c4]; decide))]
      exact stop _ _ _ _ (by decide)
     have hu2 : 0 ≤ peek s2.us := by
      rcases hr2 with ⟨_, h2⟩ | h2
      ·exact absurd h2 c4
      ·omega
     rw [if_neg (show ¬ (s2.us = [] ∨ peek s2.us = 93 ∨ peek s2.us = 91 ∨ peek s2.us = 45) by simp only [c1, c2, c3, c4, or_self, not_false_eq_true]), if_neg (Z21 (show ¬ peek s2.us < 0 by omega))]
     unfold Z7a
     have hm' := ZwE q2.at_ hl c4 g d rf
     cases hp2 : pMem s2 with
     | bad c q =>
      rw [hp2] at hm'
      obtain ⟨hc, hm'⟩ := hm'
      rw [hm', ZV]
      dsimp only
      rw [if_neg (Z2b hc)]
      unfold Z2A
      rw [if_neg (Z2b hc), Zhx _ _ _ _ _ _ _ _ _ _ _ hc]
      exact ⟨hc, _, rfl⟩
     | ok m2 s3 =>
      rw [hp2] at hm'
      obtain ⟨hm', hnx', hlt', hm1', hm2', hm3'⟩ := hm'
      rw [hm', ZV]
      dsimp only
      simp only [ZBT]
      rw [if_pos (Z2i rfl)]
      have fall : ∀ z, ClsR l s (.bad 22 s.pos) (Z4s p no x8 s.pos m.1 z (bl l) g d rf 0 0 (all.map ofR)) := by
       intro z
       unfold Z4s
       rw [Z7r, ZV]
       unfold Z2A
       dsimp only
       rw [if_neg (by decide), Zhx _ _ _ _ _ _ _ _ _ _ _ (by decide)]
       exact ⟨by decide, _, rfl⟩
      by_cases e1 : m2.2.1 = []
      ·have hno2 : nilO (if m2.2.1 = [] then Own.nl else Own.ex) (m2.2.1.map ofR) = some true := by rw [if_pos e1]; rfl
       rw [hno2, ZV, if_neg (show ¬ ((!true) = true) by simp)]
       by_cases e2 : m2.1 < m.1
       ·rw [if_pos (Z2f e2), if_pos (.inr e2)]
        exact fall _
       ·rw [if_neg (Z21 e2), if_neg (show ¬ (m2.2.1 ≠ [] ∨ m2.1 < m.1) by simp only [e1, ne_eq, not_true_eq_false, false_or]; exact e2)]
        exact one m2.1 s3 (hn2.trans hnx') (by omega) (by omega) (by omega)
      ·have hno2 : nilO (if m2.2.1 = [] then Own.nl else Own.ex) (m2.2.1.map ofR) = some false := by rw [if_neg e1]; exact ZqG e1
       rw [hno2, ZV, if_pos (show (!false) = true from rfl), if_pos (.inl e1)]
       exact fall _
   ·have hno : nilO (if m.2.1 = [] then Own.nl else Own.ex) (m.2.1.map ofR) = some false := by rw [if_neg hs]; exact ZqG hs
    have hset := Zwo m.2.2 hm3
    have hlen : (setR m.2.2 m.2.1).length ≤ 100000 := by have := ZD5 m.2.2 m.2.1; omega
    rw [hno, ZV, if_pos (show (!false) = true from rfl), if_pos hs, Zig _ (by omega) hm3, ZV, show (setN (setR m.2.2 m.2.1)).Set = (setR m.2.2 m.2.1).map ofR from rfl, ZBJ hall hset hlen, ZV, Z9v hnx.at_, ZV]
    by_cases c1 : peek s1.us = 45
    ·rw [if_pos c1, if_pos (Z2i c1)]
     exact stop _ _ _ _ (by decide)
    ·rw [if_neg c1, if_neg (Z2b c1)]
     exact next _ s1 hnx hlt (Zsb hall hset)
theorem Nx.refl {l : List UInt8} {s : St} (h : At l s) : Nx l s s := ⟨h, Z2H _, rfl, rfl⟩
theorem ClsR.of {l : List UInt8} {s : St} {o : Out Zk} {b g : Option (Zk × Int × Int × Int)} (hb : ClsR l s o b) (hg : ∀ r, b = some r → g = some r) : ClsR l s o g := by
 cases o with
 | ok n s' => exact ⟨hg _ hb.1, hb.2⟩
 | bad c q => obtain ⟨hc, n, hn⟩ := hb; exact ⟨hc, n, hg _ hn⟩
theorem ZyU {l : List UInt8} {s : St} (h : At l s) (hl : l.length ≤ 1000) (p g d : Int) (rf : List Zz) : ClsR l s (Zh6 p s) (Z94 p (bl l) s.pos g d rf 0 0) := by
 refine ClsR.of (b := Z78 p (bl l) s.pos g d rf 0 0) ?_ fun r e => Zj3 _ _ _ _ _ _ _ _ e
 have n0 : Z2x [] := trivial
 unfold Z78 Zh6
 cases hw : wd [94] s with
 | none =>
  rw [Z4g w94 h hl hw, ZV]
  have := h.len
  exact Zpa hl p false g d rf _ true [] s 0 h n0 (by omega) (by simp) (by omega) (by omega)
 | some s1 =>
  obtain ⟨q1, q2, q3⟩ := Z3L w94 h hl hw
  rw [q1, ZV]
  have := q2.at_.len
  exact (Zpa hl p true g d rf _ true [] s1 0 q2.at_ n0 (by omega) (by simp) (by omega) (by omega)).from q2
theorem w44 : Wd (ByteArray.mk #[44]) [44] := ⟨[44], rfl, rfl, by decide, by decide, by decide⟩
theorem w125 : Wd (ByteArray.mk #[125]) [125] := ⟨[125], rfl, rfl, by decide, by decide, by decide⟩
theorem w63 : Wd (ByteArray.mk #[63]) [63] := ⟨[63], rfl, rfl, by decide, by decide, by decide⟩
theorem w43 : Wd (ByteArray.mk #[43]) [43] := ⟨[43], rfl, rfl, by decide, by decide, by decide⟩
theorem w42 : Wd (ByteArray.mk #[42]) [42] := ⟨[42], rfl, rfl, by decide, by decide, by decide⟩
theorem w123 : Wd (ByteArray.mk #[123]) [123] := ⟨[123], rfl, rfl, by decide, by decide, by decide⟩
theorem Zg3 {l : List UInt8} {s : St} (h : At l s) (hl : l.length ≤ 1000) (g d : Int) (rf : List Zz) (x3 x4 : Int) (h4 : 0 ≤ x4 ∧ x4 ≤ 10) (h3 : -1 ≤ x3 ∧ x3 ≤ 100) :
  ∀ r, (if x4 < 2 ∧ digit (peek s.us) = true then Z3T (10 * max x3 0 + peek s.us - 48) (x4 + 1) (bl l) (take s).pos g d rf 0 0 else some (x3, s.pos)) = some r → Z3T x3 x4 (bl l) s.pos g d rf 0 0 = some r := by
 intro r hr
 apply ZgE
 unfold Z7e Z4u
 by_cases h5 : x4 < 2
 ·rw [if_pos (Z2f h5), Z9v h, ZV]
  by_cases h6 : 48 ≤ peek s.us
  ·rw [if_pos (Z2f h6), ZV]
   by_cases h7 : peek s.us ≤ 57
   ·have hn : s.us ≠ [] := by
     intro e
     rw [e] at h6
     simp [peek] at h6
    rw [if_pos (Z2f h7)]
    unfold Z7f
    rw [Zcx h (by omega) hn, ZV]
    rw [wrap_i64 (n := 10 * max x3 0) (by omega) (by omega), wrap_i64 (n := 10 * max x3 0 + peek s.us) (by omega) (by omega), wrap_i64 (n := 10 * max x3 0 + peek s.us - 48) (by omega) (by omega), wrap_i64 (n := x4 + 1) (by omega) (by omega)]
    rw [if_pos ⟨h5, by simp [digit, h6, h7]⟩] at hr
    exact hr
   ·rw [if_neg (Z21 h7)]
    rw [if_neg (by simp [digit, h7])] at hr
    exact hr
  ·rw [if_neg (Z21 h6)]
   rw [if_neg (by simp [digit, h6])] at hr
   exact hr
 ·rw [if_neg (Z21 h5)]
  rw [if_neg (fun e => h5 e.1)] at hr
  exact hr
theorem ZrX {u : Int} : digit u = true ↔ 48 ≤ u ∧ u ≤ 57 := by simp [digit]
theorem ZwH {l : List UInt8} {s : St} (h : At l s) (hl : l.length ≤ 1000) (g d : Int) (rf : List Zz) :
  Z5E (bl l) s.pos g d rf 0 0 = some ((pNum s).1, (pNum s).2.pos) ∧ Nx l s (pNum s).2 ∧ -1 ≤ (pNum s).1 ∧ (pNum s).1 ≤ 99 := by
 have top : ∀ r, Z3T (-1) 0 (bl l) s.pos g d rf 0 0 = some r → Z5E (bl l) s.pos g d rf 0 0 = some r := fun r e => Ziw _ _ _ _ _ _ _ e
 unfold pNum
 by_cases h1 : digit (peek s.us) = true
 ·have r1 := ZrX.1 h1
  rw [if_pos h1]
  by_cases h2 : digit (peek (take s).us) = true
  ·have r2 := ZrX.1 h2
   rw [if_pos h2]
   refine ⟨top _ (Zg3 h hl g d rf _ _ (by omega) (by omega) _ ?_), (Z9g h).trans (Z9g h.take), by simp only []; omega, by simp only []; omega⟩
   rw [if_pos ⟨by omega, h1⟩]
   refine Zg3 h.take hl g d rf _ _ (by omega) (by omega) _ ?_
   rw [if_pos ⟨by omega, h2⟩]
   refine Zg3 h.take.take hl g d rf _ _ (by omega) (by omega) _ ?_
   rw [if_neg (by omega)]
   congr 2
   omega
  ·rw [if_neg h2]
   refine ⟨top _ (Zg3 h hl g d rf _ _ (by omega) (by omega) _ ?_), Z9g h, by simp only []; omega, by simp only []; omega⟩
   rw [if_pos ⟨by omega, h1⟩]
   refine Zg3 h.take hl g d rf _ _ (by omega) (by omega) _ ?_
   rw [if_neg (fun e => h2 e.2)]
   congr 2
   omega
 ·rw [if_neg h1]
  refine ⟨top _ (Zg3 h hl g d rf _ _ (by omega) (by omega) _ ?_), Nx.refl h, by simp, by simp⟩
  rw [if_neg (fun e => h1 e.2)]
def CntR (l : List UInt8) (s : St) (o : Out (Int × Int)) (r : Option (Int × Int × Int × Int × Int)) : Prop :=
 match o with
 | .ok n s' => r = some (n.1, n.2, s'.pos, 0, 0) ∧ Nx l s s'
 | .bad c q => c ≠ 0 ∧ ∃ a b, r = some (a, b, (l.length : Int), c, q)
theorem CntR.from {l : List UInt8} {s s1 : St} {o : Out (Int × Int)} {r : Option (Int × Int × Int × Int × Int)} (h : CntR l s1 o r) (hn : Nx l s s1) : CntR l s o r := by
 cases o with
 | ok n s' => exact ⟨h.1, hn.trans h.2⟩
 | bad c q => exact h
theorem ZjV (l : List UInt8) (s : St) (p lo hi : Int) : CntR l s (.bad 23 p) (Z3l p lo hi (bl l) 0 0) := by
 unfold Z3l
 rw [Z7r]
 exact ⟨by decide, lo, hi, rfl⟩
theorem ZrC {l : List UInt8} {s : St} (h : At l s) (hl : l.length ≤ 1000) (p lo hi : Int) : CntR l s (pFin p lo hi s) (Z36 p lo hi (bl l) s.pos 0 0) := by
 unfold Z36 pFin
 by_cases h1 : lo < 0
 ·rw [if_pos (.inl h1), if_pos (Z2f h1)]
  exact ZjV ..
 by_cases h2 : hi < lo
 ·rw [if_pos (.inr (.inl h2)), if_neg (Z21 h1), if_pos (Z2f h2)]
  exact ZjV ..
 by_cases h3 : 64 < hi
 ·rw [if_pos (.inr (.inr h3)), if_neg (Z21 h1), if_neg (Z21 h2), if_pos (Z2f h3)]
  exact ZjV ..
 rw [if_neg (show ¬ (lo < 0 ∨ hi < lo ∨ 64 < hi) by omega), if_neg (Z21 h1), if_neg (Z21 h2), if_neg (Z21 h3)]
 cases hw : wd [125] s with
 | none =>
  rw [Z4g w125 h hl hw, ZV, if_pos (show (!false) = true from rfl)]
  exact ZjV ..
 | some s1 =>
  obtain ⟨q1, q2, q3⟩ := Z3L w125 h hl hw
  rw [q1, ZV, if_neg (show ¬ ((!true) = true) by simp)]
  exact ⟨rfl, q2⟩
theorem Zx8 {l : List UInt8} {s : St} (h : At l s) (hl : l.length ≤ 1000) (p g d : Int) (rf : List Zz) : CntR l s (ZnL p s) (Z6S p (bl l) s.pos g d rf 0 0) := by
 have top : ∀ o, CntR l s o (Z6O p (bl l) s.pos g d rf 0 0) → CntR l s o (Z6S p (bl l) s.pos g d rf 0 0) := by
  intro o ho
  cases o with
  | ok n s' => exact ⟨Zcd _ _ _ _ _ _ _ _ ho.1, ho.2⟩
  | bad c q => obtain ⟨hc, a, b, hn⟩ := ho; exact ⟨hc, a, b, Zcd _ _ _ _ _ _ _ _ hn⟩
 apply top
 obtain ⟨n1, n2, n3, n4⟩ := ZwH h hl g d rf
 unfold Z6O ZnL
 rw [n1, ZV]
 dsimp only
 cases hw : wd [44] (pNum s).2 with
 | none =>
  rw [Z4g w44 n2.at_ hl hw, ZV, if_neg (by simp)]
  exact (ZrC n2.at_ hl p _ _).from n2
 | some s2 =>
  obtain ⟨q1, q2, q3⟩ := Z3L w44 n2.at_ hl hw
  obtain ⟨m1, m2, m3, m4⟩ := ZwH q2.at_ hl g d rf
  rw [q1, ZV, if_pos rfl]
  dsimp only
  rw [m1, ZV]
  dsimp only
  have hn := n2.trans (q2.trans m2)
  by_cases h1 : (pNum s2).1 < 0
  ·rw [if_pos (Z2f h1)]
   by_cases h2 : 0 ≤ (pNum s).1
   ·rw [if_pos (Z2f h2), if_pos (show (pNum s2).1 < 0 ∧ 0 ≤ (pNum s).1 from ⟨h1, h2⟩)]
    unfold Z7b
    have r8 : ∀ s5 : St, CntR l s (.bad 23 p) (Z4t p (pNum s).1 (bl l) s5.pos 0 0) := by
     intro s5
     unfold Z4t Z36
     rw [if_neg (Z21 (show ¬ (pNum s).1 < 0 by omega)), if_pos (Z2f (show (-2 : Int) < (pNum s).1 by omega))]
     exact ZjV ..
    cases hw2 : wd [125] (pNum s2).2 with
    | none =>
     rw [Z4g w125 m2.at_ hl hw2, ZV, if_neg (by simp)]
     exact r8 _
    | some s4 =>
     obtain ⟨t1, t2, t3⟩ := Z3L w125 m2.at_ hl hw2
     rw [t1, ZV, if_pos rfl]
     by_cases h3 : (pNum s).1 ≤ 64
     ·dsimp only
      rw [if_pos (Z2f h3), if_pos h3]
      exact ⟨rfl, hn.trans t2⟩
     ·dsimp only
      rw [if_neg (Z21 h3), if_neg h3]
      exact r8 _
   ·rw [if_neg (Z21 h2), if_neg (show ¬ ((pNum s2).1 < 0 ∧ 0 ≤ (pNum s).1) from fun e => h2 e.2)]
    exact (ZrC m2.at_ hl p _ _).from hn
  ·rw [if_neg (Z21 h1), if_neg (show ¬ ((pNum s2).1 < 0 ∧ 0 ≤ (pNum s).1) from fun e => h1 e.1)]
   exact (ZrC m2.at_ hl p _ _).from hn
def fin (l : List UInt8) : St := ⟨[], (l.length : Int), 0, []⟩
theorem fin_at (l : List UInt8) : At l (fin l) := ⟨l.length, Z2H _, rfl, by rw [Zeb (Z2H _)]; rfl⟩
theorem ZdU {l : List UInt8} (hl : l.length ≤ 1000) {b : ByteArray} {c : Int} {w : List Int} (hw : Wd b (c :: w)) : Z1H b (bl l) (l.length : Int) = some (false, (l.length : Int)) :=
 Z4g hw (fin_at l) hl rfl
theorem ZlD {l : List UInt8} (hl : l.length ≤ 1000) (c q k lo hi m rr : Int) (st : List Z8) (ks : List Zk) : Z3G (bl l) (l.length : Int) c q k lo hi m rr st ks = some (⟨k, lo, hi, m, rr, st, ks⟩, (l.length : Int), c, q) := by
 unfold Z3G
 rw [ZdU hl w63, ZV, if_neg (by simp)]
 dsimp only
 rw [ZdU hl w43, ZV, if_neg (by simp)]
 rfl
theorem Zjq {l : List UInt8} {s : St} (h : At l s) (hl : l.length ≤ 1000) (kid : Zk) (may : Bool) (p lo hi : Int) : ClsR l s (ZkG kid may p lo hi s) (Z32 may p (bl l) s.pos 0 0 4 lo hi 0 0 [] [kid]) := by
 unfold Z32 ZkG
 cases may with
 | false =>
  rw [if_pos rfl, if_pos (show (!false) = true from rfl), Z7r, ZV]
  dsimp only
  rw [ZlD hl]
  exact ⟨by decide, _, rfl⟩
 | true =>
  rw [if_neg (by simp), if_neg (show ¬ ((!true) = true) by simp)]
  unfold Z3G Z4k
  cases hw : wd [63] s with
  | some s1 =>
   obtain ⟨t1, t2, t3⟩ := Z3L w63 h hl hw
   rw [t1, ZV, if_pos rfl]
   exact ⟨rfl, t2⟩
  | none =>
   rw [Z4g w63 h hl hw, ZV, if_neg (by simp)]
   dsimp only
   cases hw2 : wd [43] s with
   | some s1 =>
    obtain ⟨t1, t2, t3⟩ := Z3L w43 h hl hw2
    rw [t1, ZV, if_pos rfl]
    exact ⟨rfl, t2⟩
   | none =>
    rw [Z4g w43 h hl hw2, ZV, if_neg (by simp)]
    exact ⟨rfl, Nx.refl h⟩
theorem ZD4 {l : List UInt8} (hl : l.length ≤ 1000) (kid : Zk) (may : Bool) (g d : Int) (rf : List Zz) (c q : Int) : Z6T kid may (bl l) (l.length : Int) g d rf c q = some (kid, (l.length : Int), c, q) := by
 apply Zch
 unfold Z5y
 rw [ZdU hl w42, ZV, if_neg (by simp)]
 dsimp only
 rw [ZdU hl w43, ZV, if_neg (by simp)]
 dsimp only
 rw [ZdU hl w63, ZV, if_neg (by simp)]
 dsimp only
 rw [ZdU hl w123, ZV, if_neg (by simp)]
theorem ZEx {l : List UInt8} {s : St} (h : At l s) (hl : l.length ≤ 1000) (kid : Zk) (may : Bool) (g d : Int) (rf : List Zz) : ClsR l s (pRep kid may s) (Z6T kid may (bl l) s.pos g d rf 0 0) := by
 refine ClsR.of (b := Z5y kid may (bl l) s.pos g d rf 0 0) ?_ fun r e => Zch _ _ _ _ _ _ _ _ _ e
 unfold Z5y pRep
 cases hw : wd [42] s with
 | some s1 =>
  obtain ⟨t1, t2, t3⟩ := Z3L w42 h hl hw
  rw [t1, ZV, if_pos rfl]
  exact (Zjq t2.at_ hl kid may _ _ _).from t2
 | none =>
  rw [Z4g w42 h hl hw, ZV, if_neg (by simp)]
  dsimp only
  cases hw2 : wd [43] s with
  | some s1 =>
   obtain ⟨t1, t2, t3⟩ := Z3L w43 h hl hw2
   rw [t1, ZV, if_pos rfl]
   exact (Zjq t2.at_ hl kid may _ _ _).from t2
  | none =>
   rw [Z4g w43 h hl hw2, ZV, if_neg (by simp)]
   dsimp only
   cases hw3 : wd [63] s with
   | some s1 =>
    obtain ⟨t1, t2, t3⟩ := Z3L w63 h hl hw3
    rw [t1, ZV, if_pos rfl]
    exact (Zjq t2.at_ hl kid may _ _ _).from t2
   | none =>
    rw [Z4g w63 h hl hw3, ZV, if_neg (by simp)]
    dsimp only
    cases hw4 : wd [123] s with
    | none =>
     rw [Z4g w123 h hl hw4, ZV, if_neg (by simp)]
     exact ⟨rfl, Nx.refl h⟩
    | some s1 =>
     obtain ⟨t1, t2, t3⟩ := Z3L w123 h hl hw4
     rw [t1, ZV, if_pos rfl]
     dsimp only
     have hc := Zx8 t2.at_ hl s.pos g d rf
     cases hp : ZnL s.pos s1 with
     | bad c q =>
      rw [hp] at hc
      obtain ⟨hc0, a, b, hc⟩ := hc
      rw [hc, ZV]
      unfold Z32
      dsimp only [Out.bind]
      cases may with
      | false =>
       rw [if_pos (show (!false) = true from rfl), ZrY _ _ _ _ _ hc0, ZV]
       dsimp only
       rw [ZlD hl]
       exact ⟨hc0, _, rfl⟩
      | true =>
       rw [if_neg (show ¬ ((!true) = true) by simp), ZlD hl]
       exact ⟨hc0, _, rfl⟩
     | ok n s2 =>
      rw [hp] at hc
      obtain ⟨hc, hn⟩ := hc
      rw [hc, ZV]
      exact (Zjq hn.at_ hl kid may _ _ _).from (t2.trans hn)
structure Inv (l : List UInt8) (s : St) : Prop where
 at_ : At l s
 g0 : 0 ≤ s.gr
 g9 : s.gr ≤ 9
 rf : s.rf.length + s.us.length ≤ 1500
structure Mv (l : List UInt8) (s s' : St) : Prop where
 at_ : At l s'
 len : s'.us.length ≤ s.us.length
 g0 : 0 ≤ s'.gr
 g9 : s'.gr ≤ 9
 rf : s'.rf.length + s'.us.length ≤ s.rf.length + s.us.length
theorem Mv.inv {l : List UInt8} {s s' : St} (h : Mv l s s') (hi : Inv l s) : Inv l s' := ⟨h.at_, h.g0, h.g9, Zho h.rf hi.rf⟩
theorem Mv.trans {l : List UInt8} {s s' s'' : St} (h : Mv l s s') (h' : Mv l s' s'') : Mv l s s'' :=
 ⟨h'.at_, Zho h'.len h.len, h'.g0, h'.g9, Zho h'.rf h.rf⟩
theorem Nx.mv {l : List UInt8} {s s' : St} (h : Nx l s s') (hi : Inv l s) : Mv l s s' :=
 ⟨h.at_, h.len, by rw [h.gr]; exact hi.g0, by rw [h.gr]; exact hi.g9, by rw [h.rf]; have := h.len; omega⟩
def AltR (l : List UInt8) (d : Int) (s : St) (o : Out Zk) (r : Option (Zk × Int × Int × Int × List Zz × Int × Int)) : Prop :=
 match o with
 | .ok n s' => r = some (n, s'.pos, s'.gr, d, s'.rf, 0, 0) ∧ Mv l s s'
 | .bad c q => c ≠ 0 ∧ ∃ n g' d' rf', rf'.length ≤ 1500 ∧ r = some (n, (l.length : Int), g', d', rf', c, q)
def AtmR (l : List UInt8) (d : Int) (s : St) (o : Out (Zk × Bool)) (r : Option (Zk × Bool × Int × Int × Int × List Zz × Int × Int)) : Prop :=
 match o with
 | .ok n s' => r = some (n.1, n.2, s'.pos, s'.gr, d, s'.rf, 0, 0) ∧ Mv l s s'
 | .bad c q => c ≠ 0 ∧ ∃ n may g' d' rf', rf'.length ≤ 1500 ∧ r = some (n, may, (l.length : Int), g', d', rf', c, q)
theorem AltR.of {l : List UInt8} {d : Int} {s : St} {o : Out Zk} {b g : Option (Zk × Int × Int × Int × List Zz × Int × Int)} (hb : AltR l d s o b) (hg : ∀ r, b = some r → g = some r) : AltR l d s o g := by
 cases o with
 | ok n s' => exact ⟨hg _ hb.1, hb.2⟩
 | bad c q => obtain ⟨hc, n, g', d', rf', hq, hn⟩ := hb; exact ⟨hc, n, g', d', rf', hq, hg _ hn⟩
theorem AtmR.of {l : List UInt8} {d : Int} {s : St} {o : Out (Zk × Bool)} {b g : Option (Zk × Bool × Int × Int × Int × List Zz × Int × Int)} (hb : AtmR l d s o b) (hg : ∀ r, b = some r → g = some r) : AtmR l d s o g := by
 cases o with
 | ok n s' => exact ⟨hg _ hb.1, hb.2⟩
 | bad c q => obtain ⟨hc, n, m, g', d', rf', hq, hn⟩ := hb; exact ⟨hc, n, m, g', d', rf', hq, hg _ hn⟩
theorem AltR.from {l : List UInt8} {d : Int} {s s1 : St} {o : Out Zk} {r : Option (Zk × Int × Int × Int × List Zz × Int × Int)} (h : AltR l d s1 o r) (hn : Mv l s s1) : AltR l d s o r := by
 cases o with
 | ok n s' => exact ⟨h.1, hn.trans h.2⟩
 | bad c q => exact h
theorem AtmR.from {l : List UInt8} {d : Int} {s s1 : St} {o : Out (Zk × Bool)} {r : Option (Zk × Bool × Int × Int × Int × List Zz × Int × Int)} (h : AtmR l d s1 o r) (hn : Mv l s s1) : AtmR l d s o r := by
 cases o with
 | ok n s' => exact ⟨h.1, hn.trans h.2⟩
 | bad c q => exact h
theorem w124 : Wd (ByteArray.mk #[124]) [124] := ⟨[124], rfl, rfl, by decide, by decide, by decide⟩
theorem w41 : Wd (ByteArray.mk #[41]) [41] := ⟨[41], rfl, rfl, by decide, by decide, by decide⟩
theorem wL0 : Wd (ByteArray.mk #[63, 61]) [63, 61] := ⟨[63, 61], rfl, rfl, by decide, by decide, by decide⟩
theorem wL1 : Wd (ByteArray.mk #[63, 33]) [63, 33] := ⟨[63, 33], rfl, rfl, by decide, by decide, by decide⟩
theorem wL2 : Wd (ByteArray.mk #[63, 60, 61]) [63, 60, 61] := ⟨[63, 60, 61], rfl, rfl, by decide, by decide, by decide⟩
theorem wL3 : Wd (ByteArray.mk #[63, 60, 33]) [63, 60, 33] := ⟨[63, 60, 33], rfl, rfl, by decide, by decide, by decide⟩
theorem wAt : Wd (ByteArray.mk #[63, 62]) [63, 62] := ⟨[63, 62], rfl, rfl, by decide, by decide, by decide⟩
theorem wNo : Wd (ByteArray.mk #[63, 58]) [63, 58] := ⟨[63, 58], rfl, rfl, by decide, by decide, by decide⟩
theorem Zoq (x3 : List Zk) (b : List Int) (a g d : Int) (rf : List Zz) (c q : Int) (hc : c ≠ 0) : Z5C x3 b a g d rf c q = some (joined 2 x3, a, g, d, rf, c, q) := by
 apply Zcb
 unfold Z6M Z3z
 rw [if_neg (Z2b hc), ZhX]
 rfl
theorem Zm5 {l : List UInt8} (hl : l.length ≤ 1000) (x3 : List Zk) (g d : Int) (rf : List Zz) (c q : Int) : Z5B x3 (bl l) (l.length : Int) g d rf c q = some (joined 3 x3, (l.length : Int), g, d, rf, c, q) := by
 apply Zc9
 unfold Z5w Z6L
 rw [ZdU hl w124, ZV, if_neg (by simp), ZhX]
 rfl
theorem ZCe {l : List UInt8} (hl : l.length ≤ 1000) (g d : Int) (rf : List Zz) (c q : Int) (hc : c ≠ 0) : Z4d (bl l) (l.length : Int) g d rf c q = some (nd0, (l.length : Int), g, d, rf, c, q) := by
 apply Zeo
 unfold Z6K
 have : Z6R (bl l) (l.length : Int) g d rf c q = some (nd0, (l.length : Int), g, d, rf, c, q) := by
  apply Zeq
  unfold Z8k
  exact Zoq _ _ _ _ _ _ _ _ hc
 rw [this, ZV]
 exact Zm5 hl _ _ _ _ _ _
theorem ZCf {l : List UInt8} (hl : l.length ≤ 1000) {d : Int} {P : Int → St → Out (Zk × Bool)} (HP : ∀ p s, Inv l s → AtmR l d s (P p s) (Z4W p (bl l) s.pos s.gr d s.rf 0 0)) {s : St} (h : Inv l s) (hn : s.us ≠ []) :
  AtmR l d (take s) (Zgm P s) (Z9H (bl l) s.pos s.gr d s.rf 0 0) := by
 refine AtmR.of (b := Z7S (bl l) s.pos s.gr d s.rf 0 0) ?_ fun r e => ZjD _ _ _ _ _ _ _ e
 have hnx := Z9g h.at_
 have hiv := (hnx.mv h).inv h
 have m0 : Mv l (take s) (take s) := (Nx.refl hnx.at_).mv hiv
 have hg : (take s).gr = s.gr := hnx.gr
 have hrf : (take s).rf = s.rf := hnx.rf
 have hu : 0 ≤ peek s.us ∧ peek s.us ≤ 1114367 := by
  rcases h.at_.range with ⟨_, h2⟩ | h2
  ·exact absurd h2 hn
  ·omega
 have bad : ∀ c q, c ≠ 0 → AtmR l d (take s) (.bad c q) ((Z1c c q (bl l) 0 0).bind fun r7 => Z24 r7.1 s.gr d s.rf r7.2.1 r7.2.2) := by
  intro c q hc
  rw [Z7r]
  exact ⟨hc, _, _, _, _, _, show s.rf.length ≤ 1500 by have := h.rf; omega, rfl⟩
 have plain : AtmR l d (take s) (.ok (setN (setR false [(peek s.us, peek s.us)]), true) (take s)) ((Z2w (peek s.us)).bind fun r12 => (Z3Y false ([r12] : List Z8)).bind fun r13 => some (r13, true, (take s).pos, s.gr, d, s.rf, 0, 0)) := by
  have hset := Zig false (L := [(peek s.us, peek s.us)]) (by simp) (by simp; omega)
  rw [Z84, ZV, show [Z8.mk (peek s.us) (peek s.us)] = [((peek s.us, peek s.us) : R2)].map ofR from rfl, hset, ZV]
  exact ⟨by rw [hg, hrf], m0⟩
 unfold Z7S Zgm
 rw [Zcx h.at_ (by omega) hn, ZV]
 dsimp only
 by_cases h1 : peek s.us = 46
 ·rw [if_pos h1, if_pos (Z2i h1)]
  have hset := Zig true (L := [((10 : Int), (10 : Int))]) (by simp) (by simp)
  rw [Z84, ZV, show [Z8.mk 10 10] = [((10, 10) : R2)].map ofR from rfl, hset, ZV]
  exact ⟨by rw [hg, hrf], m0⟩
 rw [if_neg h1, if_neg (Z2b h1)]
 by_cases h2 : peek s.us = 94
 ·rw [if_pos h2, if_pos (Z2i h2)]
  exact ⟨by rw [hg, hrf]; rfl, m0⟩
 rw [if_neg h2, if_neg (Z2b h2)]
 by_cases h3 : peek s.us = 36
 ·rw [if_pos h3, if_pos (Z2i h3)]
  exact ⟨by rw [hg, hrf]; rfl, m0⟩
 rw [if_neg h3, if_neg (Z2b h3)]
 by_cases h4 : peek s.us = 92
 ·rw [if_pos h4, if_pos (Z2i h4)]
  have he := ZE0 hnx.at_ hl (by have := hiv.rf; omega) s.pos s.gr d
  rw [hrf] at he
  cases hp : pEsc s.pos (take s) with
  | bad c q =>
   rw [hp] at he
   obtain ⟨hc, n, he⟩ := he
   rw [hrf] at he
   rw [he]
   exact ⟨hc, _, _, _, _, _, show s.rf.length ≤ 1500 by have := h.rf; omega, rfl⟩
  | ok n s' =>
   rw [hp] at he
   obtain ⟨he, e1, e2, e3, e4⟩ := he
   rw [he]
   refine ⟨?_, ⟨e1, by omega, by rw [e3, hg]; exact h.g0, by rw [e3, hg]; exact h.g9, e4⟩⟩
   rw [e3, hg]
   rfl
 rw [if_neg h4, if_neg (Z2b h4)]
 by_cases h5 : peek s.us = 91
 ·rw [if_pos h5, if_pos (Z2i h5)]
  have he := ZyU hnx.at_ hl s.pos s.gr d s.rf
  cases hp : Zh6 s.pos (take s) with
  | bad c q =>
   rw [hp] at he
   obtain ⟨hc, n, he⟩ := he
   rw [he]
   exact ⟨hc, _, _, _, _, _, show s.rf.length ≤ 1500 by have := h.rf; omega, rfl⟩
  | ok n s' =>
   rw [hp] at he
   obtain ⟨he, e1⟩ := he
   rw [he]
   refine ⟨?_, e1.mv hiv⟩
   rw [e1.gr, e1.rf, hg, hrf]
   rfl
 rw [if_neg h5, if_neg (Z2b h5)]
 by_cases h6 : peek s.us = 40
 ·rw [if_pos h6, if_pos (Z2i h6)]
  have he := HP s.pos (take s) hiv
  rw [hg, hrf] at he
  cases hp : P s.pos (take s) with
  | bad c q =>
   rw [hp] at he
   obtain ⟨hc, n, m, g', d', rf', hq, he⟩ := he
   rw [he]
   exact ⟨hc, _, _, _, _, _, hq, rfl⟩
  | ok n s' =>
   rw [hp] at he
   obtain ⟨he, e1⟩ := he
   rw [he]
   exact ⟨rfl, e1⟩
 rw [if_neg h6, if_neg (Z2b h6)]
 by_cases h7 : peek s.us = 42
 ·rw [if_pos (show peek s.us = 42 ∨ peek s.us = 43 ∨ peek s.us = 63 ∨ peek s.us = 123 from .inl h7), if_pos (Z2i h7), if_pos (Z2i h7)]
  exact bad _ _ (by decide)
 rw [if_neg (Z2b h7)]
 by_cases h8 : peek s.us = 43
 ·rw [if_pos (show peek s.us = 42 ∨ peek s.us = 43 ∨ peek s.us = 63 ∨ peek s.us = 123 from .inr (.inl h8)), if_pos (Z2i h8), if_pos (Z2i h8)]
  exact bad _ _ (by decide)
 rw [if_neg (Z2b h8)]
 by_cases h9 : peek s.us = 63
 ·rw [if_pos (show peek s.us = 42 ∨ peek s.us = 43 ∨ peek s.us = 63 ∨ peek s.us = 123 from .inr (.inr (.inl h9))), if_pos (Z2i h9), if_pos (Z2i h9)]
  exact bad _ _ (by decide)
 rw [if_neg (Z2b h9)]
 by_cases h10 : peek s.us = 123
 ·rw [if_pos (show peek s.us = 42 ∨ peek s.us = 43 ∨ peek s.us = 63 ∨ peek s.us = 123 from .inr (.inr (.inr h10))), if_pos (Z2i h10)]
  exact bad _ _ (by decide)
 rw [if_neg (show ¬ (peek s.us = 42 ∨ peek s.us = 43 ∨ peek s.us = 63 ∨ peek s.us = 123) by omega), if_neg (Z2b h10)]
 by_cases h11 : peek s.us = 93
 ·rw [if_pos (show peek s.us = 93 ∨ peek s.us = 125 from .inl h11), if_pos (Z2i h11), if_pos (Z2i h11)]
  exact bad _ _ (by decide)
 rw [if_neg (Z2b h11)]
 by_cases h12 : peek s.us = 125
 ·rw [if_pos (show peek s.us = 93 ∨ peek s.us = 125 from .inr h12), if_pos (Z2i h12)]
  exact bad _ _ (by decide)
 rw [if_neg (show ¬ (peek s.us = 93 ∨ peek s.us = 125) by omega), if_neg (Z2b h12)]
 exact plain
end Go.Proofs.YtocikhhkicahoaaDoor.N2
end
section
namespace Go.Proofs.YtocikhhkicahoaaDoor.N2
open Go Go.Abs Go.Proofs.Unis Go.Proofs.Norm
set_option maxRecDepth 100000
section
variable {l : List UInt8} (hl : l.length ≤ 1000) {d : Int} {P : Int → St → Out (Zk × Bool)} (HP : ∀ p s, Inv l s → AtmR l d s (P p s) (Z4W p (bl l) s.pos s.gr d s.rf 0 0))
theorem ZiF (kids : List Zk) (n : Zk) (h : kids.length ≤ 5000) : lapp kids [n] = some (kids ++ [n]) := by
 unfold lapp
 rw [if_pos (by simp [lim]; omega)]
include hl HP in
theorem ZCg : ∀ (k : Nat) (kids : List Zk) (s : St), Inv l s → s.us.length < k → kids.length + s.us.length ≤ 3000 → AltR l d s (ZdT P k kids s) (Z5C kids (bl l) s.pos s.gr d s.rf 0 0) := by
 intro k
 induction k with
 | zero => intro kids s _ hk; omega
 | succ k ih =>
  intro kids s h hk hb
  have r9 : AltR l d s (.ok (joined 2 kids) s) (Z3z kids s.pos s.gr d s.rf 0 0) := by
   unfold Z3z
   rw [ZhX]
   exact ⟨rfl, (Nx.refl h.at_).mv h⟩
  have r7 : s.us ≠ [] → AltR l d s ((Zgm P s).bind fun m s1 => (pRep m.1 m.2 s1).bind fun n s2 => ZdT P k (kids ++ [n]) s2) (Z4r kids (bl l) s.pos s.gr d s.rf 0 0) := by
   intro hn
   have hlt := ZnN h.at_ hn
   have hiv := ((Z9g h.at_).mv h).inv h
   have ha := ZCf hl HP h hn
   unfold Z4r
   cases hp : Zgm P s with
   | bad c q =>
    rw [hp] at ha
    obtain ⟨hc, n, m, g', d', rf', hq, ha⟩ := ha
    rw [ha, ZV]
    dsimp only
    rw [ZD4 hl, ZV]
    dsimp only
    rw [ZiF _ _ (by omega), ZV, Zoq _ _ _ _ _ _ _ _ hc]
    exact ⟨hc, _, _, _, _, hq, rfl⟩
   | ok n s1 =>
    rw [hp] at ha
    obtain ⟨ha, hm⟩ := ha
    rw [ha, ZV]
    dsimp only [Out.bind]
    have hi1 := hm.inv hiv
    have hr := ZEx hm.at_ hl n.1 n.2 s1.gr d s1.rf
    cases hp2 : pRep n.1 n.2 s1 with
    | bad c q =>
     rw [hp2] at hr
     obtain ⟨hc, n', hr⟩ := hr
     rw [hr, ZV]
     dsimp only
     rw [ZiF _ _ (by omega), ZV, Zoq _ _ _ _ _ _ _ _ hc]
     exact ⟨hc, _, _, _, _, show s1.rf.length ≤ 1500 by have := hi1.rf; omega, rfl⟩
    | ok n' s2 =>
     rw [hp2] at hr
     obtain ⟨hr, hx⟩ := hr
     rw [hr, ZV]
     dsimp only
     rw [ZiF _ _ (by omega), ZV, ← hx.gr, ← hx.rf]
     have h2 := hx.mv hi1
     have := h2.len
     have := hm.len
     exact (ih (kids ++ [n']) s2 (h2.inv hi1) (by omega) (by simp; omega)).from (((Z9g h.at_).mv h).trans (hm.trans h2))
  refine AltR.of (b := Z6N kids (bl l) s.pos s.gr d s.rf 0 0) ?_ fun r e => ?_
  ·unfold Z6N ZdT
   rw [Z9v h.at_, ZV]
   by_cases hn : s.us = []
   ·have hp : peek s.us = -1 := by rw [hn]; rfl
    rw [if_pos (show stops s.us = true by rw [hn]; rfl), if_pos (Z2i hp), if_pos (Z2i hp)]
    exact r9
   have hu : 0 ≤ peek s.us := by
    rcases h.at_.range with ⟨_, h2⟩ | h2
    ·exact absurd h2 hn
    ·omega
   have he : s.us.isEmpty = false := by
    cases hs : s.us with
    | nil => exact absurd hs hn
    | cons a b => rfl
   rw [if_neg (Z2b (show ¬ peek s.us = -1 by omega))]
   by_cases h1 : peek s.us = 124
   ·rw [if_pos (show stops s.us = true by simp [stops, h1]), if_pos (Z2i h1), if_pos (Z2i h1)]
    exact r9
   rw [if_neg (Z2b h1)]
   by_cases h2 : peek s.us = 41
   ·rw [if_pos (show stops s.us = true by simp [stops, h2]), if_pos (Z2i h2)]
    exact r9
   rw [if_neg (show ¬ (stops s.us = true) by simp [stops, he, h1, h2]), if_neg (Z2b h2)]
   exact r7 hn
  ·apply Zcb
   unfold Z6M
   rw [if_pos (by rfl)]
   exact e
include hl HP in
theorem Zwu {s : St} (h : Inv l s) : AltR l d s (pCat P s) (Z6R (bl l) s.pos s.gr d s.rf 0 0) := by
 have := h.rf
 refine AltR.of (ZCg hl HP (s.us.length + 1) [] s h (by omega) (by simp; omega)) fun r e => ?_
 apply Zeq
 unfold Z8k
 exact e
include hl HP in
theorem ZCd : ∀ (k : Nat) (kids : List Zk) (s : St), Inv l s → s.us.length < k → kids.length + s.us.length ≤ 3000 → AltR l d s (ZnK P k kids s) (Z5B kids (bl l) s.pos s.gr d s.rf 0 0) := by
 intro k
 induction k with
 | zero => intro kids s _ hk; omega
 | succ k ih =>
  intro kids s h hk hb
  refine AltR.of (b := Z5w kids (bl l) s.pos s.gr d s.rf 0 0) ?_ fun r e => Zc9 _ _ _ _ _ _ _ _ e
  unfold Z5w ZnK
  cases hw : wd [124] s with
  | none =>
   rw [Z4g w124 h.at_ hl hw, ZV, if_neg (by simp)]
   unfold Z6L
   rw [ZhX]
   exact ⟨rfl, (Nx.refl h.at_).mv h⟩
  | some s1 =>
   obtain ⟨t1, t2, t3⟩ := Z3L w124 h.at_ hl hw
   have m1 := t2.mv h
   rw [t1, ZV, if_pos rfl]
   unfold Z8y
   have hc := Zwu hl HP (m1.inv h)
   rw [t2.gr, t2.rf] at hc
   dsimp only
   cases hp : pCat P s1 with
   | bad c q =>
    rw [hp] at hc
    obtain ⟨hc0, n, g', d', rf', hq, hc⟩ := hc
    rw [hc, ZV]
    dsimp only
    rw [ZiF _ _ (by omega), ZV, Zm5 hl]
    exact ⟨hc0, _, _, _, _, hq, rfl⟩
   | ok n s2 =>
    rw [hp] at hc
    obtain ⟨hc, m2⟩ := hc
    rw [hc, ZV]
    dsimp only
    rw [ZiF _ _ (by omega), ZV]
    have := m2.len
    exact (ih (kids ++ [n]) s2 (m2.inv (m1.inv h)) (by omega) (by simp; omega)).from (m1.trans m2)
include hl HP in
theorem ZsH {s : St} (h : Inv l s) : AltR l d s (Zls P s) (Z4d (bl l) s.pos s.gr d s.rf 0 0) := by
 refine AltR.of (b := Z6K (bl l) s.pos s.gr d s.rf 0 0) ?_ fun r e => Zeo _ _ _ _ _ _ _ e
 unfold Z6K Zls
 have hc := Zwu hl HP h
 cases hp : pCat P s with
 | bad c q =>
  rw [hp] at hc
  obtain ⟨hc0, n, g', d', rf', hq, hc⟩ := hc
  rw [hc, ZV]
  dsimp only
  rw [Zm5 hl]
  exact ⟨hc0, _, _, _, _, hq, rfl⟩
 | ok n s2 =>
  rw [hp] at hc
  obtain ⟨hc, m2⟩ := hc
  rw [hc, ZV]
  have := m2.len
  have := h.rf
  exact (ZCd hl HP (s2.us.length + 1) [n] s2 (m2.inv h) (by omega) (by simp; omega)).from m2
end
theorem ff : ¬ (false = true) := by simp
theorem Zjn {l : List UInt8} {s : St} (h : At l s) (hl : l.length ≤ 1000) {L : List ByteArray} {i : Nat} {b : ByteArray} {w : List Int} (hw : Wd b w) (hL : L[i]? = some b) (hi : i ≤ 100) (e : wd w s = none) : ∀ r, Z2n L (L.length : Int) ((i + 1 : Nat) : Int) (bl l) s.pos = some r → Z2n L (L.length : Int) (i : Int) (bl l) s.pos = some r := by
 intro r hr
 have hlt : i < L.length := (q2_.1 hL).1
 apply Z6b
 unfold Z3q Z3S
 rw [if_pos (Z2f (by omega)), Z4i, hL, ZV, Z4g hw h hl e, ZV, if_neg (by simp)]
 unfold Z4U
 rw [wrap_i64 (by omega) (by omega)]
 exact hr
theorem Zlk {l : List UInt8} {s s1 : St} (h : At l s) (hl : l.length ≤ 1000) {L : List ByteArray} {i : Nat} {b : ByteArray} {w : List Int} (hw : Wd b w) (hL : L[i]? = some b) (e : wd w s = some s1) : Z2n L (L.length : Int) (i : Int) (bl l) s.pos = some ((i : Int), s1.pos) := by
 have hlt : i < L.length := (q2_.1 hL).1
 apply Z6b
 unfold Z3q Z3S
 rw [if_pos (Z2f (by omega)), Z4i, hL, ZV, (Z3L hw h hl e).1, ZV, if_pos rfl]
theorem ZCG (l : List UInt8) (p : Int) (L : List ByteArray) : Z2n L (L.length : Int) (L.length : Int) (bl l) p = some (-1, p) := by
 apply Z6b
 unfold Z3q
 rw [if_neg (Z21 (by omega))]
 rfl
theorem ZBK {l : List UInt8} (hl : l.length ≤ 1000) {d : Int} (hd : 0 ≤ d ∧ d < 32) {A : St → Out Zk} (HA : ∀ s, Inv l s → AltR l (d + 1) s (A s) (Z4d (bl l) s.pos s.gr (d + 1) s.rf 0 0)) (p : Int) (s : St) (h : Inv l s) :
  AtmR l d s (ZmW A p s) (Z4W p (bl l) s.pos s.gr d s.rf 0 0) := by
 have r20 : ∀ (a g : Int) (rf : List Zz) (c q k lo hi m rr : Int) (st : List Z8) (kid : Zk), Z37 a g (d + 1) rf c q k lo hi m rr st kid = some ((if k = 0 then kid else ⟨k, lo, hi, m, rr, st, [kid]⟩), (if k = 0 then true else k != 7), a, g, d, rf, c, q) := by
  intro a g rf c q k lo hi m rr st kid
  unfold Z37 Z5M
  rw [wrap_i64 (n := d + 1 - 1) (by omega) (by omega), show d + 1 - 1 = d by omega]
  by_cases hk : k = 0
  ·rw [if_pos (Z2i hk), if_pos hk, if_pos hk]
  ·rw [if_neg (Z2b hk), if_neg hk, if_neg hk]
 have r20' : ∀ (a g d0 : Int) (rf : List Zz) (c q k lo hi m rr : Int) (st : List Z8) (kid : Zk), ∃ n may d', Z37 a g d0 rf c q k lo hi m rr st kid = some (n, may, a, g, d', rf, c, q) := by
  intro a g d0 rf c q k lo hi m rr st kid
  unfold Z37 Z5M
  by_cases hk : k = 0
  ·exact ⟨_, _, _, by rw [if_pos (Z2i hk)]⟩
  ·exact ⟨_, _, _, by rw [if_neg (Z2b hk)]⟩
 have stop : ∀ (g d0 : Int) (rf : List Zz) (c q k lo hi m rr : Int) (st : List Z8), c ≠ 0 → rf.length ≤ 1500 → AtmR l d s (.bad c q) (Z2t p (bl l) (l.length : Int) g d0 rf c q k lo hi m rr st) := by
  intro g d0 rf c q k lo hi m rr st hc hq
  unfold Z2t
  rw [ZCe hl _ _ _ _ _ hc, ZV]
  dsimp only
  rw [if_neg (Z2b hc)]
  obtain ⟨n, may, d', e⟩ := r20' (l.length : Int) g d0 rf c q k lo hi m rr st nd0
  rw [e]
  exact ⟨hc, _, _, _, _, _, hq, rfl⟩
 have go : ∀ (k m rr : Int) (s1 : St), Mv l s s1 → AtmR l d s ((A s1).bind fun kid s2 => match wd [41] s2 with
   | none => .bad 20 p
   | some s3 => if k = 0 then .ok (kid, true) s3 else .ok (⟨k, 0, 0, m, rr, [], [kid]⟩, k != 7) s3) (Z2t p (bl l) s1.pos s1.gr (d + 1) s1.rf 0 0 k 0 0 m rr []) := by
  intro k m rr s1 hm
  have hi1 := hm.inv h
  have ha := HA s1 hi1
  unfold Z2t
  cases hp : A s1 with
  | bad c q =>
   rw [hp] at ha
   obtain ⟨hc, n, g', d', rf', hq, ha⟩ := ha
   rw [ha, ZV]
   dsimp only
   rw [if_neg (Z2b hc)]
   obtain ⟨n, may, d'', e⟩ := r20' (l.length : Int) g' d' rf' c q k 0 0 m rr [] n
   rw [e]
   exact ⟨hc, _, _, _, _, _, hq, rfl⟩
  | ok n s2 =>
   rw [hp] at ha
   obtain ⟨ha, m2⟩ := ha
   rw [ha, ZV]
   dsimp only [Out.bind]
   rw [if_pos (Z2i rfl)]
   cases hw : wd [41] s2 with
   | none =>
    rw [Z4g w41 m2.at_ hl hw, ZV, if_pos (show (!false) = true from rfl)]
    unfold Z7h
    rw [Z7r, ZV, r20]
    exact ⟨by decide, _, _, _, _, _, show s2.rf.length ≤ 1500 by have := (m2.inv hi1).rf; omega, rfl⟩
   | some s3 =>
    obtain ⟨t1, t2, t3⟩ := Z3L w41 m2.at_ hl hw
    rw [t1, ZV, if_neg (show ¬ ((!true) = true) by simp), r20, ← t2.gr, ← t2.rf]
    have mm := hm.trans (m2.trans (t2.mv (m2.inv hi1)))
    dsimp only
    by_cases hk : k = 0
    ·rw [if_pos hk, if_pos hk, if_pos hk]
     exact ⟨rfl, mm⟩
    ·rw [if_neg hk, if_neg hk, if_neg hk]
     exact ⟨rfl, mm⟩
 refine AtmR.of (b := Z6f p (bl l) s.pos s.gr d s.rf 0 0 0 0 0 0 0 []) ?_ fun r e => ?_
 ·unfold Z6f ZmW ZDJ
  have g9 := h.g9
  have g0 := h.g0
  have lk : ZdR = some [(ByteArray.mk #[63, 61]), (ByteArray.mk #[63, 33]), (ByteArray.mk #[63, 60, 61]), (ByteArray.mk #[63, 60, 33])] := Zow rfl
  rw [lk, ZV, wrap_i64 (n := d + 1) (by omega) (by omega)]
  generalize hL : [(ByteArray.mk #[63, 61]), (ByteArray.mk #[63, 33]), (ByteArray.mk #[63, 60, 61]), (ByteArray.mk #[63, 60, 33])] = L
  have L0 : L[0]? = some (ByteArray.mk #[63, 61]) := by rw [← hL]; rfl
  have L1 : L[1]? = some (ByteArray.mk #[63, 33]) := by rw [← hL]; rfl
  have L2 : L[2]? = some (ByteArray.mk #[63, 60, 61]) := by rw [← hL]; rfl
  have L3 : L[3]? = some (ByteArray.mk #[63, 60, 33]) := by rw [← hL]; rfl
  have Ll : L.length = 4 := by rw [← hL]; rfl
  have idx : ∀ r, Z2n L (L.length : Int) ((0 : Nat) : Int) (bl l) s.pos = some r → Z5I L (bl l) s.pos = some r := by
   intro r e
   apply Ze6
   unfold Z5F
   exact e
  cases hw0 : wd [63, 61] s with
  | some s1 =>
   rw [idx _ (Zlk h.at_ hl wL0 L0 hw0), ZV]
   obtain ⟨t1, t2, t3⟩ := Z3L wL0 h.at_ hl hw0
   have := go 7 0 0 s1 (t2.mv h)
   rw [t2.gr, t2.rf] at this
   exact this
  | none =>
  have i1 := fun r e => idx r (Zjn h.at_ hl wL0 L0 (by omega) hw0 r e)
  cases hw1 : wd [63, 33] s with
  | some s1 =>
   rw [i1 _ (Zlk h.at_ hl wL1 L1 hw1), ZV]
   obtain ⟨t1, t2, t3⟩ := Z3L wL1 h.at_ hl hw1
   have := go 7 1 0 s1 (t2.mv h)
   rw [t2.gr, t2.rf] at this
   exact this
  | none =>
  have i2 := fun r e => i1 r (Zjn h.at_ hl wL1 L1 (by omega) hw1 r e)
  cases hw2 : wd [63, 60, 61] s with
  | some s1 =>
   rw [i2 _ (Zlk h.at_ hl wL2 L2 hw2), ZV]
   obtain ⟨t1, t2, t3⟩ := Z3L wL2 h.at_ hl hw2
   have := go 7 2 0 s1 (t2.mv h)
   rw [t2.gr, t2.rf] at this
   exact this
  | none =>
  have i3 := fun r e => i2 r (Zjn h.at_ hl wL2 L2 (by omega) hw2 r e)
  cases hw3 : wd [63, 60, 33] s with
  | some s1 =>
   rw [i3 _ (Zlk h.at_ hl wL3 L3 hw3), ZV]
   obtain ⟨t1, t2, t3⟩ := Z3L wL3 h.at_ hl hw3
   have := go 7 3 0 s1 (t2.mv h)
   rw [t2.gr, t2.rf] at this
   exact this
  | none =>
  have i4 := i3 _ (Zjn h.at_ hl wL3 L3 (by omega) hw3 _ (by have := ZCG l s.pos L; rw [Ll] at this ⊢; exact this))
  rw [i4, ZV]
  dsimp only
  rw [if_neg (Z21 (show ¬ ((0 : Int) ≤ -1) by decide))]
  cases hw4 : wd [63, 62] s with
  | some s1 =>
   obtain ⟨t1, t2, t3⟩ := Z3L wAt h.at_ hl hw4
   rw [t1, ZV, if_pos rfl]
   have := go 8 0 0 s1 (t2.mv h)
   rw [t2.gr, t2.rf] at this
   exact this
  | none =>
  rw [Z4g wAt h.at_ hl hw4, ZV, if_neg ff]
  dsimp only
  cases hw5 : wd [63, 58] s with
  | some s1 =>
   obtain ⟨t1, t2, t3⟩ := Z3L wNo h.at_ hl hw5
   rw [t1, ZV, if_pos rfl]
   have := go 0 0 0 s1 (t2.mv h)
   rw [t2.gr, t2.rf] at this
   exact this
  | none =>
  rw [Z4g wNo h.at_ hl hw5, ZV, if_neg ff]
  dsimp only
  rw [Z9v h.at_, ZV]
  by_cases h1 : peek s.us = 63
  ·rw [if_pos h1, if_pos (Z2i h1), Z7r, ZV]
   exact stop _ _ _ _ _ _ _ _ _ _ _ (by decide) (by have := h.rf; omega)
  rw [if_neg h1, if_neg (Z2b h1)]
  by_cases h2 : s.gr = 9
  ·rw [if_pos h2, if_pos (Z2i h2), Z7r, ZV]
   exact stop _ _ _ _ _ _ _ _ _ _ _ (by decide) (by have := h.rf; omega)
  rw [if_neg h2, if_neg (Z2b h2), wrap_i64 (n := s.gr + 1) (by omega) (by omega)]
  have mm : Mv l s { s with gr := s.gr + 1 } := ⟨h.at_, Z2H _, by simp only []; omega, by simp only []; omega, Z2H _⟩
  exact go 5 0 (s.gr + 1) { s with gr := s.gr + 1 } mm
 ·apply Zd9
  unfold Z7g
  rw [if_neg (Z2b (show ¬ d = 32 by omega))]
  exact e
theorem ZDV {l : List UInt8} (hl : l.length ≤ 1000) : ∀ (k : Nat) (d : Int), d + k = 32 → 0 ≤ d → ∀ s, Inv l s → AltR l d s (pAlt k s) (Z4d (bl l) s.pos s.gr d s.rf 0 0) := by
 intro k
 induction k with
 | zero =>
  intro d hd h0 s h
  refine ZsH hl (P := fun p _ => .bad 25 p) ?_ h
  intro p s h
  refine ⟨by decide, nd0, true, s.gr, d, s.rf, by have := h.rf; omega, ?_⟩
  apply Zd9
  unfold Z7g
  rw [if_pos (Z2i (show d = 32 by omega)), Z7r]
  rfl
 | succ k ih =>
  intro d hd h0 s h
  exact ZsH hl (P := fun p s => ZmW (pAlt k) p s) (fun p s h => ZBK hl (by omega) (ih (d + 1) (by omega) (by omega)) p s h) h
end Go.Proofs.YtocikhhkicahoaaDoor.N2
end
section
namespace Go.Proofs.YtocikhhkicahoaaDoor.N2
open Go Go.Abs Go.Proofs.Unis Go.Proofs.Norm
set_option maxRecDepth 100000
theorem ZoZ {l : List UInt8} (R : List Zz) (hR : R.length ≤ 2000) (g c q k lo hi m rr : Int) (st : List Z8) (ks : List Zk) (fold : Bool) (hc : c ≠ 0) : ∀ (n i : Nat), i + n = R.length →
  Z80 R (R.length : Int) (i : Int) (bl l) g c q k lo hi m rr st ks fold = some (Zlp, ⟨c, q⟩) := by
 intro n
 induction n with
 | zero =>
  intro i h
  apply Z9G
  unfold Z6y Z8N
  rw [if_neg (Z21 (by omega)), if_pos (Zwq hc)]
  rfl
 | succ n ih =>
  intro i h
  have hil : i < R.length := by omega
  apply Z9G
  unfold Z6y Z8M
  rw [if_pos (Z2f (by omega)), Z4i, q4_ hil, ZV]
  have r13 : Z5f R (R.length : Int) (i : Int) (bl l) g c q k lo hi m rr st ks fold = some (Zlp, ⟨c, q⟩) := by
   unfold Z5f
   rw [wrap_i64 (by omega) (by omega)]
   exact ih (i + 1) (by omega)
  by_cases hg : g < R[i].group
  ·rw [if_pos (Z2f hg), ZrY _ _ _ _ _ hc, ZV]
   exact r13
  ·rw [if_neg (Z21 hg)]
   exact r13
theorem ZEv {l : List UInt8} (R : List Zz) (hR : R.length ≤ 2000) (g k lo hi m rr : Int) (st : List Z8) (ks : List Zk) (fold : Bool) : ∀ (n i : Nat), i + n = R.length →
  Z80 R (R.length : Int) (i : Int) (bl l) g 0 0 k lo hi m rr st ks fold = some (match (R.drop i).find? (fun x => decide (g < x.group)) with
   | some x => (Zlp, ⟨26, x.at_⟩)
   | none => (⟨⟨k, lo, hi, m, rr, st, ks⟩, g, fold⟩, ⟨0, 0⟩)) := by
 intro n
 induction n with
 | zero =>
  intro i h
  rw [Zeb (by omega)]
  apply Z9G
  unfold Z6y Z8N
  rw [if_neg (Z21 (by omega)), if_neg (Zwp rfl)]
  rfl
 | succ n ih =>
  intro i h
  have hil : i < R.length := by omega
  apply Z9G
  unfold Z6y Z8M
  rw [if_pos (Z2f (by omega)), Z4i, q4_ hil, ZV, Zfa hil, List.find?_cons]
  by_cases hg : g < R[i].group
  ·rw [if_pos (Z2f hg), Z7r, ZV]
   simp only [hg, decide_true]
   unfold Z5f
   rw [wrap_i64 (by omega) (by omega)]
   exact ZoZ R hR g 26 _ k lo hi m rr st ks fold (by decide) n (i + 1) (by omega)
  ·rw [if_neg (Z21 hg)]
   simp only [hg, decide_false]
   unfold Z5f
   rw [wrap_i64 (by omega) (by omega)]
   exact ih (i + 1) (by omega)
theorem wFo : Wd (ByteArray.mk #[40, 63, 105, 41]) [40, 63, 105, 41] := ⟨[40, 63, 105, 41], rfl, rfl, by decide, by decide, by decide⟩
def ZdJ (x : ByteArray) : Z1d × Z14 :=
 if 256 < x.data.toList.length then (Zlp, ⟨12, 0⟩) else ZmX (unis x.data.toList)
theorem Zwv {l : List UInt8} (hl : l.length ≤ 1000) (fold : Bool) {s : St} (h : Inv l s) (hg : s.gr = 0) (hrf : s.rf = []) :
  ((Z4d (bl l) s.pos 0 0 [] 0 0).bind fun r2 =>
   if ((r2.2.2.2.2.2.1 == 0)) = true then
   (if ((decide (r2.2.1 < ((bl l).length : Int)))) = true then
   (Z9h (bl l) r2.2.1 r2.2.2.1 r2.2.2.2.2.1 r2.2.2.2.2.2.1 r2.2.2.2.2.2.2 r2.1.Kind r2.1.Lo r2.1.Hi r2.1.Mode r2.1.Ref r2.1.Set r2.1.Kids fold)
   else
   (Z4T (bl l) r2.2.2.1 r2.2.2.2.2.1 r2.2.2.2.2.2.1 r2.2.2.2.2.2.2 r2.1.Kind r2.1.Lo r2.1.Hi r2.1.Mode r2.1.Ref r2.1.Set r2.1.Kids fold))
   else
   (Z4T (bl l) r2.2.2.1 r2.2.2.2.2.1 r2.2.2.2.2.2.1 r2.2.2.2.2.2.2 r2.1.Kind r2.1.Lo r2.1.Hi r2.1.Mode r2.1.Ref r2.1.Set r2.1.Kids fold)) = some (pEnd fold (pAlt 32 s)) := by
 have ha := ZDV hl 32 0 (by omega) (by omega) s h
 rw [hg, hrf] at ha
 cases hp : pAlt 32 s with
 | bad c q =>
  rw [hp] at ha
  obtain ⟨hc, n, g', d', rf', hq, ha⟩ := ha
  rw [ha, ZV]
  dsimp only
  rw [if_neg (Z2b hc)]
  unfold Z4T pEnd
  exact ZoZ (l := l) rf' (by omega) g' c q n.Kind n.Lo n.Hi n.Mode n.Ref n.Set n.Kids fold hc rf'.length 0 (by omega)
 | ok n s2 =>
  rw [hp] at ha
  obtain ⟨ha, hm⟩ := ha
  have hi := hm.inv h
  have hR := hi.rf
  rw [ha, ZV]
  dsimp only
  rw [if_pos (Z2i rfl), Zc2]
  unfold Z9h Z4T pEnd
  by_cases hn : s2.us = []
  ·have hpos := hm.at_.nil.1 hn
   rw [if_neg (Z21 (by omega))]
   dsimp only
   rw [if_neg (ZqF hn)]
   have := ZEv (l := l) s2.rf (by omega) s2.gr n.Kind n.Lo n.Hi n.Mode n.Ref n.Set n.Kids fold s2.rf.length 0 (by omega)
   rw [ZoV, show (⟨n.Kind, n.Lo, n.Hi, n.Mode, n.Ref, n.Set, n.Kids⟩ : Zk) = n by cases n; rfl] at this
   exact this
  ·have hpos : s2.pos < (l.length : Int) := by
    have h1 := hm.at_.len
    have : s2.pos ≠ l.length := fun e => hn (hm.at_.nil.2 e)
    omega
   rw [if_pos (Z2f hpos), Z7r, ZV]
   dsimp only
   rw [if_pos hn]
   exact ZoZ (l := l) s2.rf (by omega) s2.gr 20 _ n.Kind n.Lo n.Hi n.Mode n.Ref n.Set n.Kids fold (by decide) s2.rf.length 0 (by omega)
theorem ZBL (x : ByteArray) : ZdQ x = some (ZdJ x) := by
 apply Zou
 unfold ZdM ZdJ
 have hsz : x.size = x.data.toList.length := rfl
 by_cases h : 256 < x.data.toList.length
 ·rw [if_pos (Z2f (by rw [hsz]; omega)), if_pos h]
  rfl
 ·rw [if_neg (Z21 (by rw [hsz]; omega)), if_neg h]
  unfold Zbc ZmX
  rw [ZyQ]
  generalize x.data.toList = l at h ⊢
  have hat : At l ⟨unis l, 0, 0, []⟩ := ⟨0, by omega, rfl, rfl⟩
  have hi : Inv l ⟨unis l, 0, 0, []⟩ := ⟨hat, by simp, by simp, by have := hat.len; simp only [] at this; simp; omega⟩
  cases hw : wd [40, 63, 105, 41] ⟨unis l, 0, 0, []⟩ with
  | none =>
   have := Z4g wFo hat (by omega) hw
   dsimp only at this
   rw [this, ZV]
   exact Zwv (by omega) false hi rfl rfl
  | some s1 =>
   obtain ⟨t1, t2, t3⟩ := Z3L wFo hat (by omega) hw
   dsimp only at t1
   rw [t1, ZV]
   exact Zwv (by omega) true ((t2.mv hi).inv hi) t2.gr t2.rf
end Go.Proofs.YtocikhhkicahoaaDoor.N2
end
