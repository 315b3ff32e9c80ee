/- The program's parser is the plain function. No condition. -/
import Derived.Test.YtocikhhkicahoaaDoorPlainA
import Derived.Test.YtocikhhkicahoaaDoorTypB
import Derived.Test.YtocikhhkicahoaaDoorTypC

set_option linter.unusedSimpArgs false
set_option linter.unusedVariables false
set_option linter.defProp false
section
namespace Go.Proofs.YtocikhhkicahoaaDoor.N2
open Go Go.Abs Go.Proofs.Unis Go.Proofs.Norm
set_option maxRecDepth 100000
theorem ZBV {a b : ByteArray} : seq a b = true ↔ a = b := by
 unfold seq
 rw [← beq_toListBytes]
 obtain ⟨⟨x⟩⟩ := a
 obtain ⟨⟨y⟩⟩ := b
 show ((⟨x⟩ : Array UInt8) == ⟨y⟩) = true ↔ _
 simp
theorem Z44 {α : Type} (l : List α) (i : Nat) : lget l (i : Int) = l[i]? := by simp [lget]
def bl (l : List UInt8) : List Int := l.map fun b => (b.toNat : Int)
theorem Zc5 (l : List UInt8) : (bl l).length = l.length := by simp [bl]
theorem ZyX (x : ByteArray) : Z4c x = bl x.data.toList := rfl
theorem ZEy (l : List UInt8) : strI (bl l) = ⟨l.toArray⟩ := by
 unfold strI bl
 rw [ZoL]
 have : (fun n : Int => UInt8.ofNat n.toNat) ∘ (fun b : UInt8 => (b.toNat : Int)) = id := by
  funext b
  simp
 rw [this, List.map_id]
theorem ZBu (l : List UInt8) (i j : Nat) (h : i ≤ j) (hj : j ≤ l.length) : lsl (bl l) (i : Int) (j : Int) = some (bl ((l.drop i).take (j - i))) := by
 unfold lsl
 rw [if_pos (by rw [Zc5]; omega)]
 simp only [Int.toNat_natCast, bl, ← Zvu, ← List.map_drop, List.drop_take]
theorem Zxa (l : List UInt8) (h : l ≠ []) : Z8Z (bl l) = some (((Lib.decodeGo ⟨l.toArray⟩).1 : Int), ((Lib.decodeGo ⟨l.toArray⟩).2 : Int)) := by
 refine Z1l (fun _ _ ha hb => RRun.uniq Zgt (ha .sh) (hb .sh)) fun o => ?_
 have e : EE 76 [(.p (.lst o ((bl l).map (eI .u8))))] [] = some ((.p (.tup [(.v (.int .i32 (Lib.decodeGo ⟨l.toArray⟩).1)), (.v (.int .i64 (Lib.decodeGo ⟨l.toArray⟩).2))])), []) := by
  rw [show EE 76 = E PP XX HH 76 from rfl, Zsl (P := PP) (X := XX) (H := HH) (f := 76) (m := ZnJ) (by kernel_rfl)]
  have hb : (bl l).map (eI .u8) = l.map fun b => .v (.int .u8 b.toNat) := by
   unfold bl
   rw [ZoL]
   rfl
  rw [hb]
  cases l with
  | nil => exact absurd rfl h
  | cons a r =>
   show (Zgu ((a :: r).map fun b => .v (.int .u8 b.toNat))).map _ = _
   rw [Zp2]
   rfl
 exact ⟨_, e, [], by simp⟩
theorem Zva (l : List UInt8) (i : Nat) (h : i < l.length) : ZdR (bl l) (i : Int) = some ((U (l.drop i)).1, ((U (l.drop i)).2 : Int)) := by
 have hne : l.drop i ≠ [] := by
  intro e
  have := congrArg List.length e
  simp at this
  omega
 apply Zrx
 unfold Zgj
 rw [if_neg (by simp), if_neg (by simp [Zc5]; omega)]
 unfold ZcO
 have hl : lsl (bl l) (i : Int) ((bl l).length : Int) = some (bl (l.drop i)) := by
  rw [Zc5, ZBu l i l.length (by omega) (Z2A _), Zvm (by simp)]
 rw [hl, q0_, Zxa _ hne, q0_]
 have hd := ZEI hne
 have hU : U (l.drop i) = ZbH (nth (l.drop i) 0) (Lib.decodeGo ⟨(l.drop i).toArray⟩) := by
  rw [hd]; rfl
 have h0 : nth (l.drop i) 0 = (l.getD i 0).toNat := by simp [nth]
 have hg : lget (bl l) (i : Int) = some (((l.getD i 0).toNat : Nat) : Int) := by
  rw [Z44, bl, q8_, Z9v, q4_ h]
  rfl
 have hlt : (l.getD i 0).toNat < 256 := UInt8.toNat_lt _
 have hb := (Zsi ⟨(l.drop i).toArray⟩).1
 rw [hU, ZbH]
 simp only [beq_iff_eq]
 have r6 : Z9b ((Lib.decodeGo ⟨(l.drop i).toArray⟩).1 : Int) ((Lib.decodeGo ⟨(l.drop i).toArray⟩).2 : Int) = some (((Lib.decodeGo ⟨(l.drop i).toArray⟩).1 : Int), ((Lib.decodeGo ⟨(l.drop i).toArray⟩).2 : Int)) := by
  unfold Z9b
  rw [wrap_i64 (by omega) (by omega)]
 by_cases h1 : (Lib.decodeGo ⟨(l.drop i).toArray⟩).1 = 65533
 ·rw [if_pos (by omega)]
  by_cases h2 : (Lib.decodeGo ⟨(l.drop i).toArray⟩).2 = 1
  ·rw [if_pos (by omega), if_pos ⟨h1, h2⟩]
   unfold ZcP
   rw [hg, q0_, wrap_i64 (n := ((l.getD i 0).toNat : Int)) (by omega) (by omega), wrap_i64 (by omega) (by omega), h0]
   rfl
  ·rw [if_neg (by omega), if_neg (fun h => h2 h.2), r6]
 ·rw [if_neg (by omega), if_neg (fun h => h1 h.1), r6]
def At (l : List UInt8) (s : St) : Prop := ∃ i : Nat, i ≤ l.length ∧ s.pos = (i : Int) ∧ s.us = unis (l.drop i)
theorem At.nil {l : List UInt8} {s : St} (h : At l s) : s.us = [] ↔ s.pos = l.length := by
 obtain ⟨i, h1, h2, h3⟩ := h
 rw [h3, h2]
 constructor
 ·intro e
  by_cases hn : l.drop i = []
  ·have := congrArg List.length hn
   simp at this
   omega
  ·rw [Zhc hn] at e
   simp at e
 ·intro e
  rw [Zg6 (by omega)]
  rfl
theorem At.len {l : List UInt8} {s : St} (h : At l s) : s.us.length ≤ l.length ∧ 0 ≤ s.pos ∧ s.pos ≤ l.length := by
 obtain ⟨i, h1, h2, h3⟩ := h
 have := ZvM _ (l.drop i) (Z2A _)
 rw [ZoP] at this
 rw [h3]
 omega
theorem At.cons {l : List UInt8} {s : St} (h : At l s) (hn : s.us ≠ []) : ∃ (i : Nat), i < l.length ∧ s.pos = (i : Int) ∧ peek s.us = (U (l.drop i)).1 ∧ (take s).pos = (i : Int) + ((U (l.drop i)).2 : Int) ∧ (take s).us = unis (l.drop (i + (U (l.drop i)).2)) ∧ i + (U (l.drop i)).2 ≤ l.length ∧ s.us.length = (take s).us.length + 1 := by
 have hp : s.pos ≠ l.length := fun e => hn (h.nil.2 e)
 obtain ⟨i, h1, h2, h3⟩ := h
 have hi : i < l.length := by omega
 have hne : l.drop i ≠ [] := by
  intro e
  have := congrArg List.length e
  simp at this
  omega
 have hz := ZEH hne
 rw [ZoP] at hz
 rw [Zhc hne] at h3
 refine ⟨i, hi, h2, by rw [h3]; rfl, ?_, ?_, by omega, ?_⟩
 ·unfold take
  rw [h3]
  show s.pos + _ = _
  rw [h2]
 ·unfold take
  rw [h3]
  show unis _ = _
  rw [ZD8]
 ·unfold take
  rw [h3]
  rfl
theorem At.take {l : List UInt8} {s : St} (h : At l s) : At l (take s) := by
 by_cases hn : s.us = []
 ·have : N2.take s = s := by unfold N2.take; rw [hn]
  rw [this]
  exact h
 ·obtain ⟨i, h1, h2, h3, h4, h5, h6, h7⟩ := h.cons hn
  exact ⟨i + (U (l.drop i)).2, h6, by rw [h4]; omega, h5⟩
theorem At.range {l : List UInt8} {s : St} (h : At l s) : peek s.us = -1 ∧ s.us = [] ∨ 0 ≤ peek s.us ∧ peek s.us ≤ 1114367 ∧ s.us ≠ [] := by
 by_cases hn : s.us = []
 ·exact .inl ⟨by rw [hn]; rfl, hn⟩
 ·obtain ⟨i, _, _, h3, _⟩ := h.cons hn
  have := ZDT (l.drop i)
  exact .inr ⟨by omega, by omega, hn⟩
theorem Z9u {l : List UInt8} {s : St} (h : At l s) (g d : Int) (rf : List Zz) (f : Z17) : Z2F ⟨bl l, s.pos, g, d, rf, f⟩ = some (peek s.us) := by
 apply ZjL
 unfold Z9C
 by_cases hn : s.us = []
 ·have := h.nil.1 hn
  rw [if_pos (by simp [Zc5]; omega), hn]
  rfl
 ·obtain ⟨i, h1, h2, h3, _⟩ := h.cons hn
  rw [if_neg (by simp [Zc5]; omega)]
  unfold Z81
  simp only [h2]
  rw [Zva l i h1, q0_, h3]
theorem ZcD {l : List UInt8} {s : St} (h : At l s) (hl : l.length ≤ 100000) (hn : s.us ≠ []) : Z3m (bl l) s.pos = some (peek s.us, (take s).pos) := by
 obtain ⟨i, h1, h2, h3, h4, h5, h6, _⟩ := h.cons hn
 apply ZjM
 unfold Z9D
 rw [h2, Zva l i h1, q0_, h3, h4, wrap_i64 (by omega) (by omega)]
theorem Zwz : ∀ (w : List Int) (us t : List Un), isW w us = some t → us.length = t.length + w.length
 | [], us, t, h => by
  simp only [isW, q1_] at h
  subst h
  rfl
 | c :: w, [], t, h => by simp [isW] at h
 | c :: w, (u, n) :: us, t, h => by
  simp only [isW] at h
  split at h
  ·have := Zwz w us t h
   simp only [q5_]
   omega
  ·simp at h
theorem ZrX : ∀ (w : List UInt8) (l : List UInt8), (∀ c ∈ w, c.toNat < 128) → isW (bl w) (unis l) = if l.take w.length = w then some (unis (l.drop w.length)) else none
 | [], l, _ => by simp [bl, isW]
 | c :: w, [], _ => by simp [bl, isW, ZoW]
 | c :: w, x :: l, hw => by
  have hc := hw c (Zao ..)
  have hc' : c.toNat < 128 := hc
  show (isW ((c.toNat : Int) :: bl w) (unis (x :: l))) = _
  by_cases hx : x.toNat < 128
  ·rw [ZyK hx]
   simp only [isW, q5_, ZyF, List.drop_succ_cons, Zlx]
   by_cases he : x = c
   ·subst he
    simp only [if_true, true_and]
    exact ZrX w l fun d hd => hw d (ZbJ _ hd)
   ·have : ¬ ((x.toNat : Int) = (c.toNat : Int)) := fun e => he (UInt8.toNat_inj.1 (by omega))
    rw [if_neg this, if_neg (fun e => he e.1)]
  ·have hU := ZEG (c := x) (l := l) (by omega)
   rw [Zhc (by simp)]
   simp only [isW, q5_, ZyF, Zlx]
   rw [if_neg (by omega), if_neg (fun e => by rw [e.1] at hx; omega)]
theorem ZvO {l : List UInt8} {s : St} (h : At l s) (hl : l.length ≤ 100000) (w : List UInt8) (hw : ∀ c ∈ w, c.toNat < 128) (hwl : w.length ≤ 100) :
  Z1J ⟨w.toArray⟩ (bl l) s.pos = some (match wd (bl w) s with | some s1 => (true, s1.pos) | none => (false, s.pos)) ∧ ∀ s1, wd (bl w) s = some s1 → At l s1 ∧ s.us.length = s1.us.length + w.length ∧ s1.gr = s.gr ∧ s1.rf = s.rf := by
 obtain ⟨i, h1, h2, h3⟩ := h
 have hW := ZrX w (l.drop i) hw
 have hsz : (⟨w.toArray⟩ : ByteArray).size = w.length := by show w.toArray.size = _; simp
 have hwd : wd (bl w) s = if (l.drop i).take w.length = w then some { s with us := unis ((l.drop i).drop w.length), pos := s.pos + w.length } else none := by
  unfold wd
  rw [h3, hW]
  by_cases hc : (l.drop i).take w.length = w
  ·rw [if_pos hc, if_pos hc]
   simp only [Zc5]
  ·rw [if_neg hc, if_neg hc]
 have hlen : (l.drop i).take w.length = w → i + w.length ≤ l.length := by
  intro e
  have := congrArg List.length e
  simp at this
  omega
 constructor
 ·apply ZjN
  unfold Z9E
  rw [hwd, h2, Zc5, hsz, wrap_i64 (n := (l.length : Int) - i) (by omega) (by omega), wrap_i64 (n := (i : Int) + (w.length : Int)) (by omega) (by omega)]
  by_cases hk : i + w.length ≤ l.length
  ·rw [if_neg (by simp; omega), show (i : Int) + (w.length : Int) = ((i + w.length : Nat) : Int) by omega, ZBu l i _ (by omega) hk, q0_, ZEy, Nat.add_sub_cancel_left]
   by_cases hc : (l.drop i).take w.length = w
   ·rw [if_pos hc, hc, if_neg (by simp [ZBV])]
    unfold Z83
    rw [hsz, wrap_i64 (by omega) (by omega)]
    simp
   ·have hs : seq ⟨((l.drop i).take w.length).toArray⟩ ⟨w.toArray⟩ = false := by
     cases hq : seq ⟨((l.drop i).take w.length).toArray⟩ ⟨w.toArray⟩ with
     | false => rfl
     | true =>
      have := ZBV.1 hq
      exact absurd (by simpa using congrArg (fun x : ByteArray => x.data.toList) this) hc
    rw [if_neg hc, hs, if_pos (by rfl)]
    rfl
  ·rw [if_pos (by simp; omega), if_neg (fun e => hk (hlen e))]
   rfl
 ·intro s1 e
  rw [hwd] at e
  split at e
  ·rename_i hc
   cases e
   have hk := hlen hc
   rw [if_pos hc] at hW
   have := Zwz _ _ _ hW
   rw [Zc5] at this
   exact ⟨⟨i + w.length, hk, by simp only [h2]; omega, by simp only [ZD8]⟩, by rw [h3]; exact this, rfl, rfl⟩
  ·simp at e
theorem Z6C (c p : Int) (l : List UInt8) : Z1f c p (bl l) 0 0 = some ((l.length : Int), c, p) := by
 apply ZdM
 unfold Z7L
 rw [if_pos (by rfl)]
 unfold Z5c
 rw [Zc5]
theorem ZrR (c p c0 p0 : Int) (l : List UInt8) (h : c0 ≠ 0) : Z1f c p (bl l) c0 p0 = some ((l.length : Int), c0, p0) := by
 apply ZdM
 unfold Z7L
 rw [if_neg (by simpa using h)]
 unfold Z5c
 rw [Zc5]
theorem Z7W (u : Int) : Z2w u = some ⟨u, u⟩ := Zrt _ rfl
theorem Zi0 (k : Int) (l : List Z9) : ZaO k l = some (joined k l) := by
 apply ZnP
 unfold ZcK
 match l with
 | [] => rfl
 | [x] => rfl
 | x :: y :: r =>
  rw [if_neg (by simp; omega), if_neg (by simp; omega)]
  rfl
end Go.Proofs.YtocikhhkicahoaaDoor.N2
end
section
namespace Go.Proofs.Norm
def AscF (a : Int) : List R2 → Prop
 | [] => True
 | r :: t => (0 ≤ r.1 ∧ r.1 ≤ r.2 ∧ r.2 ≤ 1114367) ∧ a + 2 ≤ r.1 ∧ AscF r.2 t
def ZmK (a : Int) : List R2 → Int
 | [] => a
 | r :: t => ZmK r.2 t
theorem Zlj (a : Int) : ∀ (l : List R2) (r : R2), ZmK a (l ++ [r]) = r.2
 | [], r => rfl
 | x :: l, r => Zlj x.2 l r
theorem Zof : ∀ (l : List R2) (a : Int) (r : R2), AscF a (l ++ [r]) ↔ AscF a l ∧ (0 ≤ r.1 ∧ r.1 ≤ r.2 ∧ r.2 ≤ 1114367) ∧ ZmK a l + 2 ≤ r.1
 | [], a, r => by simp [AscF, ZmK]
 | x :: l, a, r => by
  simp only [ZcA, AscF, ZmK, Zof l x.2 r]
  constructor
  ·rintro ⟨h1, h2, h3, h4⟩; exact ⟨⟨h1, h2, h3⟩, h4⟩
  ·rintro ⟨⟨h1, h2, h3⟩, h4⟩; exact ⟨h1, h2, h3, h4⟩
theorem Desc.asc : ∀ {l : List R2}, Desc l → AscF (-2) l.reverse
 | [], _ => trivial
 | [r], h => by
  have h : 0 ≤ r.1 ∧ r.1 ≤ r.2 ∧ r.2 ≤ 1114367 := h
  exact ⟨h, by omega, trivial⟩
 | r :: o :: os, h => by
  rw [Zn0, Zof]
  refine ⟨h.2.2.asc, h.1, ?_⟩
  rw [Zn0, Zlj]
  exact h.2.1
theorem AscF.norm : ∀ {l : List R2}, AscF (-2) l.reverse → Desc l
 | [], _ => trivial
 | [r], h => h.1
 | r :: o :: os, h => by
  rw [Zn0, Zof] at h
  refine ⟨h.2.1, ?_, h.1.norm⟩
  have := h.2.2
  rw [Zn0, Zlj] at this
  exact this
theorem Zbn {l : List R2} : Z2R l ↔ AscF (-2) l := by
 unfold Z2R
 constructor
 ·intro h
  have := h.asc
  rwa [List.reverse_reverse] at this
 ·intro h
  apply AscF.norm
  rwa [List.reverse_reverse]
theorem AscF.mono : ∀ {l : List R2} {a a' : Int}, AscF a l → a' ≤ a → AscF a' l
 | [], _, _, _, _ => trivial
 | r :: t, a, a', h, hl => ⟨h.1, by have := h.2.1; omega, h.2.2⟩
theorem AscF.right : ∀ {l : List R2} {a : Int}, AscF a l → ∀ r ∈ l, 0 ≤ r.1 ∧ r.1 ≤ r.2 ∧ r.2 ≤ 1114367
 | [], _, _, r, hr => by simp at hr
 | x :: t, a, h, r, hr => by
  rcases Z5C.1 hr with rfl | hr
  ·exact h.1
  ·exact h.2.2.right r hr
theorem AscF.len : ∀ {l : List R2} {a : Int}, AscF a l → l ≠ [] → a + 2 * (l.length : Int) ≤ 1114367
 | [], _, _, hn => absurd rfl hn
 | [r], a, h, _ => by
  have := h.1
  have := h.2.1
  simp only [q5_, q9_]
  omega
 | r :: o :: t, a, h, _ => by
  have := h.1
  have := h.2.1
  have := h.2.2.len (by simp)
  simp only [q5_] at *
  omega
theorem Zd6 {l : List R2} (h : Z2R l) : l.length ≤ 557185 := by
 by_cases hn : l = []
 ·subst hn; simp
 ·have := (Zbn.1 h).len hn
  omega
theorem Z8f {l : List R2} (h : Z2R l) : ∀ r ∈ l, 0 ≤ r.1 ∧ r.1 ≤ r.2 ∧ r.2 ≤ 1114367 := (Zbn.1 h).right
end Go.Proofs.Norm
namespace Go.Proofs.YtocikhhkicahoaaDoor.N2
open Go Go.Abs Go.Proofs.Unis Go.Proofs.Norm
set_option maxRecDepth 100000
theorem ZoE : ∀ (l : List R2) (at_ a : Int), 0 ≤ at_ → a + 2 ≤ at_ → AscF (at_ - 2) l → AscF a (notL at_ l)
 | [], at_, a, h0, ha, _ => by
  unfold notL
  split
  ·exact ⟨⟨h0, by assumption, by simp⟩, ha, trivial⟩
  ·trivial
 | r :: t, at_, a, h0, ha, h => by
  have h1 := h.1
  have h2 := h.2.1
  unfold notL
  split
  ·exact ⟨⟨h0, by simp only []; omega, by simp only []; omega⟩, ha, ZoE t _ _ (by omega) (by simp only []; omega) (h.2.2.mono (by omega))⟩
  ·exact ZoE t _ _ (by omega) (by omega) (h.2.2.mono (by omega))
theorem Zo9 {l : List R2} (h : Z2R l) : Z2R (notF l) :=
 Zbn.2 (ZoE l 0 (-2) (by omega) (by omega) (Zbn.1 h))
theorem Zsb (r : R2) : Z7M (ofR r) = some (decide (0 ≤ r.1 ∧ r.1 ≤ r.2 ∧ r.2 ≤ 1114367)) := by
 apply ZjB
 unfold Z9x
 simp only [ofR]
 by_cases h1 : 0 ≤ r.1
 ·by_cases h2 : r.1 ≤ r.2
  ·simp [h1, h2]
   exact decide_eq_decide.2 Iff.rfl
  ·simp [h1, h2]
 ·simp [h1]
theorem ZkB (rs : List R2) : (rs.map ofR).map Zv = rs.map encR := by
 rw [ZoL]
 rfl
theorem Zgr : ∀ rs : List R2, Zd9 (rs.map encR) = some rs
 | [] => rfl
 | r :: t => by
  rw [Z9w, Zd9, Zgr t]
  rfl
theorem Zi4 (rs : List R2) (hl : rs.length ≤ 1048576) (hr : ∀ r ∈ rs, 0 ≤ r.1 ∧ r.1 ≤ r.2 ∧ r.2 ≤ 1114367) : ZaN (rs.map ofR) = some ((Z5B rs).map ofR) := by
 refine Z1l (fun _ _ ha hb => RRun.uniq Zb6 (ha .sh) (hb .sh)) fun o => ?_
 have e : EE 25 [(.p (.lst o ((rs.map ofR).map Zv)))] [] = some ((.p (.lst .sh (((Z5B rs).map ofR).map Zv))), []) := by
  rw [show EE 25 = E PP XX HH 25 from rfl, Zsl (P := PP) (X := XX) (H := HH) (f := 25) (m := ZkS) (by kernel_rfl), ZkB, ZkB]
  unfold ZkS
  simp only [Zgr]
  rw [if_pos ⟨hl, hr⟩]
 exact ⟨_, e, [], by simp⟩
theorem Zp7 (a b : List R2) (hl : a.length + b.length ≤ 1048576) : ZaV [a.map ofR, b.map ofR] = some ((a ++ b).map ofR) := by
 refine Z1l (fun _ _ ha hb => RRun.uniq Zb6 (ha .sh) (hb .sh)) fun o => ?_
 have e : EE 57 [(.p (.lst o ([a.map ofR, b.map ofR].map (eL Zv))))] [] = some ((.p (.lst .sh (((a ++ b).map ofR).map Zv))), []) := by
  rw [show EE 57 = E PP XX HH 57 from rfl, Zsl (P := PP) (X := XX) (H := HH) (f := 57) (m := ZkR) (by kernel_rfl), ZkB]
  have h1 : [a.map ofR, b.map ofR].map (eL Zv) = [.lst .sh (a.map encR), .lst .sh (b.map encR)] := by
   simp only [Z9w, Zfh, eL, ZkB]
  rw [h1]
  unfold ZkR
  simp only [ZkA, Zgr, Z92, List.flatten_cons, List.flatten_nil, ZjR]
  rw [if_pos ⟨by simp, by rw [q3_]; exact hl⟩]
 exact ⟨_, e, [], by simp⟩
theorem ZrC {rs : List R2} {i : Nat} (h : i < rs.length) : lget (rs.map ofR) (i : Int) = some (ofR rs[i]) := by
 rw [Z44, q8_, q4_ h]
 rfl
theorem Zsj (L : List R2) (hl : L.length ≤ 1000000) : ∀ (d i : Nat) (a : Int), i + d = L.length → -2 ≤ a → a ≤ 1114367 → AscF a (L.drop i) → Z6O a (L.map ofR) (L.length : Int) (i : Int) = some true := by
 intro d
 induction d with
 | zero =>
  intro i a h _ _ _
  apply Zca
  unfold Z6G
  rw [if_neg (by simp; omega)]
  rfl
 | succ d ih =>
  intro i a h ha ha2 hA
  have hi : i < L.length := by omega
  rw [Zg7 hi] at hA
  have h1 := hA.1
  have h2 := hA.2.1
  apply Zca
  unfold Z6G Z8m
  rw [if_pos (by simp; omega), ZrC hi, q0_, Zsb, q0_, if_neg (by simp; omega), wrap_i64 (n := a + 2) (by omega) (by omega), if_neg (by rw [decide_eq_true_eq]; show ¬ (L[i].1 < a + 2); omega)]
  unfold Z8o Z8p
  rw [wrap_i64 (by omega) (by omega)]
  exact ih (i + 1) _ (by omega) (by simp only [ofR]; omega) (by simp only [ofR]; omega) hA.2.2
theorem Z9q {L : List R2} (h : Z2R L) : Z4N (L.map ofR) = some true := by
 apply Zkk
 unfold Za0
 rw [Zbq]
 have := Zd6 h
 exact Zsj L (by omega) L.length 0 (-2) (by omega) (by omega) (by omega) (Zbn.1 h)
theorem ZCV (L : List R2) (hl : L.length ≤ 1000000) (hr : ∀ r ∈ L, 0 ≤ r.1 ∧ r.1 ≤ r.2 ∧ r.2 ≤ 1114367) : ∀ (d i : Nat) (acc : List R2) (a : Int), i + d = L.length → acc.length ≤ i → 0 ≤ a → a ≤ 1114368 → Z8d (acc.map ofR) a (L.map ofR) (L.length : Int) (i : Int) = some ((acc ++ notL a (L.drop i)).map ofR) := by
 intro d
 induction d with
 | zero =>
  intro i acc a h hacc ha ha2
  rw [Zg6 (by omega)]
  apply Zer
  unfold Z88
  rw [if_neg (by simp; omega)]
  unfold Z9B notL
  by_cases hc : a ≤ 1114367
  ·rw [if_pos (by simpa using hc), if_pos hc]
   unfold lapp
   rw [if_pos (by simp [lim]; omega)]
   unfold Z6t
   simp [ofR]
  ·rw [if_neg (by simpa using hc), if_neg hc]
   unfold Z6t
   simp
 | succ d ih =>
  intro i acc a h hacc ha ha2
  have hi : i < L.length := by omega
  have h1 := hr L[i] (ZmU hi)
  rw [Zg7 hi]
  apply Zer
  unfold Z88 Za2
  rw [if_pos (by simp; omega), ZrC hi, q0_]
  unfold notL
  have r8 : ∀ acc' : List R2, acc'.length ≤ i + 1 → Z6H (acc'.map ofR) (L.map ofR) (L.length : Int) (i : Int) (ofR L[i]) = some ((acc' ++ notL (L[i].2 + 1) (L.drop (i + 1))).map ofR) := by
   intro acc' hacc'
   unfold Z6H Za3
   rw [show (ofR L[i]).Hi = L[i].2 from rfl, wrap_i64 (n := L[i].2 + 1) (by omega) (by omega), wrap_i64 (n := (i : Int) + 1) (by omega) (by omega)]
   exact ih (i + 1) acc' _ (by omega) hacc' (by omega) (by omega)
  by_cases hc : a < L[i].1
  ·rw [if_pos (decide_eq_true (show a < (ofR L[i]).Lo from hc)), if_pos hc]
   unfold lapp
   rw [if_pos (by simp [lim]; omega), q0_, show (ofR L[i]).Lo = L[i].1 from rfl, wrap_i64 (n := L[i].1 - 1) (by omega) (by omega)]
   have := r8 (acc ++ [(a, L[i].1 - 1)]) (by simp; omega)
   rw [ZiU] at this
   rw [show List.map ofR [(a, L[i].1 - 1)] = [Z8.mk a (L[i].1 - 1)] from rfl] at this
   rw [this, Z9O]
   rfl
  ·rw [if_neg (by rw [decide_eq_true_eq]; exact hc), if_neg hc]
   exact r8 acc (by omega)
theorem ZwF {L : List R2} (h : Z2R L) : Za9 (L.map ofR) = some ((notF L).map ofR, 0) := by
 apply Zmv
 unfold ZbN
 rw [Z9q h, q0_, if_neg (by simp)]
 unfold Za1
 have : ZbV (L.map ofR) = some ((notF L).map ofR) := by
  apply Zmx
  unfold ZbO
  rw [Zbq]
  have := Zd6 h
  have := ZCV L (by omega) (Z8f h) L.length 0 [] 0 (by omega) (by simp) (by omega) (by omega)
  simpa [notF] using this
 rw [this]
 rfl
theorem ZyM (L : List R2) (hl : L.length ≤ 1000000) (hr : ∀ r ∈ L, 0 ≤ r.1 ∧ r.1 ≤ r.2 ∧ r.2 ≤ 1114367) : ∀ (d i : Nat), i + d = L.length → Z42 (L.map ofR) (L.length : Int) (i : Int) = some (-1) := by
 intro d
 induction d with
 | zero =>
  intro i h
  apply Z8P
  unfold Z40
  rw [if_neg (by simp; omega)]
  rfl
 | succ d ih =>
  intro i h
  have hi : i < L.length := by omega
  have h1 := hr L[i] (ZmU hi)
  apply Z8P
  unfold Z40 Z58
  have hm : ZcR (ofR L[i]) = some false := by
   apply ZnM
   unfold ZcH
   rw [Zsb]
   simp [h1]
  rw [if_pos (by simp; omega), ZrC hi, q0_, hm, q0_, if_neg (by simp)]
  unfold Z59
  rw [wrap_i64 (by omega) (by omega)]
  exact ih (i + 1) (by omega)
theorem ZCT {L : List R2} (hl : L.length ≤ 1000000) (hr : ∀ r ∈ L, 0 ≤ r.1 ∧ r.1 ≤ r.2 ∧ r.2 ≤ 1114367) : ZeX (L.map ofR) = some ((Z5B L).map ofR, 0) := by
 have h1 : Z6f (L.map ofR) = some (-1) := by
  apply ZeO
  unfold Z69
  rw [Zbq]
  exact ZyM L hl hr L.length 0 (by omega)
 have h2 : Z5b (L.map ofR) = some false := by
  apply Zdq
  unfold Z56
  rw [h1]
  rfl
 apply Zqd
 unfold ZeQ
 rw [h2, q0_, if_neg (by simp)]
 unfold ZbL
 rw [Zi4 L (by omega) hr]
 rfl
theorem Zik (no : Bool) {L : List R2} (hl : L.length ≤ 1000000) (hr : ∀ r ∈ L, 0 ≤ r.1 ∧ r.1 ≤ r.2 ∧ r.2 ≤ 1114367) : Z3Y no (L.map ofR) = some (setN (setR no L)) := by
 apply Zru
 unfold Zgh
 rw [ZCT hl hr, q0_]
 cases no with
 | false => rfl
 | true =>
  rw [if_pos rfl, ZwF (Zfd hr).1]
  rfl
theorem ZbG (no : Bool) {L : List R2} (hr : ∀ r ∈ L, 0 ≤ r.1 ∧ r.1 ≤ r.2 ∧ r.2 ≤ 1114367) : Z2R (setR no L) := by
 unfold setR
 split
 ·exact Zo9 (Zfd hr).1
 ·exact (Zfd hr).1
theorem Zi3 {r : R2} (h : 0 ≤ r.1 ∧ r.1 ≤ r.2 ∧ r.2 ≤ 1114367) : Z2R [r] := Zbn.2 ⟨h, by omega, trivial⟩
theorem ZBS {a s : List R2} (ha : Z2R a) (hs : Z2R s) (hl : s.length ≤ 100000) : Z6v (s.map ofR) (a.map ofR) = some ((Z5B (a ++ s)).map ofR) := by
 have hla := Zd6 ha
 have hr : ∀ r ∈ a ++ s, 0 ≤ r.1 ∧ r.1 ≤ r.2 ∧ r.2 ≤ 1114367 := by
  intro r h
  rcases Z9P.1 h with h | h
  ·exact Z8f ha r h
  ·exact Z8f hs r h
 have h1 : Z9c (a.map ofR) (s.map ofR) = some ((Z5B (a ++ s)).map ofR, 0) := by
  apply Zhv
  unfold ZaH
  rw [Z9q ha, q0_, if_neg (by simp), Z9q hs, q0_, if_neg (by simp)]
  unfold Z8F
  rw [Zp7 a s (by omega), q0_, Zi4 _ (by rw [q3_]; omega) hr]
  rfl
 apply ZhP
 unfold Z80
 rw [h1]
 rfl
theorem fold_len : ∀ (l acc : List R2), (l.foldl Z2K acc).length ≤ acc.length + l.length
 | [], acc => by simp
 | r :: t, acc => by
  have h1 := fold_len t (Z2K acc r)
  have h2 : (Z2K acc r).length ≤ acc.length + 1 := by
   unfold Z2K
   split
   ·split
    ·simp
    ·simp
   ·simp
  rw [Zdz, q5_]
  omega
theorem ZBB (l : List R2) : (Z5B l).length ≤ l.length := by
 have h1 := fold_len (Zbm l) []
 have h2 := (Z90 l).length_eq
 unfold Z5B
 rw [List.length_reverse]
 simp only [q9_] at h1
 omega
theorem Zvc : ∀ (l : List R2) (a : Int), (notL a l).length ≤ l.length + 1
 | [], a => by
  unfold notL
  split
  ·simp
  ·simp
 | r :: t, a => by
  have := Zvc t (r.2 + 1)
  unfold notL
  split
  ·simp only [q5_]; omega
  ·simp only [q5_]; omega
theorem ZDd (no : Bool) (l : List R2) : (setR no l).length ≤ l.length + 1 := by
 have h1 := ZBB l
 have h2 := Zvc (Z5B l) 0
 unfold setR notF
 split
 ·omega
 ·omega
theorem Zha {a s : List R2} (ha : Z2R a) (hs : Z2R s) : Z2R (Z5B (a ++ s)) :=
 (Zfd (by
  intro r h
  rcases Z9P.1 h with h | h
  ·exact Z8f ha r h
  ·exact Z8f hs r h)).1
end Go.Proofs.YtocikhhkicahoaaDoor.N2
end
section
namespace Go.Proofs.YtocikhhkicahoaaDoor.N2
open Go Go.Abs Go.Proofs.Unis Go.Proofs.Norm
set_option maxRecDepth 100000
theorem Z1L {a b : Int} (h : a = b) : (a == b) = true := by simpa using h
theorem Z1R {a b : Int} (h : ¬ a = b) : ¬ ((a == b) = true) := by simpa using h
theorem Zwn {a b : Int} (h : ¬ a = b) : (a != b) = true := by simpa using h
theorem Zwm {a b : Int} (h : a = b) : ¬ ((a != b) = true) := by simpa using h
theorem Z1Q {c : Prop} [Decidable c] (h : c) : decide c = true := decide_eq_true h
theorem Z2a {c : Prop} [Decidable c] (h : ¬ c) : ¬ (decide c = true) := by simpa using h
theorem Zqy {α : Type} {a b : α} (h : a = b) : ¬ (a ≠ b) := fun k => k h
structure Nx (l : List UInt8) (s s' : St) : Prop where
 at_ : At l s'
 len : s'.us.length ≤ s.us.length
 gr : s'.gr = s.gr
 rf : s'.rf = s.rf
theorem Nx.trans {l : List UInt8} {s s' s'' : St} (h : Nx l s s') (h' : Nx l s' s'') : Nx l s s'' :=
 ⟨h'.at_, Zhr h'.len h.len, h'.gr.trans h.gr, h'.rf.trans h.rf⟩
theorem Z7X {l : List UInt8} {s : St} (h : At l s) : Nx l s (take s) := by
 refine ⟨h.take, ?_, ?_, ?_⟩
 all_goals unfold take; split
 ·exact Z2A _
 ·rename_i h1
  rw [h1]
  simp
 all_goals rfl
theorem ZkN {l : List UInt8} {s : St} (h : At l s) (hn : s.us ≠ []) : s.us.length = (take s).us.length + 1 := by
 obtain ⟨_, _, _, _, _, _, _, h7⟩ := h.cons hn
 exact h7
theorem Znb (u : Int) : Z7A u = some (if short u = [] then .nl else .ex, (short u).map ofR) := by
 apply Zl9
 by_cases h1 : u = 100
 ·subst h1; simp [Z3X, short, ofR, Z7W]
 by_cases h2 : u = 68
 ·subst h2; simp [Z3X, short, ofR, Z7W]
 by_cases h3 : u = 119
 ·subst h3; simp [Z3X, short, ofR, Z7W]
 by_cases h4 : u = 87
 ·subst h4; simp [Z3X, short, ofR, Z7W]
 by_cases h5 : u = 115
 ·subst h5; simp [Z3X, short, ofR, Z7W]
 by_cases h6 : u = 83
 ·subst h6; simp [Z3X, short, ofR, Z7W]
 simp [Z3X, Z32, short, h1, h2, h3, h4, h5, h6]
theorem ZjT (u : Int) : (short u).length ≤ 1000 ∧ ∀ r ∈ short u, 0 ≤ r.1 ∧ r.1 ≤ r.2 ∧ r.2 ≤ 1114367 := by
 unfold short
 repeat' split
 all_goals simp
theorem Zwx (u : Int) (h1 : -1 ≤ u) (h2 : u ≤ 1114367) : ZdL u = some (hexF u) := by
 apply Zrs
 unfold Zgg ZcI ZaI ZcJ ZaJ hexF
 rw [wrap_i64 (n := u - 48) (by omega) (by omega), wrap_i64 (n := u - 97) (by omega) (by omega), wrap_i64 (n := u - 97 + 10) (by omega) (by omega)]
 by_cases a : 48 ≤ u
 ·by_cases b : u ≤ 57
  ·simp [a, b]
  ·by_cases c : 97 ≤ u
   ·by_cases d : u ≤ 102
    ·simp [a, b, c, d]
    ·simp [a, b, c, d]
   ·simp [a, b, c]
 ·have c : ¬ 97 ≤ u := by omega
  simp [a, c]
theorem ZhZ (u : Int) : -1 ≤ hexF u ∧ hexF u ≤ 15 := by
 unfold hexF
 repeat' split
 all_goals omega
theorem ZCH (L : List Z8) (u : Int) (hl : L.length ≤ 1000000) : ∀ (d i : Nat), i + d = L.length →
  ∃ k : Int, Z41 L (L.length : Int) (i : Int) u = some k ∧ (0 ≤ k ↔ (L.drop i).any (fun r => decide (r.Lo ≤ u) && decide (u ≤ r.Hi)) = true) := by
 intro d
 induction d with
 | zero =>
  intro i h
  refine ⟨-1, ?_, ?_⟩
  ·apply Z6l
   unfold Z3u
   rw [if_neg (by simp; omega)]
   rfl
  ·rw [Zg6 (by omega)]
   simp
 | succ d ih =>
  intro i h
  have hi : i < L.length := by omega
  have hm : ZaB L[i] u = some (decide (L[i].Lo ≤ u) && decide (u ≤ L[i].Hi)) := by
   apply Zl4
   unfold Zav
   by_cases a : L[i].Lo ≤ u
   ·simp [a]
   ·simp [a]
  rw [Zg7 hi, List.any_cons]
  cases hc : (decide (L[i].Lo ≤ u) && decide (u ≤ L[i].Hi)) with
  | true =>
   refine ⟨(i : Int), ?_, by simp⟩
   apply Z6l
   unfold Z3u Z3Z
   rw [if_pos (by simp; omega), Z44, q4_ hi, q0_, hm, hc]
   rfl
  | false =>
   obtain ⟨k, h1, h2⟩ := ih (i + 1) (by omega)
   refine ⟨k, ?_, by rw [Bool.false_or]; exact h2⟩
   apply Z6l
   unfold Z3u Z3Z
   rw [if_pos (by simp; omega), Z44, q4_ hi, q0_, hm, hc, q0_, if_neg (by simp)]
   unfold Z57
   rw [wrap_i64 (by omega) (by omega)]
   exact h1
theorem Zrz (L : List Z8) (u : Int) (hl : L.length ≤ 1000000) : Z7o L u = some (L.any (fun r => decide (r.Lo ≤ u) && decide (u ≤ r.Hi))) := by
 obtain ⟨k, h1, h2⟩ := ZCH L u hl L.length 0 (by omega)
 have e1 : Z6e L u = some k := by
  apply ZeM
  unfold Z68
  exact h1
 have e2 : Z5a L u = some (decide (0 ≤ k)) := by
  apply Zdo
  unfold Z55
  rw [e1]
  rfl
 apply Zmu
 unfold ZbM
 rw [e2]
 rw [ZrG] at h2
 show some _ = some _
 congr 1
 cases hb : L.any (fun r => decide (r.Lo ≤ u) && decide (u ≤ r.Hi)) with
 | true => rw [hb] at h2; simpa using h2
 | false => rw [hb] at h2; simpa using h2
theorem ZyQ (u : Int) : Z7o [⟨48, 57⟩, ⟨65, 90⟩, ⟨97, 122⟩] u = some (Zsp u) := by
 rw [Zrz _ _ (by simp)]
 congr 1
 simp [Zsp, Bool.or_assoc]
theorem ZoH {l : List UInt8} {s s' : St} {u p v : Int} (h : At l s) (hu : 0 ≤ u ∧ u ≤ 1114367) (e : Z8R u p s = .ok v s') : Nx l s s' ∧ 0 ≤ v ∧ v ≤ 1114367 := by
 have n0 : Nx l s s := ⟨h, Z2A _, rfl, rfl⟩
 have ha := ZhZ (peek s.us)
 have hb := ZhZ (peek (take s).us)
 unfold Z8R at e
 split at e
 ·cases e; exact ⟨n0, by omega, by omega⟩
 split at e
 ·cases e; exact ⟨n0, by omega, by omega⟩
 split at e
 ·cases e; exact ⟨n0, by omega, by omega⟩
 split at e
 ·split at e
  ·split at e
   ·cases e; exact ⟨(Z7X h).trans (Z7X h.take), by omega, by omega⟩
   ·simp at e
  ·simp at e
 split at e
 ·cases e; exact ⟨n0, hu⟩
 ·simp at e
theorem Zs7 {s : St} {u p c q : Int} (e : Z8R u p s = .bad c q) : c ≠ 0 := by
 unfold Z8R at e
 repeat' split at e
 all_goals first | (simp at e; done) | (cases e; simp)
theorem Zs8 {l : List UInt8} {s : St} (h : At l s) (hl : l.length ≤ 1000) (u p g d : Int) (rf : List Zz) :
  Z7p u p (bl l) s.pos g d rf 0 0 = some (match Z8R u p s with | .ok v s' => (v, s'.pos, 0, 0) | .bad c q => (0, (l.length : Int), c, q)) := by
 have bad : Z3a p (bl l) 0 0 = some (0, (l.length : Int), 21, p) := by
  unfold Z3a
  rw [Z6C]
  rfl
 apply Zje
 unfold Z8W Z8R
 by_cases h1 : u = 110
 ·simp [h1]
 by_cases h2 : u = 116
 ·simp [h2]
 by_cases h3 : u = 114
 ·simp [h3]
 by_cases h4 : u = 120
 ·subst h4
  have hr := h.range
  have hr2 := h.take.range
  have ha := ZhZ (peek s.us)
  have hb := ZhZ (peek (take s).us)
  rw [if_neg (by simp), if_neg (by simp), if_neg (by simp), if_pos (by simp), if_neg (by simp), if_neg (by simp), if_neg (by simp), if_pos rfl, Z9u h, q0_, Zwx _ (by omega) (by omega), q0_]
  by_cases h5 : 0 ≤ hexF (peek s.us)
  ·have hn : s.us ≠ [] := by
    intro e
    rw [e] at h5
    simp [peek, hexF] at h5
   rw [if_pos (by simpa using h5), if_pos h5, ZcD h (by omega) hn, q0_]
   simp only []
   rw [Z9u h.take, q0_, Zwx _ (by omega) (by omega), q0_]
   by_cases h6 : 0 ≤ hexF (peek (take s).us)
   ·have hn2 : (take s).us ≠ [] := by
     intro e
     rw [e] at h6
     simp [peek, hexF] at h6
    rw [if_pos (by simpa using h6), if_pos h6, ZcD h.take (by omega) hn2, q0_, wrap_i64 (n := 16 * hexF (peek s.us)) (by omega) (by omega), wrap_i64 (by omega) (by omega)]
   ·rw [if_neg (by simpa using h6), if_neg h6, bad]
  ·rw [if_neg (by simpa using h5), if_neg h5, bad]
 ·rw [if_neg (by simpa using h1), if_neg (by simpa using h2), if_neg (by simpa using h3), if_neg (by simpa using h4), if_neg h1, if_neg h2, if_neg h3, if_neg h4]
  by_cases h5 : 32 < u
  ·by_cases h6 : u < 127
   ·rw [if_pos (by simpa using h5), if_pos (by simpa using h6), ZyQ, q0_]
    cases h7 : Zsp u with
    | true => rw [if_neg (by simp), bad, if_neg (by simp)]
    | false =>
     rw [if_pos (by rfl), if_pos ⟨h5, h6, rfl⟩]
     rfl
   ·rw [if_pos (by simpa using h5), if_neg (by simpa using h6), bad, if_neg (fun e => h6 e.2.1)]
  ·rw [if_neg (by simpa using h5), bad, if_neg (fun e => h5 e.1)]
def EscR (l : List UInt8) (s : St) (o : Out Z9) (r : Option (Z9 × Int × List Zz × Int × Int)) : Prop :=
 match o with
 | .ok n s' => r = some (n, s'.pos, s'.rf, 0, 0) ∧ At l s' ∧ s'.us.length < s.us.length ∧ s'.gr = s.gr ∧ s'.rf.length + s'.us.length ≤ s.rf.length + s.us.length
 | .bad c q => c ≠ 0 ∧ ∃ n, r = some (n, (l.length : Int), s.rf, c, q)
theorem Zqz {α β : Type} {f : α → β} {l : List α} (h : l ≠ []) : nilO Own.ex (l.map f) = some false := by
 cases l with
 | nil => exact absurd rfl h
 | cons x r => rfl
theorem ZE1 {l : List UInt8} {s : St} (h : At l s) (hl : l.length ≤ 1000) (hrf : s.rf.length ≤ 2000) (p g d : Int) : EscR l s (pEsc p s) (Z4B p (bl l) s.pos g d s.rf 0 0) := by
 have top : ∀ r, Z5E p (bl l) s.pos g d s.rf 0 0 = some r → Z4B p (bl l) s.pos g d s.rf 0 0 = some r := fun r e => Ziz _ _ _ _ _ _ _ _ e
 unfold pEsc
 by_cases hn : s.us = []
 ·rw [if_pos hn]
  refine ⟨by simp, nd0, top _ ?_⟩
  unfold Z5E
  rw [Z9u h, q0_, hn, if_pos (by rfl), Z6C]
  rfl
 ·rw [if_neg hn]
  have hr := h.range
  have hu : 0 ≤ peek s.us ∧ peek s.us ≤ 1114367 := by
   rcases hr with ⟨_, h2⟩ | h2
   ·exact absurd h2 hn
   ·omega
  have hnx := Z7X h
  have hlt := ZkN h hn
  have tk := ZcD h (by omega) hn
  have top5 : ∀ r, Z3x p (peek s.us) (bl l) s.pos g d s.rf 0 0 = some r → Z4B p (bl l) s.pos g d s.rf 0 0 = some r := by
   intro r e
   refine top r ?_
   unfold Z5E
   rw [Z9u h, q0_, if_neg (by simp; omega)]
   exact e
  have hrf' : (take s).rf = s.rf := hnx.rf
  by_cases hs : short (peek s.us) = []
  ·rw [if_neg (by simp [hs])]
   have r5 : Z3x p (peek s.us) (bl l) s.pos g d s.rf 0 0 = (if ((peek s.us == 98)) = true then
 (some ((Z9.mk 9 0 0 0 2 ([] : List Z8) ([] : List Z9)), (take s).pos, s.rf, 0, 0))
 else
 (if ((peek s.us == 66)) = true then
 (some ((Z9.mk 9 0 0 0 3 ([] : List Z8) ([] : List Z9)), (take s).pos, s.rf, 0, 0))
 else
 (if ((decide (49 ≤ peek s.us))) = true then
 (if ((decide (peek s.us ≤ 57))) = true then
 (Z5s p (peek s.us) (take s).pos s.rf 0 0)
 else
 (Z3o p (peek s.us) (bl l) (take s).pos g d s.rf 0 0))
 else
 (Z3o p (peek s.us) (bl l) (take s).pos g d s.rf 0 0)))) := by
    unfold Z3x
    rw [tk, q0_, Znb, q0_, hs]
    rfl
   have r15 : EscR l s ((Z8R (peek s.us) p (take s)).bind fun v s2 => .ok (setN (setR false [(v, v)])) s2) (Z3o p (peek s.us) (bl l) (take s).pos g d s.rf 0 0) := by
    unfold Z3o
    rw [Zs8 h.take hl]
    cases hp : Z8R (peek s.us) p (take s) with
    | ok v s2 =>
     obtain ⟨a, b, c⟩ := ZoH h.take hu hp
     have hset := Zik false (L := [(v, v)]) (by simp) (by simp; omega)
     refine ⟨?_, a.at_, ?_, a.gr.trans hnx.gr, ?_⟩
     ·simp only [q0_, Z7W]
      rw [show [Z8.mk v v] = [((v, v) : R2)].map ofR from rfl, hset, q0_, a.rf, hrf']
     ·have := a.len; omega
     ·have := a.len; rw [a.rf, hrf']; omega
    | bad c q =>
     have hc := Zs7 hp
     have hset := Zik false (L := [((0 : Int), (0 : Int))]) (by simp) (by simp)
     refine ⟨hc, setN (setR false [(0, 0)]), ?_⟩
     simp only [q0_, Z7W]
     rw [show [Z8.mk 0 0] = [((0, 0) : R2)].map ofR from rfl, hset, q0_]
   have lift : ∀ o, EscR l s o (Z3x p (peek s.us) (bl l) s.pos g d s.rf 0 0) → EscR l s o (Z4B p (bl l) s.pos g d s.rf 0 0) := by
    intro o ho
    cases o with
    | ok n s' => exact ⟨top5 _ ho.1, ho.2⟩
    | bad c q => obtain ⟨hc, n, hn⟩ := ho; exact ⟨hc, n, top5 _ hn⟩
   apply lift
   rw [r5]
   by_cases h1 : peek s.us = 98
   ·rw [if_pos h1, if_pos (Z1L h1)]
    exact ⟨by rw [hrf']; rfl, h.take, by omega, hnx.gr, by rw [hrf']; omega⟩
   by_cases h2 : peek s.us = 66
   ·rw [if_neg h1, if_pos h2, if_neg (Z1R h1), if_pos (Z1L h2)]
    exact ⟨by rw [hrf']; rfl, h.take, by omega, hnx.gr, by rw [hrf']; omega⟩
   rw [if_neg h1, if_neg h2, if_neg (Z1R h1), if_neg (Z1R h2)]
   by_cases h3 : 49 ≤ peek s.us
   ·by_cases h4 : peek s.us ≤ 57
    ·rw [if_pos ⟨h3, h4⟩, if_pos (Z1Q h3), if_pos (Z1Q h4)]
     refine ⟨?_, ?_, by show (take s).us.length < _; omega, hnx.gr, by show (s.rf ++ [_]).length + (take s).us.length ≤ _; rw [q3_]; simp; omega⟩
     ·unfold Z5s lapp
      rw [if_pos (by simp [lim]; omega), wrap_i64 (n := peek s.us - 48) (by omega) (by omega)]
      rfl
     ·exact h.take
    ·rw [if_neg (show ¬ (49 ≤ peek s.us ∧ peek s.us ≤ 57) from fun e => h4 e.2), if_pos (Z1Q h3), if_neg (Z2a h4)]
     exact r15
   ·rw [if_neg (show ¬ (49 ≤ peek s.us ∧ peek s.us ≤ 57) from fun e => h3 e.1), if_neg (Z2a h3)]
    exact r15
  ·rw [if_pos hs]
   obtain ⟨q1, q2⟩ := ZjT (peek s.us)
   refine ⟨top5 _ ?_, h.take, by omega, hnx.gr, by rw [hrf']; omega⟩
   unfold Z3x
   rw [tk, q0_, Znb, q0_, if_neg hs]
   have hno : nilO Own.ex ((short (peek s.us)).map ofR) = some false := Zqz hs
   dsimp only
   rw [hno, q0_, if_pos (show (!false) = true from rfl), q0_]
   dsimp only
   rw [Zik _ (by omega) q2, q0_, hrf']
def MemR (l : List UInt8) (s : St) (o : Out (Int × List R2 × Bool)) (r : Option (Int × (Own × List Z8) × Bool × Int × Int × Int)) : Prop :=
 match o with
 | .ok m s' => r = some (m.1, (if m.2.1 = [] then .nl else .ex, m.2.1.map ofR), m.2.2, s'.pos, 0, 0) ∧ Nx l s s' ∧ s'.us.length < s.us.length ∧ (0 ≤ m.1 ∧ m.1 ≤ 1114367) ∧ m.2.1.length ≤ 1000 ∧ ∀ r ∈ m.2.1, 0 ≤ r.1 ∧ r.1 ≤ r.2 ∧ r.2 ≤ 1114367
 | .bad c q => c ≠ 0 ∧ r = some (0, (.nl, []), false, (l.length : Int), c, q)
theorem ZnE {l : List UInt8} {s : St} (h : At l s) (hl : l.length ≤ 1000) (hn : s.us ≠ []) (g d : Int) (rf : List Zz) : MemR l s (pMem s) (Z5J (bl l) s.pos g d rf 0 0) := by
 have top : ∀ o, MemR l s o (Z6N (bl l) s.pos g d rf 0 0) → MemR l s o (Z5J (bl l) s.pos g d rf 0 0) := by
  intro o ho
  cases o with
  | ok m s' => exact ⟨Zch _ _ _ _ _ _ _ ho.1, ho.2⟩
  | bad c q => exact ⟨ho.1, Zch _ _ _ _ _ _ _ ho.2⟩
 apply top
 have hr := h.range
 have hu : 0 ≤ peek s.us ∧ peek s.us ≤ 1114367 := by
  rcases hr with ⟨_, h2⟩ | h2
  ·exact absurd h2 hn
  ·omega
 have hnx := Z7X h
 have hlt := ZkN h hn
 unfold Z6N pMem
 rw [ZcD h (by omega) hn, q0_]
 by_cases h1 : peek s.us = 92
 ·rw [if_neg (Zwm h1), if_neg (Zqy h1)]
  unfold Z7a
  dsimp only
  rw [Z9u h.take, q0_]
  by_cases hn2 : (take s).us = []
  ·rw [if_pos hn2, if_pos (Z1Q (show peek (take s).us < 0 by rw [hn2]; decide)), Z6C]
   exact ⟨by simp, rfl⟩
  ·have hr2 := h.take.range
   have hu2 : 0 ≤ peek (take s).us ∧ peek (take s).us ≤ 1114367 := by
    rcases hr2 with ⟨_, h2⟩ | h2
    ·exact absurd h2 hn2
    ·omega
   have hnx2 := Z7X h.take
   have hlt2 := ZkN h.take hn2
   rw [if_neg hn2, if_neg (Z2a (show ¬ peek (take s).us < 0 by omega))]
   unfold Z7b
   rw [ZcD h.take (by omega) hn2, q0_, Znb, q0_]
   by_cases hs : short (peek (take s).us) = []
   ·rw [if_pos hs, if_neg (Zqy hs), hs]
    show MemR l s _ (Z5t (peek (take s).us) s.pos (bl l) (take (take s)).pos g d rf 0 0)
    unfold Z5t
    rw [Zs8 h.take.take hl]
    cases hp : Z8R (peek (take s).us) s.pos (take (take s)) with
    | ok v s2 =>
     obtain ⟨a, b, c⟩ := ZoH h.take.take hu2 hp
     exact ⟨rfl, (hnx.trans hnx2).trans a, by have := a.len; omega, ⟨b, c⟩, by simp, by simp⟩
    | bad c q => exact ⟨Zs7 hp, rfl⟩
   ·obtain ⟨q1, q2⟩ := ZjT (peek (take s).us)
    rw [if_neg hs, if_pos hs]
    have hno := Zqz (f := ofR) hs
    exact ⟨by simp only [if_neg hs]; rw [show shrO Own.ex = Own.ex from rfl, hno]; rfl, hnx.trans hnx2, by omega, by simp, q1, q2⟩
 ·rw [if_pos (Zwn h1), if_pos h1]
  exact ⟨rfl, hnx, by omega, hu, by simp, by simp⟩
theorem ZBW (c : Prop) [Decidable c] : shrO (if c then Own.nl else Own.ex) = if c then Own.nl else Own.ex := by
 split <;> rfl
theorem ZBX : shrO Own.nl = Own.nl := rfl
structure Wd (b : ByteArray) (w : List Int) : Prop where
 ex : ∃ v : List UInt8, b = ⟨v.toArray⟩ ∧ w = bl v ∧ (∀ c ∈ v, c.toNat < 128) ∧ v.length ≤ 100 ∧ v ≠ []
theorem Z4l {l : List UInt8} {s : St} {b : ByteArray} {w : List Int} (hw : Wd b w) (h : At l s) (hl : l.length ≤ 1000) (e : wd w s = none) : Z1J b (bl l) s.pos = some (false, s.pos) := by
 obtain ⟨v, rfl, rfl, h1, h2, _⟩ := hw.ex
 rw [(ZvO h (by omega) v h1 h2).1, e]
theorem Z2u {l : List UInt8} {s s1 : St} {b : ByteArray} {w : List Int} (hw : Wd b w) (h : At l s) (hl : l.length ≤ 1000) (e : wd w s = some s1) : Z1J b (bl l) s.pos = some (true, s1.pos) ∧ Nx l s s1 ∧ s1.us.length < s.us.length := by
 obtain ⟨v, rfl, rfl, h1, h2, h3⟩ := hw.ex
 obtain ⟨a, b⟩ := ZvO h (by omega) v h1 h2
 obtain ⟨b1, b2, b3, b4⟩ := b s1 e
 have : v.length ≠ 0 := fun e => h3 (Zhp e)
 exact ⟨by rw [a, e], ⟨b1, by omega, b3, b4⟩, by omega⟩
theorem w45 : Wd (ByteArray.mk #[45]) [45] := ⟨[45], rfl, rfl, by decide, by decide, by decide⟩
theorem w94 : Wd (ByteArray.mk #[94]) [94] := ⟨[94], rfl, rfl, by decide, by decide, by decide⟩
def ClsR (l : List UInt8) (s : St) (o : Out Z9) (r : Option (Z9 × Int × Int × Int)) : Prop :=
 match o with
 | .ok n s' => r = some (n, s'.pos, 0, 0) ∧ Nx l s s'
 | .bad c q => c ≠ 0 ∧ ∃ n, r = some (n, (l.length : Int), c, q)
theorem ClsR.from {l : List UInt8} {s s1 : St} {o : Out Z9} {r : Option (Z9 × Int × Int × Int)} (h : ClsR l s1 o r) (hn : Nx l s s1) : ClsR l s o r := by
 cases o with
 | ok n s' => exact ⟨h.1, hn.trans h.2⟩
 | bad c q => exact h
theorem ZhB (p : Int) (no : Bool) (x8 : Int) (b : List Int) (a g d : Int) (rf : List Zz) (c q : Int) (all : List Z8) (hc : c ≠ 0) : Z1W p no x8 b a g d rf c q all = some (nd0, a, c, q) := by
 unfold Z1W
 apply Zbt
 unfold Z6i
 rw [if_neg (by simpa using hc)]
 rfl
theorem Zp6 {l : List UInt8} (hl : l.length ≤ 1000) (p : Int) (no : Bool) (g d : Int) (rf : List Zz) : ∀ (k : Nat) (fst : Bool) (all : List R2) (s : St) (x8 : Int), At l s → Z2R all → s.us.length < k → (fst = true ↔ x8 = 0) → 0 ≤ x8 → x8 + s.us.length ≤ 5000 →
  ClsR l s (Z5h p no k fst all s) (Z43 p no x8 (bl l) s.pos g d rf 0 0 (all.map ofR)) := by
 intro k
 induction k with
 | zero => intro fst all s x8 _ _ hk; omega
 | succ k ih =>
  intro fst all s x8 h hall hk hf h0 hb
  have top : ∀ o, ClsR l s o (Z4Q p no x8 (bl l) s.pos g d rf 0 0 (all.map ofR)) → ClsR l s o (Z43 p no x8 (bl l) s.pos g d rf 0 0 (all.map ofR)) := by
   intro o ho
   have e : ∀ r, Z4Q p no x8 (bl l) s.pos g d rf 0 0 (all.map ofR) = some r → Z43 p no x8 (bl l) s.pos g d rf 0 0 (all.map ofR) = some r := by
    intro r e
    apply Zbt
    unfold Z6i
    rw [if_pos (by rfl)]
    exact e
   cases o with
   | ok n s' => exact ⟨e _ ho.1, ho.2⟩
   | bad c q => obtain ⟨hc, n, hn⟩ := ho; exact ⟨hc, n, e _ hn⟩
  have next : ∀ (all' : List R2) (s1 : St), Nx l s s1 → s1.us.length < s.us.length → Z2R all' → ClsR l s (Z5h p no k false all' s1) (Z1W p no x8 (bl l) s1.pos g d rf 0 0 (all'.map ofR)) := by
   intro all' s1 hn hlt ha'
   unfold Z1W
   rw [wrap_i64 (n := x8 + 1) (by omega) (by omega)]
   exact (ih false all' s1 (x8 + 1) hn.at_ ha' (by omega) (by simp; omega) (by omega) (by omega)).from hn
  have stop : ∀ (c q : Int) (al : List Z8) (z8 : Int), c ≠ 0 → ClsR l s (.bad c q) ((Z1f c q (bl l) 0 0).bind fun r2 => Z1W p no z8 (bl l) r2.1 g d rf r2.2.1 r2.2.2 al) := by
   intro c q al z8 hc
   rw [Z6C, q0_, ZhB _ _ _ _ _ _ _ _ _ _ _ hc]
   exact ⟨hc, _, rfl⟩
  apply top
  have hr := h.range
  unfold Z4Q Z5h
  rw [Z9u h, q0_]
  by_cases hn : s.us = []
  ·rw [if_pos hn, if_pos (Z1L (show peek s.us = -1 by rw [hn]; rfl))]
   exact stop _ _ _ _ (by decide)
  have hu : 0 ≤ peek s.us ∧ peek s.us ≤ 1114367 := by
   rcases hr with ⟨_, h2⟩ | h2
   ·exact absurd h2 hn
   ·omega
  rw [if_neg hn, if_neg (Z1R (show ¬ peek s.us = -1 by omega))]
  by_cases h1 : peek s.us = 93
  ·rw [if_pos h1, if_pos (Z1L h1)]
   cases fst with
   | true =>
    rw [if_pos rfl, if_pos (Z1L (hf.1 rfl))]
    exact stop _ _ _ _ (by decide)
   | false =>
    have : ¬ x8 = 0 := fun e => by simpa using hf.2 e
    rw [if_neg (show ¬ (false = true) by simp), if_neg (Z1R this)]
    unfold Z77 Z5T
    rw [ZcD h (by omega) hn, q0_]
    cases no with
    | true =>
     rw [if_pos rfl, if_pos rfl, ZwF hall, q0_]
     exact ⟨rfl, Z7X h⟩
    | false =>
     rw [if_neg (by simp), if_neg (by simp)]
     exact ⟨rfl, Z7X h⟩
  rw [if_neg h1, if_neg (Z1R h1)]
  by_cases h2 : peek s.us = 91
  ·rw [if_pos (.inl h2), if_pos (Z1L h2), if_pos (Z1L h2)]
   exact stop _ _ _ _ (by decide)
  by_cases h3 : peek s.us = 45
  ·rw [if_pos (.inr h3), if_neg (Z1R h2), if_pos (Z1L h3)]
   exact stop _ _ _ _ (by decide)
  rw [if_neg (show ¬ (peek s.us = 91 ∨ peek s.us = 45) by omega), if_neg (Z1R h2), if_neg (Z1R h3)]
  unfold Z5U
  have hm := ZnE h hl hn g d rf
  cases hp : pMem s with
  | bad c q =>
   rw [hp] at hm
   obtain ⟨hc, hm⟩ := hm
   rw [hm, q0_]
   have hno : nilO Own.nl ([] : List Z8) = some true := rfl
   simp only [ZBX]
   rw [hno, q0_, if_neg (show ¬ ((!true) = true) by simp)]
   unfold Z5V
   have hend : wd [45] ⟨[], (l.length : Int), s.gr, s.rf⟩ = none := rfl
   have hat : At l ⟨[], (l.length : Int), s.gr, s.rf⟩ := ⟨l.length, Z2A _, rfl, by rw [Zg6 (Z2A _)]; rfl⟩
   have := Z4l w45 hat hl hend
   dsimp only at this
   rw [this, q0_, if_neg (by simp)]
   unfold Z2z
   rw [if_neg (Z1R hc), ZhB _ _ _ _ _ _ _ _ _ _ _ hc]
   exact ⟨hc, _, rfl⟩
  | ok m s1 =>
   rw [hp] at hm
   obtain ⟨hm, hnx, hlt, hm1, hm2, hm3⟩ := hm
   rw [hm, q0_]
   simp only [Out.bind, ZBW]
   by_cases hs : m.2.1 = []
   ·have hno : nilO (if m.2.1 = [] then Own.nl else Own.ex) (m.2.1.map ofR) = some true := by rw [if_pos hs]; rfl
    rw [hno, q0_, if_neg (show ¬ ((!true) = true) by simp), if_neg (Zqy hs)]
    unfold Z5V
    have one : ∀ (v : Int) (s2 : St), Nx l s s2 → s2.us.length < s.us.length → m.1 ≤ v → v ≤ 1114367 → ClsR l s (Z5h p no k false (Z5B (all ++ [(m.1, v)])) s2) (Z2z p no x8 m.1 v (bl l) s2.pos g d rf 0 0 (all.map ofR)) := by
     intro v s2 hn2 hlt2 hv1 hv2
     unfold Z2z
     have hone : Z2R [(m.1, v)] := Zi3 (by simp only []; omega)
     rw [if_pos (by rfl), show [Z8.mk m.1 v] = [((m.1, v) : R2)].map ofR from rfl, ZBS hall hone (by simp), q0_]
     exact next _ s2 hn2 hlt2 (Zha hall hone)
    cases hw : wd [45] s1 with
    | none =>
     rw [Z4l w45 hnx.at_ hl hw, q0_, if_neg (by simp)]
     exact one m.1 s1 hnx hlt (by omega) (by omega)
    | some s2 =>
     obtain ⟨q1, q2, q3⟩ := Z2u w45 hnx.at_ hl hw
     have hn2 := hnx.trans q2
     have hr2 := q2.at_.range
     rw [q1, q0_, if_pos rfl]
     dsimp only
     rw [Z9u q2.at_, q0_]
     unfold Z3R
     by_cases c1 : peek s2.us = 93
     ·rw [if_pos (.inr (.inl c1)), if_pos (Z1L c1)]
      exact stop _ _ _ _ (by decide)
     rw [if_neg (Z1R c1)]
     by_cases c2 : peek s2.us = 91
     ·rw [if_pos (.inr (.inr (.inl c2))), if_pos (Z1L c2)]
      exact stop _ _ _ _ (by decide)
     rw [if_neg (Z1R c2)]
     by_cases c3 : peek s2.us = 45
     ·rw [if_pos (.inr (.inr (.inr c3))), if_pos (Z1L c3)]
      exact stop _ _ _ _ (by decide)
     rw [if_neg (Z1R c3)]
     by_cases c4 : s2.us = []
     ·rw [if_pos (.inl c4), if_pos (Z1Q (show peek s2.us < 0 by rw [c4]; decide))]
      exact stop _ _ _ _ (by decide)
     have hu2 : 0 ≤ peek s2.us := by
      rcases hr2 with ⟨_, h2⟩ | h2
      ·exact absurd h2 c4
      ·omega
     rw [if_neg (show ¬ (s2.us = [] ∨ peek s2.us = 93 ∨ peek s2.us = 91 ∨ peek s2.us = 45) by simp only [c1, c2, c3, c4, or_self, not_false_eq_true]), if_neg (Z2a (show ¬ peek s2.us < 0 by omega))]
     unfold Z78
     have hm' := ZnE q2.at_ hl c4 g d rf
     cases hp2 : pMem s2 with
     | bad c q =>
      rw [hp2] at hm'
      obtain ⟨hc, hm'⟩ := hm'
      rw [hm', q0_]
      dsimp only
      rw [if_neg (Z1R hc)]
      unfold Z2z
      rw [if_neg (Z1R hc), ZhB _ _ _ _ _ _ _ _ _ _ _ hc]
      exact ⟨hc, _, rfl⟩
     | ok m2 s3 =>
      rw [hp2] at hm'
      obtain ⟨hm', hnx', hlt', hm1', hm2', hm3'⟩ := hm'
      rw [hm', q0_]
      dsimp only
      simp only [ZBW]
      rw [if_pos (Z1L rfl)]
      have fall : ∀ z, ClsR l s (.bad 22 s.pos) (Z4v p no x8 s.pos m.1 z (bl l) g d rf 0 0 (all.map ofR)) := by
       intro z
       unfold Z4v
       rw [Z6C, q0_]
       unfold Z2z
       dsimp only
       rw [if_neg (by decide), ZhB _ _ _ _ _ _ _ _ _ _ _ (by decide)]
       exact ⟨by decide, _, rfl⟩
      by_cases e1 : m2.2.1 = []
      ·have hno2 : nilO (if m2.2.1 = [] then Own.nl else Own.ex) (m2.2.1.map ofR) = some true := by rw [if_pos e1]; rfl
       rw [hno2, q0_, if_neg (show ¬ ((!true) = true) by simp)]
       by_cases e2 : m2.1 < m.1
       ·rw [if_pos (Z1Q e2), if_pos (.inr e2)]
        exact fall _
       ·rw [if_neg (Z2a e2), if_neg (show ¬ (m2.2.1 ≠ [] ∨ m2.1 < m.1) by simp only [e1, ne_eq, not_true_eq_false, false_or]; exact e2)]
        exact one m2.1 s3 (hn2.trans hnx') (by omega) (by omega) (by omega)
      ·have hno2 : nilO (if m2.2.1 = [] then Own.nl else Own.ex) (m2.2.1.map ofR) = some false := by rw [if_neg e1]; exact Zqz e1
       rw [hno2, q0_, if_pos (show (!false) = true from rfl), if_pos (.inl e1)]
       exact fall _
   ·have hno : nilO (if m.2.1 = [] then Own.nl else Own.ex) (m.2.1.map ofR) = some false := by rw [if_neg hs]; exact Zqz hs
    have hset := ZbG m.2.2 hm3
    have hlen : (setR m.2.2 m.2.1).length ≤ 100000 := by have := ZDd m.2.2 m.2.1; omega
    rw [hno, q0_, if_pos (show (!false) = true from rfl), if_pos hs, Zik _ (by omega) hm3, q0_, show (setN (setR m.2.2 m.2.1)).Set = (setR m.2.2 m.2.1).map ofR from rfl, ZBS hall hset hlen, q0_, Z9u hnx.at_, q0_]
    by_cases c1 : peek s1.us = 45
    ·rw [if_pos c1, if_pos (Z1L c1)]
     exact stop _ _ _ _ (by decide)
    ·rw [if_neg c1, if_neg (Z1R c1)]
     exact next _ s1 hnx hlt (Zha hall hset)
theorem Nx.refl {l : List UInt8} {s : St} (h : At l s) : Nx l s s := ⟨h, Z2A _, rfl, rfl⟩
theorem ClsR.of {l : List UInt8} {s : St} {o : Out Z9} {b g : Option (Z9 × Int × Int × Int)} (hb : ClsR l s o b) (hg : ∀ r, b = some r → g = some r) : ClsR l s o g := by
 cases o with
 | ok n s' => exact ⟨hg _ hb.1, hb.2⟩
 | bad c q => obtain ⟨hc, n, hn⟩ := hb; exact ⟨hc, n, hg _ hn⟩
theorem Zz2 {l : List UInt8} {s : St} (h : At l s) (hl : l.length ≤ 1000) (p g d : Int) (rf : List Zz) : ClsR l s (Zby p s) (Z8Y p (bl l) s.pos g d rf 0 0) := by
 refine ClsR.of (b := Z76 p (bl l) s.pos g d rf 0 0) ?_ fun r e => Zj9 _ _ _ _ _ _ _ _ e
 have n0 : Z2R [] := trivial
 unfold Z76 Zby
 cases hw : wd [94] s with
 | none =>
  rw [Z4l w94 h hl hw, q0_]
  have := h.len
  exact Zp6 hl p false g d rf _ true [] s 0 h n0 (by omega) (by simp) (by omega) (by omega)
 | some s1 =>
  obtain ⟨q1, q2, q3⟩ := Z2u w94 h hl hw
  rw [q1, q0_]
  have := q2.at_.len
  exact (Zp6 hl p true g d rf _ true [] s1 0 q2.at_ n0 (by omega) (by simp) (by omega) (by omega)).from q2
theorem w44 : Wd (ByteArray.mk #[44]) [44] := ⟨[44], rfl, rfl, by decide, by decide, by decide⟩
theorem w125 : Wd (ByteArray.mk #[125]) [125] := ⟨[125], rfl, rfl, by decide, by decide, by decide⟩
theorem w63 : Wd (ByteArray.mk #[63]) [63] := ⟨[63], rfl, rfl, by decide, by decide, by decide⟩
theorem w43 : Wd (ByteArray.mk #[43]) [43] := ⟨[43], rfl, rfl, by decide, by decide, by decide⟩
theorem w42 : Wd (ByteArray.mk #[42]) [42] := ⟨[42], rfl, rfl, by decide, by decide, by decide⟩
theorem w123 : Wd (ByteArray.mk #[123]) [123] := ⟨[123], rfl, rfl, by decide, by decide, by decide⟩
theorem Zg4 {l : List UInt8} {s : St} (h : At l s) (hl : l.length ≤ 1000) (g d : Int) (rf : List Zz) (x3 x4 : Int) (h4 : 0 ≤ x4 ∧ x4 ≤ 10) (h3 : -1 ≤ x3 ∧ x3 ≤ 100) :
  ∀ r, (if x4 < 2 ∧ digit (peek s.us) = true then Z3U (10 * max x3 0 + peek s.us - 48) (x4 + 1) (bl l) (take s).pos g d rf 0 0 else some (x3, s.pos)) = some r → Z3U x3 x4 (bl l) s.pos g d rf 0 0 = some r := by
 intro r hr
 apply ZgI
 unfold Z7c Z4x
 by_cases h5 : x4 < 2
 ·rw [if_pos (Z1Q h5), Z9u h, q0_]
  by_cases h6 : 48 ≤ peek s.us
  ·rw [if_pos (Z1Q h6), q0_]
   by_cases h7 : peek s.us ≤ 57
   ·have hn : s.us ≠ [] := by
     intro e
     rw [e] at h6
     simp [peek] at h6
    rw [if_pos (Z1Q h7)]
    unfold Z7d
    rw [ZcD h (by omega) hn, q0_]
    rw [wrap_i64 (n := 10 * max x3 0) (by omega) (by omega), wrap_i64 (n := 10 * max x3 0 + peek s.us) (by omega) (by omega), wrap_i64 (n := 10 * max x3 0 + peek s.us - 48) (by omega) (by omega), wrap_i64 (n := x4 + 1) (by omega) (by omega)]
    rw [if_pos ⟨h5, by simp [digit, h6, h7]⟩] at hr
    exact hr
   ·rw [if_neg (Z2a h7)]
    rw [if_neg (by simp [digit, h7])] at hr
    exact hr
  ·rw [if_neg (Z2a h6)]
   rw [if_neg (by simp [digit, h6])] at hr
   exact hr
 ·rw [if_neg (Z2a h5)]
  rw [if_neg (fun e => h5 e.1)] at hr
  exact hr
theorem ZrQ {u : Int} : digit u = true ↔ 48 ≤ u ∧ u ≤ 57 := by simp [digit]
theorem ZwG {l : List UInt8} {s : St} (h : At l s) (hl : l.length ≤ 1000) (g d : Int) (rf : List Zz) :
  Z5K (bl l) s.pos g d rf 0 0 = some ((pNum s).1, (pNum s).2.pos) ∧ Nx l s (pNum s).2 ∧ -1 ≤ (pNum s).1 ∧ (pNum s).1 ≤ 99 := by
 have top : ∀ r, Z3U (-1) 0 (bl l) s.pos g d rf 0 0 = some r → Z5K (bl l) s.pos g d rf 0 0 = some r := fun r e => ZiB _ _ _ _ _ _ _ e
 unfold pNum
 by_cases h1 : digit (peek s.us) = true
 ·have r1 := ZrQ.1 h1
  rw [if_pos h1]
  by_cases h2 : digit (peek (take s).us) = true
  ·have r2 := ZrQ.1 h2
   rw [if_pos h2]
   refine ⟨top _ (Zg4 h hl g d rf _ _ (by omega) (by omega) _ ?_), (Z7X h).trans (Z7X h.take), by simp only []; omega, by simp only []; omega⟩
   rw [if_pos ⟨by omega, h1⟩]
   refine Zg4 h.take hl g d rf _ _ (by omega) (by omega) _ ?_
   rw [if_pos ⟨by omega, h2⟩]
   refine Zg4 h.take.take hl g d rf _ _ (by omega) (by omega) _ ?_
   rw [if_neg (by omega)]
   congr 2
   omega
  ·rw [if_neg h2]
   refine ⟨top _ (Zg4 h hl g d rf _ _ (by omega) (by omega) _ ?_), Z7X h, by simp only []; omega, by simp only []; omega⟩
   rw [if_pos ⟨by omega, h1⟩]
   refine Zg4 h.take hl g d rf _ _ (by omega) (by omega) _ ?_
   rw [if_neg (fun e => h2 e.2)]
   congr 2
   omega
 ·rw [if_neg h1]
  refine ⟨top _ (Zg4 h hl g d rf _ _ (by omega) (by omega) _ ?_), Nx.refl h, by simp, by simp⟩
  rw [if_neg (fun e => h1 e.2)]
def CntR (l : List UInt8) (s : St) (o : Out (Int × Int)) (r : Option (Int × Int × Int × Int × Int)) : Prop :=
 match o with
 | .ok n s' => r = some (n.1, n.2, s'.pos, 0, 0) ∧ Nx l s s'
 | .bad c q => c ≠ 0 ∧ ∃ a b, r = some (a, b, (l.length : Int), c, q)
theorem CntR.from {l : List UInt8} {s s1 : St} {o : Out (Int × Int)} {r : Option (Int × Int × Int × Int × Int)} (h : CntR l s1 o r) (hn : Nx l s s1) : CntR l s o r := by
 cases o with
 | ok n s' => exact ⟨h.1, hn.trans h.2⟩
 | bad c q => exact h
theorem Zk0 (l : List UInt8) (s : St) (p lo hi : Int) : CntR l s (.bad 23 p) (Z3n p lo hi (bl l) 0 0) := by
 unfold Z3n
 rw [Z6C]
 exact ⟨by decide, lo, hi, rfl⟩
theorem Zrr {l : List UInt8} {s : St} (h : At l s) (hl : l.length ≤ 1000) (p lo hi : Int) : CntR l s (pFin p lo hi s) (Z38 p lo hi (bl l) s.pos 0 0) := by
 unfold Z38 pFin
 by_cases h1 : lo < 0
 ·rw [if_pos (.inl h1), if_pos (Z1Q h1)]
  exact Zk0 ..
 by_cases h2 : hi < lo
 ·rw [if_pos (.inr (.inl h2)), if_neg (Z2a h1), if_pos (Z1Q h2)]
  exact Zk0 ..
 by_cases h3 : 64 < hi
 ·rw [if_pos (.inr (.inr h3)), if_neg (Z2a h1), if_neg (Z2a h2), if_pos (Z1Q h3)]
  exact Zk0 ..
 rw [if_neg (show ¬ (lo < 0 ∨ hi < lo ∨ 64 < hi) by omega), if_neg (Z2a h1), if_neg (Z2a h2), if_neg (Z2a h3)]
 cases hw : wd [125] s with
 | none =>
  rw [Z4l w125 h hl hw, q0_, if_pos (show (!false) = true from rfl)]
  exact Zk0 ..
 | some s1 =>
  obtain ⟨q1, q2, q3⟩ := Z2u w125 h hl hw
  rw [q1, q0_, if_neg (show ¬ ((!true) = true) by simp)]
  exact ⟨rfl, q2⟩
theorem Zx9 {l : List UInt8} {s : St} (h : At l s) (hl : l.length ≤ 1000) (p g d : Int) (rf : List Zz) : CntR l s (ZaW p s) (Z6R p (bl l) s.pos g d rf 0 0) := by
 have top : ∀ o, CntR l s o (Z6M p (bl l) s.pos g d rf 0 0) → CntR l s o (Z6R p (bl l) s.pos g d rf 0 0) := by
  intro o ho
  cases o with
  | ok n s' => exact ⟨Zcg _ _ _ _ _ _ _ _ ho.1, ho.2⟩
  | bad c q => obtain ⟨hc, a, b, hn⟩ := ho; exact ⟨hc, a, b, Zcg _ _ _ _ _ _ _ _ hn⟩
 apply top
 obtain ⟨n1, n2, n3, n4⟩ := ZwG h hl g d rf
 unfold Z6M ZaW
 rw [n1, q0_]
 dsimp only
 cases hw : wd [44] (pNum s).2 with
 | none =>
  rw [Z4l w44 n2.at_ hl hw, q0_, if_neg (by simp)]
  exact (Zrr n2.at_ hl p _ _).from n2
 | some s2 =>
  obtain ⟨q1, q2, q3⟩ := Z2u w44 n2.at_ hl hw
  obtain ⟨m1, m2, m3, m4⟩ := ZwG q2.at_ hl g d rf
  rw [q1, q0_, if_pos rfl]
  dsimp only
  rw [m1, q0_]
  dsimp only
  have hn := n2.trans (q2.trans m2)
  by_cases h1 : (pNum s2).1 < 0
  ·rw [if_pos (Z1Q h1)]
   by_cases h2 : 0 ≤ (pNum s).1
   ·rw [if_pos (Z1Q h2), if_pos (show (pNum s2).1 < 0 ∧ 0 ≤ (pNum s).1 from ⟨h1, h2⟩)]
    unfold Z79
    have r8 : ∀ s5 : St, CntR l s (.bad 23 p) (Z4w p (pNum s).1 (bl l) s5.pos 0 0) := by
     intro s5
     unfold Z4w Z38
     rw [if_neg (Z2a (show ¬ (pNum s).1 < 0 by omega)), if_pos (Z1Q (show (-2 : Int) < (pNum s).1 by omega))]
     exact Zk0 ..
    cases hw2 : wd [125] (pNum s2).2 with
    | none =>
     rw [Z4l w125 m2.at_ hl hw2, q0_, if_neg (by simp)]
     exact r8 _
    | some s4 =>
     obtain ⟨t1, t2, t3⟩ := Z2u w125 m2.at_ hl hw2
     rw [t1, q0_, if_pos rfl]
     by_cases h3 : (pNum s).1 ≤ 64
     ·dsimp only
      rw [if_pos (Z1Q h3), if_pos h3]
      exact ⟨rfl, hn.trans t2⟩
     ·dsimp only
      rw [if_neg (Z2a h3), if_neg h3]
      exact r8 _
   ·rw [if_neg (Z2a h2), if_neg (show ¬ ((pNum s2).1 < 0 ∧ 0 ≤ (pNum s).1) from fun e => h2 e.2)]
    exact (Zrr m2.at_ hl p _ _).from hn
  ·rw [if_neg (Z2a h1), if_neg (show ¬ ((pNum s2).1 < 0 ∧ 0 ≤ (pNum s).1) from fun e => h1 e.1)]
   exact (Zrr m2.at_ hl p _ _).from hn
def fin (l : List UInt8) : St := ⟨[], (l.length : Int), 0, []⟩
theorem fin_at (l : List UInt8) : At l (fin l) := ⟨l.length, Z2A _, rfl, by rw [Zg6 (Z2A _)]; rfl⟩
theorem Ze3 {l : List UInt8} (hl : l.length ≤ 1000) {b : ByteArray} {c : Int} {w : List Int} (hw : Wd b (c :: w)) : Z1J b (bl l) (l.length : Int) = some (false, (l.length : Int)) :=
 Z4l hw (fin_at l) hl rfl
theorem ZlB {l : List UInt8} (hl : l.length ≤ 1000) (c q k lo hi m rr : Int) (st : List Z8) (ks : List Z9) : Z3H (bl l) (l.length : Int) c q k lo hi m rr st ks = some (⟨k, lo, hi, m, rr, st, ks⟩, (l.length : Int), c, q) := by
 unfold Z3H
 rw [Ze3 hl w63, q0_, if_neg (by simp)]
 dsimp only
 rw [Ze3 hl w43, q0_, if_neg (by simp)]
 rfl
theorem Zjv {l : List UInt8} {s : St} (h : At l s) (hl : l.length ≤ 1000) (kid : Z9) (may : Bool) (p lo hi : Int) : ClsR l s (Z8S kid may p lo hi s) (Z36 may p (bl l) s.pos 0 0 4 lo hi 0 0 [] [kid]) := by
 unfold Z36 Z8S
 cases may with
 | false =>
  rw [if_pos rfl, if_pos (show (!false) = true from rfl), Z6C, q0_]
  dsimp only
  rw [ZlB hl]
  exact ⟨by decide, _, rfl⟩
 | true =>
  rw [if_neg (by simp), if_neg (show ¬ ((!true) = true) by simp)]
  unfold Z3H Z4n
  cases hw : wd [63] s with
  | some s1 =>
   obtain ⟨t1, t2, t3⟩ := Z2u w63 h hl hw
   rw [t1, q0_, if_pos rfl]
   exact ⟨rfl, t2⟩
  | none =>
   rw [Z4l w63 h hl hw, q0_, if_neg (by simp)]
   dsimp only
   cases hw2 : wd [43] s with
   | some s1 =>
    obtain ⟨t1, t2, t3⟩ := Z2u w43 h hl hw2
    rw [t1, q0_, if_pos rfl]
    exact ⟨rfl, t2⟩
   | none =>
    rw [Z4l w43 h hl hw2, q0_, if_neg (by simp)]
    exact ⟨rfl, Nx.refl h⟩
theorem ZDc {l : List UInt8} (hl : l.length ≤ 1000) (kid : Z9) (may : Bool) (g d : Int) (rf : List Zz) (c q : Int) : Z6S kid may (bl l) (l.length : Int) g d rf c q = some (kid, (l.length : Int), c, q) := by
 apply Zck
 unfold Z5F
 rw [Ze3 hl w42, q0_, if_neg (by simp)]
 dsimp only
 rw [Ze3 hl w43, q0_, if_neg (by simp)]
 dsimp only
 rw [Ze3 hl w63, q0_, if_neg (by simp)]
 dsimp only
 rw [Ze3 hl w123, q0_, if_neg (by simp)]
theorem ZwS {l : List UInt8} {s : St} (h : At l s) (hl : l.length ≤ 1000) (kid : Z9) (may : Bool) (g d : Int) (rf : List Zz) : ClsR l s (pRep kid may s) (Z6S kid may (bl l) s.pos g d rf 0 0) := by
 refine ClsR.of (b := Z5F kid may (bl l) s.pos g d rf 0 0) ?_ fun r e => Zck _ _ _ _ _ _ _ _ _ e
 unfold Z5F pRep
 cases hw : wd [42] s with
 | some s1 =>
  obtain ⟨t1, t2, t3⟩ := Z2u w42 h hl hw
  rw [t1, q0_, if_pos rfl]
  exact (Zjv t2.at_ hl kid may _ _ _).from t2
 | none =>
  rw [Z4l w42 h hl hw, q0_, if_neg (by simp)]
  dsimp only
  cases hw2 : wd [43] s with
  | some s1 =>
   obtain ⟨t1, t2, t3⟩ := Z2u w43 h hl hw2
   rw [t1, q0_, if_pos rfl]
   exact (Zjv t2.at_ hl kid may _ _ _).from t2
  | none =>
   rw [Z4l w43 h hl hw2, q0_, if_neg (by simp)]
   dsimp only
   cases hw3 : wd [63] s with
   | some s1 =>
    obtain ⟨t1, t2, t3⟩ := Z2u w63 h hl hw3
    rw [t1, q0_, if_pos rfl]
    exact (Zjv t2.at_ hl kid may _ _ _).from t2
   | none =>
    rw [Z4l w63 h hl hw3, q0_, if_neg (by simp)]
    dsimp only
    cases hw4 : wd [123] s with
    | none =>
     rw [Z4l w123 h hl hw4, q0_, if_neg (by simp)]
     exact ⟨rfl, Nx.refl h⟩
    | some s1 =>
     obtain ⟨t1, t2, t3⟩ := Z2u w123 h hl hw4
     rw [t1, q0_, if_pos rfl]
     dsimp only
     have hc := Zx9 t2.at_ hl s.pos g d rf
     cases hp : ZaW s.pos s1 with
     | bad c q =>
      rw [hp] at hc
      obtain ⟨hc0, a, b, hc⟩ := hc
      rw [hc, q0_]
      unfold Z36
      dsimp only [Out.bind]
      cases may with
      | false =>
       rw [if_pos (show (!false) = true from rfl), ZrR _ _ _ _ _ hc0, q0_]
       dsimp only
       rw [ZlB hl]
       exact ⟨hc0, _, rfl⟩
      | true =>
       rw [if_neg (show ¬ ((!true) = true) by simp), ZlB hl]
       exact ⟨hc0, _, rfl⟩
     | ok n s2 =>
      rw [hp] at hc
      obtain ⟨hc, hn⟩ := hc
      rw [hc, q0_]
      exact (Zjv hn.at_ hl kid may _ _ _).from (t2.trans hn)
structure Inv (l : List UInt8) (s : St) : Prop where
 at_ : At l s
 g0 : 0 ≤ s.gr
 g9 : s.gr ≤ 9
 rf : s.rf.length + s.us.length ≤ 1500
structure Mv (l : List UInt8) (s s' : St) : Prop where
 at_ : At l s'
 len : s'.us.length ≤ s.us.length
 g0 : 0 ≤ s'.gr
 g9 : s'.gr ≤ 9
 rf : s'.rf.length + s'.us.length ≤ s.rf.length + s.us.length
theorem Mv.inv {l : List UInt8} {s s' : St} (h : Mv l s s') (hi : Inv l s) : Inv l s' := ⟨h.at_, h.g0, h.g9, Zhr h.rf hi.rf⟩
theorem Mv.trans {l : List UInt8} {s s' s'' : St} (h : Mv l s s') (h' : Mv l s' s'') : Mv l s s'' :=
 ⟨h'.at_, Zhr h'.len h.len, h'.g0, h'.g9, Zhr h'.rf h.rf⟩
theorem Nx.mv {l : List UInt8} {s s' : St} (h : Nx l s s') (hi : Inv l s) : Mv l s s' :=
 ⟨h.at_, h.len, by rw [h.gr]; exact hi.g0, by rw [h.gr]; exact hi.g9, by rw [h.rf]; have := h.len; omega⟩
def AltR (l : List UInt8) (d : Int) (s : St) (o : Out Z9) (r : Option (Z9 × Int × Int × Int × List Zz × Int × Int)) : Prop :=
 match o with
 | .ok n s' => r = some (n, s'.pos, s'.gr, d, s'.rf, 0, 0) ∧ Mv l s s'
 | .bad c q => c ≠ 0 ∧ ∃ n g' d' rf', rf'.length ≤ 1500 ∧ r = some (n, (l.length : Int), g', d', rf', c, q)
def AtmR (l : List UInt8) (d : Int) (s : St) (o : Out (Z9 × Bool)) (r : Option (Z9 × Bool × Int × Int × Int × List Zz × Int × Int)) : Prop :=
 match o with
 | .ok n s' => r = some (n.1, n.2, s'.pos, s'.gr, d, s'.rf, 0, 0) ∧ Mv l s s'
 | .bad c q => c ≠ 0 ∧ ∃ n may g' d' rf', rf'.length ≤ 1500 ∧ r = some (n, may, (l.length : Int), g', d', rf', c, q)
theorem AltR.of {l : List UInt8} {d : Int} {s : St} {o : Out Z9} {b g : Option (Z9 × Int × Int × Int × List Zz × Int × Int)} (hb : AltR l d s o b) (hg : ∀ r, b = some r → g = some r) : AltR l d s o g := by
 cases o with
 | ok n s' => exact ⟨hg _ hb.1, hb.2⟩
 | bad c q => obtain ⟨hc, n, g', d', rf', hq, hn⟩ := hb; exact ⟨hc, n, g', d', rf', hq, hg _ hn⟩
theorem AtmR.of {l : List UInt8} {d : Int} {s : St} {o : Out (Z9 × Bool)} {b g : Option (Z9 × Bool × Int × Int × Int × List Zz × Int × Int)} (hb : AtmR l d s o b) (hg : ∀ r, b = some r → g = some r) : AtmR l d s o g := by
 cases o with
 | ok n s' => exact ⟨hg _ hb.1, hb.2⟩
 | bad c q => obtain ⟨hc, n, m, g', d', rf', hq, hn⟩ := hb; exact ⟨hc, n, m, g', d', rf', hq, hg _ hn⟩
theorem AltR.from {l : List UInt8} {d : Int} {s s1 : St} {o : Out Z9} {r : Option (Z9 × Int × Int × Int × List Zz × Int × Int)} (h : AltR l d s1 o r) (hn : Mv l s s1) : AltR l d s o r := by
 cases o with
 | ok n s' => exact ⟨h.1, hn.trans h.2⟩
 | bad c q => exact h
theorem AtmR.from {l : List UInt8} {d : Int} {s s1 : St} {o : Out (Z9 × Bool)} {r : Option (Z9 × Bool × Int × Int × Int × List Zz × Int × Int)} (h : AtmR l d s1 o r) (hn : Mv l s s1) : AtmR l d s o r := by
 cases o with
 | ok n s' => exact ⟨h.1, hn.trans h.2⟩
 | bad c q => exact h
theorem w124 : Wd (ByteArray.mk #[124]) [124] := ⟨[124], rfl, rfl, by decide, by decide, by decide⟩
theorem w41 : Wd (ByteArray.mk #[41]) [41] := ⟨[41], rfl, rfl, by decide, by decide, by decide⟩
theorem wL0 : Wd (ByteArray.mk #[63, 61]) [63, 61] := ⟨[63, 61], rfl, rfl, by decide, by decide, by decide⟩
theorem wL1 : Wd (ByteArray.mk #[63, 33]) [63, 33] := ⟨[63, 33], rfl, rfl, by decide, by decide, by decide⟩
theorem wL2 : Wd (ByteArray.mk #[63, 60, 61]) [63, 60, 61] := ⟨[63, 60, 61], rfl, rfl, by decide, by decide, by decide⟩
theorem wL3 : Wd (ByteArray.mk #[63, 60, 33]) [63, 60, 33] := ⟨[63, 60, 33], rfl, rfl, by decide, by decide, by decide⟩
theorem wAt : Wd (ByteArray.mk #[63, 62]) [63, 62] := ⟨[63, 62], rfl, rfl, by decide, by decide, by decide⟩
theorem wNo : Wd (ByteArray.mk #[63, 58]) [63, 58] := ⟨[63, 58], rfl, rfl, by decide, by decide, by decide⟩
theorem Zok (x3 : List Z9) (b : List Int) (a g d : Int) (rf : List Zz) (c q : Int) (hc : c ≠ 0) : Z5I x3 b a g d rf c q = some (joined 2 x3, a, g, d, rf, c, q) := by
 apply Zce
 unfold Z6K Z3z
 rw [if_neg (Z1R hc), Zi0]
 rfl
theorem Zm0 {l : List UInt8} (hl : l.length ≤ 1000) (x3 : List Z9) (g d : Int) (rf : List Zz) (c q : Int) : Z5H x3 (bl l) (l.length : Int) g d rf c q = some (joined 3 x3, (l.length : Int), g, d, rf, c, q) := by
 apply Zcc
 unfold Z5D Z6J
 rw [Ze3 hl w124, q0_, if_neg (by simp), Zi0]
 rfl
theorem ZCj {l : List UInt8} (hl : l.length ≤ 1000) (g d : Int) (rf : List Zz) (c q : Int) (hc : c ≠ 0) : Z4f (bl l) (l.length : Int) g d rf c q = some (nd0, (l.length : Int), g, d, rf, c, q) := by
 apply Zeu
 unfold Z6I
 have : Z6Q (bl l) (l.length : Int) g d rf c q = some (nd0, (l.length : Int), g, d, rf, c, q) := by
  apply Zew
  unfold Z89
  exact Zok _ _ _ _ _ _ _ _ hc
 rw [this, q0_]
 exact Zm0 hl _ _ _ _ _ _
theorem ZsJ {l : List UInt8} (hl : l.length ≤ 1000) {d : Int} {P : Int → St → Out (Z9 × Bool)} (HP : ∀ p s, Inv l s → AtmR l d s (P p s) (Z4X p (bl l) s.pos s.gr d s.rf 0 0)) {s : St} (h : Inv l s) (hn : s.us ≠ []) :
  AtmR l d (take s) (Zd7 P s) (Z9G (bl l) s.pos s.gr d s.rf 0 0) := by
 refine AtmR.of (b := Z7K (bl l) s.pos s.gr d s.rf 0 0) ?_ fun r e => ZjI _ _ _ _ _ _ _ e
 have hnx := Z7X h.at_
 have hiv := (hnx.mv h).inv h
 have m0 : Mv l (take s) (take s) := (Nx.refl hnx.at_).mv hiv
 have hg : (take s).gr = s.gr := hnx.gr
 have hrf : (take s).rf = s.rf := hnx.rf
 have hu : 0 ≤ peek s.us ∧ peek s.us ≤ 1114367 := by
  rcases h.at_.range with ⟨_, h2⟩ | h2
  ·exact absurd h2 hn
  ·omega
 have bad : ∀ c q, c ≠ 0 → AtmR l d (take s) (.bad c q) ((Z1f c q (bl l) 0 0).bind fun r7 => Z25 r7.1 s.gr d s.rf r7.2.1 r7.2.2) := by
  intro c q hc
  rw [Z6C]
  exact ⟨hc, _, _, _, _, _, show s.rf.length ≤ 1500 by have := h.rf; omega, rfl⟩
 have plain : AtmR l d (take s) (.ok (setN (setR false [(peek s.us, peek s.us)]), true) (take s)) ((Z2w (peek s.us)).bind fun r12 => (Z3Y false ([r12] : List Z8)).bind fun r13 => some (r13, true, (take s).pos, s.gr, d, s.rf, 0, 0)) := by
  have hset := Zik false (L := [(peek s.us, peek s.us)]) (by simp) (by simp; omega)
  rw [Z7W, q0_, show [Z8.mk (peek s.us) (peek s.us)] = [((peek s.us, peek s.us) : R2)].map ofR from rfl, hset, q0_]
  exact ⟨by rw [hg, hrf], m0⟩
 unfold Z7K Zd7
 rw [ZcD h.at_ (by omega) hn, q0_]
 dsimp only
 by_cases h1 : peek s.us = 46
 ·rw [if_pos h1, if_pos (Z1L h1)]
  have hset := Zik true (L := [((10 : Int), (10 : Int))]) (by simp) (by simp)
  rw [Z7W, q0_, show [Z8.mk 10 10] = [((10, 10) : R2)].map ofR from rfl, hset, q0_]
  exact ⟨by rw [hg, hrf], m0⟩
 rw [if_neg h1, if_neg (Z1R h1)]
 by_cases h2 : peek s.us = 94
 ·rw [if_pos h2, if_pos (Z1L h2)]
  exact ⟨by rw [hg, hrf]; rfl, m0⟩
 rw [if_neg h2, if_neg (Z1R h2)]
 by_cases h3 : peek s.us = 36
 ·rw [if_pos h3, if_pos (Z1L h3)]
  exact ⟨by rw [hg, hrf]; rfl, m0⟩
 rw [if_neg h3, if_neg (Z1R h3)]
 by_cases h4 : peek s.us = 92
 ·rw [if_pos h4, if_pos (Z1L h4)]
  have he := ZE1 hnx.at_ hl (by have := hiv.rf; omega) s.pos s.gr d
  rw [hrf] at he
  cases hp : pEsc s.pos (take s) with
  | bad c q =>
   rw [hp] at he
   obtain ⟨hc, n, he⟩ := he
   rw [hrf] at he
   rw [he]
   exact ⟨hc, _, _, _, _, _, show s.rf.length ≤ 1500 by have := h.rf; omega, rfl⟩
  | ok n s' =>
   rw [hp] at he
   obtain ⟨he, e1, e2, e3, e4⟩ := he
   rw [he]
   refine ⟨?_, ⟨e1, by omega, by rw [e3, hg]; exact h.g0, by rw [e3, hg]; exact h.g9, e4⟩⟩
   rw [e3, hg]
   rfl
 rw [if_neg h4, if_neg (Z1R h4)]
 by_cases h5 : peek s.us = 91
 ·rw [if_pos h5, if_pos (Z1L h5)]
  have he := Zz2 hnx.at_ hl s.pos s.gr d s.rf
  cases hp : Zby s.pos (take s) with
  | bad c q =>
   rw [hp] at he
   obtain ⟨hc, n, he⟩ := he
   rw [he]
   exact ⟨hc, _, _, _, _, _, show s.rf.length ≤ 1500 by have := h.rf; omega, rfl⟩
  | ok n s' =>
   rw [hp] at he
   obtain ⟨he, e1⟩ := he
   rw [he]
   refine ⟨?_, e1.mv hiv⟩
   rw [e1.gr, e1.rf, hg, hrf]
   rfl
 rw [if_neg h5, if_neg (Z1R h5)]
 by_cases h6 : peek s.us = 40
 ·rw [if_pos h6, if_pos (Z1L h6)]
  have he := HP s.pos (take s) hiv
  rw [hg, hrf] at he
  cases hp : P s.pos (take s) with
  | bad c q =>
   rw [hp] at he
   obtain ⟨hc, n, m, g', d', rf', hq, he⟩ := he
   rw [he]
   exact ⟨hc, _, _, _, _, _, hq, rfl⟩
  | ok n s' =>
   rw [hp] at he
   obtain ⟨he, e1⟩ := he
   rw [he]
   exact ⟨rfl, e1⟩
 rw [if_neg h6, if_neg (Z1R h6)]
 by_cases h7 : peek s.us = 42
 ·rw [if_pos (show peek s.us = 42 ∨ peek s.us = 43 ∨ peek s.us = 63 ∨ peek s.us = 123 from .inl h7), if_pos (Z1L h7), if_pos (Z1L h7)]
  exact bad _ _ (by decide)
 rw [if_neg (Z1R h7)]
 by_cases h8 : peek s.us = 43
 ·rw [if_pos (show peek s.us = 42 ∨ peek s.us = 43 ∨ peek s.us = 63 ∨ peek s.us = 123 from .inr (.inl h8)), if_pos (Z1L h8), if_pos (Z1L h8)]
  exact bad _ _ (by decide)
 rw [if_neg (Z1R h8)]
 by_cases h9 : peek s.us = 63
 ·rw [if_pos (show peek s.us = 42 ∨ peek s.us = 43 ∨ peek s.us = 63 ∨ peek s.us = 123 from .inr (.inr (.inl h9))), if_pos (Z1L h9), if_pos (Z1L h9)]
  exact bad _ _ (by decide)
 rw [if_neg (Z1R h9)]
 by_cases h10 : peek s.us = 123
 ·rw [if_pos (show peek s.us = 42 ∨ peek s.us = 43 ∨ peek s.us = 63 ∨ peek s.us = 123 from .inr (.inr (.inr h10))), if_pos (Z1L h10)]
  exact bad _ _ (by decide)
 rw [if_neg (show ¬ (peek s.us = 42 ∨ peek s.us = 43 ∨ peek s.us = 63 ∨ peek s.us = 123) by omega), if_neg (Z1R h10)]
 by_cases h11 : peek s.us = 93
 ·rw [if_pos (show peek s.us = 93 ∨ peek s.us = 125 from .inl h11), if_pos (Z1L h11), if_pos (Z1L h11)]
  exact bad _ _ (by decide)
 rw [if_neg (Z1R h11)]
 by_cases h12 : peek s.us = 125
 ·rw [if_pos (show peek s.us = 93 ∨ peek s.us = 125 from .inr h12), if_pos (Z1L h12)]
  exact bad _ _ (by decide)
 rw [if_neg (show ¬ (peek s.us = 93 ∨ peek s.us = 125) by omega), if_neg (Z1R h12)]
 exact plain
end Go.Proofs.YtocikhhkicahoaaDoor.N2
end
section
namespace Go.Proofs.YtocikhhkicahoaaDoor.N2
open Go Go.Abs Go.Proofs.Unis Go.Proofs.Norm
set_option maxRecDepth 100000
section
variable {l : List UInt8} (hl : l.length ≤ 1000) {d : Int} {P : Int → St → Out (Z9 × Bool)} (HP : ∀ p s, Inv l s → AtmR l d s (P p s) (Z4X p (bl l) s.pos s.gr d s.rf 0 0))
theorem ZiK (kids : List Z9) (n : Z9) (h : kids.length ≤ 5000) : lapp kids [n] = some (kids ++ [n]) := by
 unfold lapp
 rw [if_pos (by simp [lim]; omega)]
include hl HP in
theorem ZCn : ∀ (k : Nat) (kids : List Z9) (s : St), Inv l s → s.us.length < k → kids.length + s.us.length ≤ 3000 → AltR l d s (Zd8 P k kids s) (Z5I kids (bl l) s.pos s.gr d s.rf 0 0) := by
 intro k
 induction k with
 | zero => intro kids s _ hk; omega
 | succ k ih =>
  intro kids s h hk hb
  have r9 : AltR l d s (.ok (joined 2 kids) s) (Z3z kids s.pos s.gr d s.rf 0 0) := by
   unfold Z3z
   rw [Zi0]
   exact ⟨rfl, (Nx.refl h.at_).mv h⟩
  have r7 : s.us ≠ [] → AltR l d s ((Zd7 P s).bind fun m s1 => (pRep m.1 m.2 s1).bind fun n s2 => Zd8 P k (kids ++ [n]) s2) (Z4u kids (bl l) s.pos s.gr d s.rf 0 0) := by
   intro hn
   have hlt := ZkN h.at_ hn
   have hiv := ((Z7X h.at_).mv h).inv h
   have ha := ZsJ hl HP h hn
   unfold Z4u
   cases hp : Zd7 P s with
   | bad c q =>
    rw [hp] at ha
    obtain ⟨hc, n, m, g', d', rf', hq, ha⟩ := ha
    rw [ha, q0_]
    dsimp only
    rw [ZDc hl, q0_]
    dsimp only
    rw [ZiK _ _ (by omega), q0_, Zok _ _ _ _ _ _ _ _ hc]
    exact ⟨hc, _, _, _, _, hq, rfl⟩
   | ok n s1 =>
    rw [hp] at ha
    obtain ⟨ha, hm⟩ := ha
    rw [ha, q0_]
    dsimp only [Out.bind]
    have hi1 := hm.inv hiv
    have hr := ZwS hm.at_ hl n.1 n.2 s1.gr d s1.rf
    cases hp2 : pRep n.1 n.2 s1 with
    | bad c q =>
     rw [hp2] at hr
     obtain ⟨hc, n', hr⟩ := hr
     rw [hr, q0_]
     dsimp only
     rw [ZiK _ _ (by omega), q0_, Zok _ _ _ _ _ _ _ _ hc]
     exact ⟨hc, _, _, _, _, show s1.rf.length ≤ 1500 by have := hi1.rf; omega, rfl⟩
    | ok n' s2 =>
     rw [hp2] at hr
     obtain ⟨hr, hx⟩ := hr
     rw [hr, q0_]
     dsimp only
     rw [ZiK _ _ (by omega), q0_, ← hx.gr, ← hx.rf]
     have h2 := hx.mv hi1
     have := h2.len
     have := hm.len
     exact (ih (kids ++ [n']) s2 (h2.inv hi1) (by omega) (by simp; omega)).from (((Z7X h.at_).mv h).trans (hm.trans h2))
  refine AltR.of (b := Z6L kids (bl l) s.pos s.gr d s.rf 0 0) ?_ fun r e => ?_
  ·unfold Z6L Zd8
   rw [Z9u h.at_, q0_]
   by_cases hn : s.us = []
   ·have hp : peek s.us = -1 := by rw [hn]; rfl
    rw [if_pos (show stops s.us = true by rw [hn]; rfl), if_pos (Z1L hp), if_pos (Z1L hp)]
    exact r9
   have hu : 0 ≤ peek s.us := by
    rcases h.at_.range with ⟨_, h2⟩ | h2
    ·exact absurd h2 hn
    ·omega
   have he : s.us.isEmpty = false := by
    cases hs : s.us with
    | nil => exact absurd hs hn
    | cons a b => rfl
   rw [if_neg (Z1R (show ¬ peek s.us = -1 by omega))]
   by_cases h1 : peek s.us = 124
   ·rw [if_pos (show stops s.us = true by simp [stops, h1]), if_pos (Z1L h1), if_pos (Z1L h1)]
    exact r9
   rw [if_neg (Z1R h1)]
   by_cases h2 : peek s.us = 41
   ·rw [if_pos (show stops s.us = true by simp [stops, h2]), if_pos (Z1L h2)]
    exact r9
   rw [if_neg (show ¬ (stops s.us = true) by simp [stops, he, h1, h2]), if_neg (Z1R h2)]
   exact r7 hn
  ·apply Zce
   unfold Z6K
   rw [if_pos (by rfl)]
   exact e
include hl HP in
theorem Znl {s : St} (h : Inv l s) : AltR l d s (pCat P s) (Z6Q (bl l) s.pos s.gr d s.rf 0 0) := by
 have := h.rf
 refine AltR.of (ZCn hl HP (s.us.length + 1) [] s h (by omega) (by simp; omega)) fun r e => ?_
 apply Zew
 unfold Z89
 exact e
include hl HP in
theorem ZCi : ∀ (k : Nat) (kids : List Z9) (s : St), Inv l s → s.us.length < k → kids.length + s.us.length ≤ 3000 → AltR l d s (Zgq P k kids s) (Z5H kids (bl l) s.pos s.gr d s.rf 0 0) := by
 intro k
 induction k with
 | zero => intro kids s _ hk; omega
 | succ k ih =>
  intro kids s h hk hb
  refine AltR.of (b := Z5D kids (bl l) s.pos s.gr d s.rf 0 0) ?_ fun r e => Zcc _ _ _ _ _ _ _ _ e
  unfold Z5D Zgq
  cases hw : wd [124] s with
  | none =>
   rw [Z4l w124 h.at_ hl hw, q0_, if_neg (by simp)]
   unfold Z6J
   rw [Zi0]
   exact ⟨rfl, (Nx.refl h.at_).mv h⟩
  | some s1 =>
   obtain ⟨t1, t2, t3⟩ := Z2u w124 h.at_ hl hw
   have m1 := t2.mv h
   rw [t1, q0_, if_pos rfl]
   unfold Z8q
   have hc := Znl hl HP (m1.inv h)
   rw [t2.gr, t2.rf] at hc
   dsimp only
   cases hp : pCat P s1 with
   | bad c q =>
    rw [hp] at hc
    obtain ⟨hc0, n, g', d', rf', hq, hc⟩ := hc
    rw [hc, q0_]
    dsimp only
    rw [ZiK _ _ (by omega), q0_, Zm0 hl]
    exact ⟨hc0, _, _, _, _, hq, rfl⟩
   | ok n s2 =>
    rw [hp] at hc
    obtain ⟨hc, m2⟩ := hc
    rw [hc, q0_]
    dsimp only
    rw [ZiK _ _ (by omega), q0_]
    have := m2.len
    exact (ih (kids ++ [n]) s2 (m2.inv (m1.inv h)) (by omega) (by simp; omega)).from (m1.trans m2)
include hl HP in
theorem ZsH {s : St} (h : Inv l s) : AltR l d s (Zgp P s) (Z4f (bl l) s.pos s.gr d s.rf 0 0) := by
 refine AltR.of (b := Z6I (bl l) s.pos s.gr d s.rf 0 0) ?_ fun r e => Zeu _ _ _ _ _ _ _ e
 unfold Z6I Zgp
 have hc := Znl hl HP h
 cases hp : pCat P s with
 | bad c q =>
  rw [hp] at hc
  obtain ⟨hc0, n, g', d', rf', hq, hc⟩ := hc
  rw [hc, q0_]
  dsimp only
  rw [Zm0 hl]
  exact ⟨hc0, _, _, _, _, hq, rfl⟩
 | ok n s2 =>
  rw [hp] at hc
  obtain ⟨hc, m2⟩ := hc
  rw [hc, q0_]
  have := m2.len
  have := h.rf
  exact (ZCi hl HP (s2.us.length + 1) [n] s2 (m2.inv h) (by omega) (by simp; omega)).from m2
end
theorem ff : ¬ (false = true) := by simp
theorem Zjr {l : List UInt8} {s : St} (h : At l s) (hl : l.length ≤ 1000) {L : List ByteArray} {i : Nat} {b : ByteArray} {w : List Int} (hw : Wd b w) (hL : L[i]? = some b) (hi : i ≤ 100) (e : wd w s = none) : ∀ r, Z2m L (L.length : Int) ((i + 1 : Nat) : Int) (bl l) s.pos = some r → Z2m L (L.length : Int) (i : Int) (bl l) s.pos = some r := by
 intro r hr
 have hlt : i < L.length := (q2_.1 hL).1
 apply Z6g
 unfold Z3s Z3S
 rw [if_pos (Z1Q (by omega)), Z44, hL, q0_, Z4l hw h hl e, q0_, if_neg (by simp)]
 unfold Z4V
 rw [wrap_i64 (by omega) (by omega)]
 exact hr
theorem Zll {l : List UInt8} {s s1 : St} (h : At l s) (hl : l.length ≤ 1000) {L : List ByteArray} {i : Nat} {b : ByteArray} {w : List Int} (hw : Wd b w) (hL : L[i]? = some b) (e : wd w s = some s1) : Z2m L (L.length : Int) (i : Int) (bl l) s.pos = some ((i : Int), s1.pos) := by
 have hlt : i < L.length := (q2_.1 hL).1
 apply Z6g
 unfold Z3s Z3S
 rw [if_pos (Z1Q (by omega)), Z44, hL, q0_, (Z2u hw h hl e).1, q0_, if_pos rfl]
theorem ZCQ (l : List UInt8) (p : Int) (L : List ByteArray) : Z2m L (L.length : Int) (L.length : Int) (bl l) p = some (-1, p) := by
 apply Z6g
 unfold Z3s
 rw [if_neg (Z2a (by omega))]
 rfl
theorem Zs6 {l : List UInt8} (hl : l.length ≤ 1000) {d : Int} (hd : 0 ≤ d ∧ d < 32) {A : St → Out Z9} (HA : ∀ s, Inv l s → AltR l (d + 1) s (A s) (Z4f (bl l) s.pos s.gr (d + 1) s.rf 0 0)) (p : Int) (s : St) (h : Inv l s) :
  AtmR l d s (Zff A p s) (Z4X p (bl l) s.pos s.gr d s.rf 0 0) := by
 have r20 : ∀ (a g : Int) (rf : List Zz) (c q k lo hi m rr : Int) (st : List Z8) (kid : Z9), Z39 a g (d + 1) rf c q k lo hi m rr st kid = some ((if k = 0 then kid else ⟨k, lo, hi, m, rr, st, [kid]⟩), (if k = 0 then true else k != 7), a, g, d, rf, c, q) := by
  intro a g rf c q k lo hi m rr st kid
  unfold Z39 Z5W
  rw [wrap_i64 (n := d + 1 - 1) (by omega) (by omega), show d + 1 - 1 = d by omega]
  by_cases hk : k = 0
  ·rw [if_pos (Z1L hk), if_pos hk, if_pos hk]
  ·rw [if_neg (Z1R hk), if_neg hk, if_neg hk]
 have r20' : ∀ (a g d0 : Int) (rf : List Zz) (c q k lo hi m rr : Int) (st : List Z8) (kid : Z9), ∃ n may d', Z39 a g d0 rf c q k lo hi m rr st kid = some (n, may, a, g, d', rf, c, q) := by
  intro a g d0 rf c q k lo hi m rr st kid
  unfold Z39 Z5W
  by_cases hk : k = 0
  ·exact ⟨_, _, _, by rw [if_pos (Z1L hk)]⟩
  ·exact ⟨_, _, _, by rw [if_neg (Z1R hk)]⟩
 have stop : ∀ (g d0 : Int) (rf : List Zz) (c q k lo hi m rr : Int) (st : List Z8), c ≠ 0 → rf.length ≤ 1500 → AtmR l d s (.bad c q) (Z2s p (bl l) (l.length : Int) g d0 rf c q k lo hi m rr st) := by
  intro g d0 rf c q k lo hi m rr st hc hq
  unfold Z2s
  rw [ZCj hl _ _ _ _ _ hc, q0_]
  dsimp only
  rw [if_neg (Z1R hc)]
  obtain ⟨n, may, d', e⟩ := r20' (l.length : Int) g d0 rf c q k lo hi m rr st nd0
  rw [e]
  exact ⟨hc, _, _, _, _, _, hq, rfl⟩
 have go : ∀ (k m rr : Int) (s1 : St), Mv l s s1 → AtmR l d s ((A s1).bind fun kid s2 => match wd [41] s2 with
   | none => .bad 20 p
   | some s3 => if k = 0 then .ok (kid, true) s3 else .ok (⟨k, 0, 0, m, rr, [], [kid]⟩, k != 7) s3) (Z2s p (bl l) s1.pos s1.gr (d + 1) s1.rf 0 0 k 0 0 m rr []) := by
  intro k m rr s1 hm
  have hi1 := hm.inv h
  have ha := HA s1 hi1
  unfold Z2s
  cases hp : A s1 with
  | bad c q =>
   rw [hp] at ha
   obtain ⟨hc, n, g', d', rf', hq, ha⟩ := ha
   rw [ha, q0_]
   dsimp only
   rw [if_neg (Z1R hc)]
   obtain ⟨n, may, d'', e⟩ := r20' (l.length : Int) g' d' rf' c q k 0 0 m rr [] n
   rw [e]
   exact ⟨hc, _, _, _, _, _, hq, rfl⟩
  | ok n s2 =>
   rw [hp] at ha
   obtain ⟨ha, m2⟩ := ha
   rw [ha, q0_]
   dsimp only [Out.bind]
   rw [if_pos (Z1L rfl)]
   cases hw : wd [41] s2 with
   | none =>
    rw [Z4l w41 m2.at_ hl hw, q0_, if_pos (show (!false) = true from rfl)]
    unfold Z7e
    rw [Z6C, q0_, r20]
    exact ⟨by decide, _, _, _, _, _, show s2.rf.length ≤ 1500 by have := (m2.inv hi1).rf; omega, rfl⟩
   | some s3 =>
    obtain ⟨t1, t2, t3⟩ := Z2u w41 m2.at_ hl hw
    rw [t1, q0_, if_neg (show ¬ ((!true) = true) by simp), r20, ← t2.gr, ← t2.rf]
    have mm := hm.trans (m2.trans (t2.mv (m2.inv hi1)))
    dsimp only
    by_cases hk : k = 0
    ·rw [if_pos hk, if_pos hk, if_pos hk]
     exact ⟨rfl, mm⟩
    ·rw [if_neg hk, if_neg hk, if_neg hk]
     exact ⟨rfl, mm⟩
 refine AtmR.of (b := Z6j p (bl l) s.pos s.gr d s.rf 0 0 0 0 0 0 0 []) ?_ fun r e => ?_
 ·unfold Z6j Zff Zsx
  have g9 := h.g9
  have g0 := h.g0
  have lk : Ze1 = some [(ByteArray.mk #[63, 61]), (ByteArray.mk #[63, 33]), (ByteArray.mk #[63, 60, 61]), (ByteArray.mk #[63, 60, 33])] := Zop rfl
  rw [lk, q0_, wrap_i64 (n := d + 1) (by omega) (by omega)]
  generalize hL : [(ByteArray.mk #[63, 61]), (ByteArray.mk #[63, 33]), (ByteArray.mk #[63, 60, 61]), (ByteArray.mk #[63, 60, 33])] = L
  have L0 : L[0]? = some (ByteArray.mk #[63, 61]) := by rw [← hL]; rfl
  have L1 : L[1]? = some (ByteArray.mk #[63, 33]) := by rw [← hL]; rfl
  have L2 : L[2]? = some (ByteArray.mk #[63, 60, 61]) := by rw [← hL]; rfl
  have L3 : L[3]? = some (ByteArray.mk #[63, 60, 33]) := by rw [← hL]; rfl
  have Ll : L.length = 4 := by rw [← hL]; rfl
  have idx : ∀ r, Z2m L (L.length : Int) ((0 : Nat) : Int) (bl l) s.pos = some r → Z5S L (bl l) s.pos = some r := by
   intro r e
   apply Zec
   unfold Z5P
   exact e
  cases hw0 : wd [63, 61] s with
  | some s1 =>
   rw [idx _ (Zll h.at_ hl wL0 L0 hw0), q0_]
   obtain ⟨t1, t2, t3⟩ := Z2u wL0 h.at_ hl hw0
   have := go 7 0 0 s1 (t2.mv h)
   rw [t2.gr, t2.rf] at this
   exact this
  | none =>
  have i1 := fun r e => idx r (Zjr h.at_ hl wL0 L0 (by omega) hw0 r e)
  cases hw1 : wd [63, 33] s with
  | some s1 =>
   rw [i1 _ (Zll h.at_ hl wL1 L1 hw1), q0_]
   obtain ⟨t1, t2, t3⟩ := Z2u wL1 h.at_ hl hw1
   have := go 7 1 0 s1 (t2.mv h)
   rw [t2.gr, t2.rf] at this
   exact this
  | none =>
  have i2 := fun r e => i1 r (Zjr h.at_ hl wL1 L1 (by omega) hw1 r e)
  cases hw2 : wd [63, 60, 61] s with
  | some s1 =>
   rw [i2 _ (Zll h.at_ hl wL2 L2 hw2), q0_]
   obtain ⟨t1, t2, t3⟩ := Z2u wL2 h.at_ hl hw2
   have := go 7 2 0 s1 (t2.mv h)
   rw [t2.gr, t2.rf] at this
   exact this
  | none =>
  have i3 := fun r e => i2 r (Zjr h.at_ hl wL2 L2 (by omega) hw2 r e)
  cases hw3 : wd [63, 60, 33] s with
  | some s1 =>
   rw [i3 _ (Zll h.at_ hl wL3 L3 hw3), q0_]
   obtain ⟨t1, t2, t3⟩ := Z2u wL3 h.at_ hl hw3
   have := go 7 3 0 s1 (t2.mv h)
   rw [t2.gr, t2.rf] at this
   exact this
  | none =>
  have i4 := i3 _ (Zjr h.at_ hl wL3 L3 (by omega) hw3 _ (by have := ZCQ l s.pos L; rw [Ll] at this ⊢; exact this))
  rw [i4, q0_]
  dsimp only
  rw [if_neg (Z2a (show ¬ ((0 : Int) ≤ -1) by decide))]
  cases hw4 : wd [63, 62] s with
  | some s1 =>
   obtain ⟨t1, t2, t3⟩ := Z2u wAt h.at_ hl hw4
   rw [t1, q0_, if_pos rfl]
   have := go 8 0 0 s1 (t2.mv h)
   rw [t2.gr, t2.rf] at this
   exact this
  | none =>
  rw [Z4l wAt h.at_ hl hw4, q0_, if_neg ff]
  dsimp only
  cases hw5 : wd [63, 58] s with
  | some s1 =>
   obtain ⟨t1, t2, t3⟩ := Z2u wNo h.at_ hl hw5
   rw [t1, q0_, if_pos rfl]
   have := go 0 0 0 s1 (t2.mv h)
   rw [t2.gr, t2.rf] at this
   exact this
  | none =>
  rw [Z4l wNo h.at_ hl hw5, q0_, if_neg ff]
  dsimp only
  rw [Z9u h.at_, q0_]
  by_cases h1 : peek s.us = 63
  ·rw [if_pos h1, if_pos (Z1L h1), Z6C, q0_]
   exact stop _ _ _ _ _ _ _ _ _ _ _ (by decide) (by have := h.rf; omega)
  rw [if_neg h1, if_neg (Z1R h1)]
  by_cases h2 : s.gr = 9
  ·rw [if_pos h2, if_pos (Z1L h2), Z6C, q0_]
   exact stop _ _ _ _ _ _ _ _ _ _ _ (by decide) (by have := h.rf; omega)
  rw [if_neg h2, if_neg (Z1R h2), wrap_i64 (n := s.gr + 1) (by omega) (by omega)]
  have mm : Mv l s { s with gr := s.gr + 1 } := ⟨h.at_, Z2A _, by simp only []; omega, by simp only []; omega, Z2A _⟩
  exact go 5 0 (s.gr + 1) { s with gr := s.gr + 1 } mm
 ·apply Z9N
  unfold Z64
  rw [if_neg (Z1R (show ¬ d = 32 by omega))]
  exact e
theorem Znj {l : List UInt8} (hl : l.length ≤ 1000) : ∀ (k : Nat) (d : Int), d + k = 32 → 0 ≤ d → ∀ s, Inv l s → AltR l d s (pAlt k s) (Z4f (bl l) s.pos s.gr d s.rf 0 0) := by
 intro k
 induction k with
 | zero =>
  intro d hd h0 s h
  refine ZsH hl (P := fun p _ => .bad 25 p) ?_ h
  intro p s h
  refine ⟨by decide, nd0, true, s.gr, d, s.rf, by have := h.rf; omega, ?_⟩
  apply Z9N
  unfold Z64
  rw [if_pos (Z1L (show d = 32 by omega)), Z6C]
  rfl
 | succ k ih =>
  intro d hd h0 s h
  exact ZsH hl (P := fun p s => Zff (pAlt k) p s) (fun p s h => Zs6 hl (by omega) (ih (d + 1) (by omega) (by omega)) p s h) h
end Go.Proofs.YtocikhhkicahoaaDoor.N2
end
section
namespace Go.Proofs.YtocikhhkicahoaaDoor.N2
open Go Go.Abs Go.Proofs.Unis Go.Proofs.Norm
set_option maxRecDepth 100000
theorem ZoS {l : List UInt8} (R : List Zz) (hR : R.length ≤ 2000) (g c q k lo hi m rr : Int) (st : List Z8) (ks : List Z9) (fold : Bool) (hc : c ≠ 0) : ∀ (n i : Nat), i + n = R.length →
  Z7S R (R.length : Int) (i : Int) (bl l) g c q k lo hi m rr st ks fold = some (Zlq, ⟨c, q⟩) := by
 intro n
 induction n with
 | zero =>
  intro i h
  apply Z9F
  unfold Z6z Z8H
  rw [if_neg (Z2a (by omega)), if_pos (Zwn hc)]
  rfl
 | succ n ih =>
  intro i h
  have hil : i < R.length := by omega
  apply Z9F
  unfold Z6z Z8G
  rw [if_pos (Z1Q (by omega)), Z44, q4_ hil, q0_]
  have r13 : Z5i R (R.length : Int) (i : Int) (bl l) g c q k lo hi m rr st ks fold = some (Zlq, ⟨c, q⟩) := by
   unfold Z5i
   rw [wrap_i64 (by omega) (by omega)]
   exact ih (i + 1) (by omega)
  by_cases hg : g < R[i].group
  ·rw [if_pos (Z1Q hg), ZrR _ _ _ _ _ hc, q0_]
   exact r13
  ·rw [if_neg (Z2a hg)]
   exact r13
theorem ZEv {l : List UInt8} (R : List Zz) (hR : R.length ≤ 2000) (g k lo hi m rr : Int) (st : List Z8) (ks : List Z9) (fold : Bool) : ∀ (n i : Nat), i + n = R.length →
  Z7S R (R.length : Int) (i : Int) (bl l) g 0 0 k lo hi m rr st ks fold = some (match (R.drop i).find? (fun x => decide (g < x.group)) with
   | some x => (Zlq, ⟨26, x.at_⟩)
   | none => (⟨⟨k, lo, hi, m, rr, st, ks⟩, g, fold⟩, ⟨0, 0⟩)) := by
 intro n
 induction n with
 | zero =>
  intro i h
  rw [Zg6 (by omega)]
  apply Z9F
  unfold Z6z Z8H
  rw [if_neg (Z2a (by omega)), if_neg (Zwm rfl)]
  rfl
 | succ n ih =>
  intro i h
  have hil : i < R.length := by omega
  apply Z9F
  unfold Z6z Z8G
  rw [if_pos (Z1Q (by omega)), Z44, q4_ hil, q0_, Zg7 hil, List.find?_cons]
  by_cases hg : g < R[i].group
  ·rw [if_pos (Z1Q hg), Z6C, q0_]
   simp only [hg, decide_true]
   unfold Z5i
   rw [wrap_i64 (by omega) (by omega)]
   exact ZoS R hR g 26 _ k lo hi m rr st ks fold (by decide) n (i + 1) (by omega)
  ·rw [if_neg (Z2a hg)]
   simp only [hg, decide_false]
   unfold Z5i
   rw [wrap_i64 (by omega) (by omega)]
   exact ih (i + 1) (by omega)
theorem wFo : Wd (ByteArray.mk #[40, 63, 105, 41]) [40, 63, 105, 41] := ⟨[40, 63, 105, 41], rfl, rfl, by decide, by decide, by decide⟩
def Z4j (x : ByteArray) : ZZ × Z17 :=
 if 256 < x.data.toList.length then (Zlq, ⟨12, 0⟩) else ZaX (unis x.data.toList)
theorem Zws {l : List UInt8} (hl : l.length ≤ 1000) (fold : Bool) {s : St} (h : Inv l s) (hg : s.gr = 0) (hrf : s.rf = []) :
  ((Z4f (bl l) s.pos 0 0 [] 0 0).bind fun r2 =>
   if ((r2.2.2.2.2.2.1 == 0)) = true then
   (if ((decide (r2.2.1 < ((bl l).length : Int)))) = true then
   (Z9g (bl l) r2.2.1 r2.2.2.1 r2.2.2.2.2.1 r2.2.2.2.2.2.1 r2.2.2.2.2.2.2 r2.1.Kind r2.1.Lo r2.1.Hi r2.1.Mode r2.1.Ref r2.1.Set r2.1.Kids fold)
   else
   (Z4U (bl l) r2.2.2.1 r2.2.2.2.2.1 r2.2.2.2.2.2.1 r2.2.2.2.2.2.2 r2.1.Kind r2.1.Lo r2.1.Hi r2.1.Mode r2.1.Ref r2.1.Set r2.1.Kids fold))
   else
   (Z4U (bl l) r2.2.2.1 r2.2.2.2.2.1 r2.2.2.2.2.2.1 r2.2.2.2.2.2.2 r2.1.Kind r2.1.Lo r2.1.Hi r2.1.Mode r2.1.Ref r2.1.Set r2.1.Kids fold)) = some (pEnd fold (pAlt 32 s)) := by
 have ha := Znj hl 32 0 (by omega) (by omega) s h
 rw [hg, hrf] at ha
 cases hp : pAlt 32 s with
 | bad c q =>
  rw [hp] at ha
  obtain ⟨hc, n, g', d', rf', hq, ha⟩ := ha
  rw [ha, q0_]
  dsimp only
  rw [if_neg (Z1R hc)]
  unfold Z4U pEnd
  exact ZoS (l := l) rf' (by omega) g' c q n.Kind n.Lo n.Hi n.Mode n.Ref n.Set n.Kids fold hc rf'.length 0 (by omega)
 | ok n s2 =>
  rw [hp] at ha
  obtain ⟨ha, hm⟩ := ha
  have hi := hm.inv h
  have hR := hi.rf
  rw [ha, q0_]
  dsimp only
  rw [if_pos (Z1L rfl), Zc5]
  unfold Z9g Z4U pEnd
  by_cases hn : s2.us = []
  ·have hpos := hm.at_.nil.1 hn
   rw [if_neg (Z2a (by omega))]
   dsimp only
   rw [if_neg (Zqy hn)]
   have := ZEv (l := l) s2.rf (by omega) s2.gr n.Kind n.Lo n.Hi n.Mode n.Ref n.Set n.Kids fold s2.rf.length 0 (by omega)
   rw [ZrG, show (⟨n.Kind, n.Lo, n.Hi, n.Mode, n.Ref, n.Set, n.Kids⟩ : Z9) = n by cases n; rfl] at this
   exact this
  ·have hpos : s2.pos < (l.length : Int) := by
    have h1 := hm.at_.len
    have : s2.pos ≠ l.length := fun e => hn (hm.at_.nil.2 e)
    omega
   rw [if_pos (Z1Q hpos), Z6C, q0_]
   dsimp only
   rw [if_pos hn]
   exact ZoS (l := l) s2.rf (by omega) s2.gr 20 _ n.Kind n.Lo n.Hi n.Mode n.Ref n.Set n.Kids fold (by decide) s2.rf.length 0 (by omega)
theorem ZmS (x : ByteArray) : Zbs x = some (Z4j x) := by
 apply Zoo
 unfold ZdX Z4j
 have hsz : x.size = x.data.toList.length := rfl
 by_cases h : 256 < x.data.toList.length
 ·rw [if_pos (Z1Q (by rw [hsz]; omega)), if_pos h]
  rfl
 ·rw [if_neg (Z2a (by rw [hsz]; omega)), if_neg h]
  unfold Zb9 ZaX
  rw [ZyX]
  generalize x.data.toList = l at h ⊢
  have hat : At l ⟨unis l, 0, 0, []⟩ := ⟨0, by omega, rfl, rfl⟩
  have hi : Inv l ⟨unis l, 0, 0, []⟩ := ⟨hat, by simp, by simp, by have := hat.len; simp only [] at this; simp; omega⟩
  cases hw : wd [40, 63, 105, 41] ⟨unis l, 0, 0, []⟩ with
  | none =>
   have := Z4l wFo hat (by omega) hw
   dsimp only at this
   rw [this, q0_]
   exact Zws (by omega) false hi rfl rfl
  | some s1 =>
   obtain ⟨t1, t2, t3⟩ := Z2u wFo hat (by omega) hw
   dsimp only at t1
   rw [t1, q0_]
   exact Zws (by omega) true ((t2.mv hi).inv hi) t2.gr t2.rf
end Go.Proofs.YtocikhhkicahoaaDoor.N2
end
