/- The program's parser is the plain function. No condition. -/
import Derived.Test.YteoeggbihfnbfaaGreatDoorPlainA
import Derived.Test.YteoeggbihfnbfaaGreatDoorTypB
import Derived.Test.YteoeggbihfnbfaaGreatDoorTypC

set_option linter.unusedSimpArgs false
set_option linter.unusedVariables false
set_option linter.defProp false
section
namespace Go.Proofs.YteoeggbihfnbfaaGreatDoor.N2
open Go Go.Abs Go.Proofs.Unis Go.Proofs.Norm
set_option maxRecDepth 100000
theorem ZB7 {a b : ByteArray} : seq a b = true ↔ a = b := by
 unfold seq
 rw [← beq_toListBytes]
 obtain ⟨⟨x⟩⟩ := a
 obtain ⟨⟨y⟩⟩ := b
 show ((⟨x⟩ : Array UInt8) == ⟨y⟩) = true ↔ _
 simp
theorem Z3a {α : Type} (l : List α) (i : Nat) : lget l (i : Int) = l[i]? := by simp [lget]
def bl (l : List UInt8) : List Int := l.map fun b => (b.toNat : Int)
theorem Ze5 (l : List UInt8) : (bl l).length = l.length := by simp [bl]
theorem ZFD (x : ByteArray) : Z56 x = bl x.data.toList := rfl
theorem ZLl (l : List UInt8) : strI (bl l) = ⟨l.toArray⟩ := by
 unfold strI bl
 rw [Zqi]
 have : (fun n : Int => UInt8.ofNat n.toNat) ∘ (fun b : UInt8 => (b.toNat : Int)) = id := by
  funext b
  simp
 rw [this, List.map_id]
theorem ZHf (l : List UInt8) (i j : Nat) (h : i ≤ j) (hj : j ≤ l.length) : lsl (bl l) (i : Int) (j : Int) = some (bl ((l.drop i).take (j - i))) := by
 unfold lsl
 rw [if_pos (by rw [Ze5]; omega)]
 simp only [Int.toNat_natCast, bl, ← List.map_take, ← List.map_drop, List.drop_take]
theorem ZD9 (l : List UInt8) (h : l ≠ []) : Zaw (bl l) = some (((Lib.decodeGo ⟨l.toArray⟩).1 : Int), ((Lib.decodeGo ⟨l.toArray⟩).2 : Int)) := by
 refine Z1g (fun _ _ ha hb => RRun.uniq ZjK (ha .sh) (hb .sh)) fun o => ?_
 have e : EE 146 [(.p (.lst o ((bl l).map (eI .u8))))] [] = some ((.p (.tup [(.v (.int .i32 (Lib.decodeGo ⟨l.toArray⟩).1)), (.v (.int .i64 (Lib.decodeGo ⟨l.toArray⟩).2))])), []) := by
  rw [show EE 146 = E PP XX HH 146 from rfl, ZyL (P := PP) (X := XX) (H := HH) (f := 146) (m := ZsT) (by kernel_rfl)]
  have hb : (bl l).map (eI .u8) = l.map fun b => .v (.int .u8 b.toNat) := by
   unfold bl
   rw [Zqi]
   rfl
  rw [hb]
  cases l with
  | nil => exact absurd rfl h
  | cons a r =>
   show (ZjL ((a :: r).map fun b => .v (.int .u8 b.toNat))).map _ = _
   rw [ZuH]
   rfl
 exact ⟨_, e, [], by simp⟩
theorem ZAt (l : List UInt8) (i : Nat) (h : i < l.length) : Zgl (bl l) (i : Int) = some ((U (l.drop i)).1, ((U (l.drop i)).2 : Int)) := by
 have hne : l.drop i ≠ [] := by
  intro e
  have := congrArg List.length e
  simp at this
  omega
 apply Zy5
 unfold ZjC
 rw [if_neg (by simp), if_neg (by simp [Ze5]; omega)]
 unfold ZeM
 have hl : lsl (bl l) (i : Int) ((bl l).length : Int) = some (bl (l.drop i)) := by
  rw [Ze5, ZHf l i l.length (by omega) (q7_ _), ZIO (by simp)]
 rw [hl, q0_, ZD9 _ hne, q0_]
 have hd := ZLy hne
 have hU : U (l.drop i) = ZdK (nth (l.drop i) 0) (Lib.decodeGo ⟨(l.drop i).toArray⟩) := by
  rw [hd]; rfl
 have h0 : nth (l.drop i) 0 = (l.getD i 0).toNat := by simp [nth]
 have hg : lget (bl l) (i : Int) = some (((l.getD i 0).toNat : Nat) : Int) := by
  rw [Z3a, bl, q5_, Za3, q2_ h]
  rfl
 have hlt : (l.getD i 0).toNat < 256 := UInt8.toNat_lt _
 have hb := (ZyI ⟨(l.drop i).toArray⟩).1
 rw [hU, ZdK]
 simp only [beq_iff_eq]
 have r6 : ZaH ((Lib.decodeGo ⟨(l.drop i).toArray⟩).1 : Int) ((Lib.decodeGo ⟨(l.drop i).toArray⟩).2 : Int) = some (((Lib.decodeGo ⟨(l.drop i).toArray⟩).1 : Int), ((Lib.decodeGo ⟨(l.drop i).toArray⟩).2 : Int)) := by
  unfold ZaH
  rw [wrap_i64 (by omega) (by omega)]
 by_cases h1 : (Lib.decodeGo ⟨(l.drop i).toArray⟩).1 = 65533
 ·rw [if_pos (by omega)]
  by_cases h2 : (Lib.decodeGo ⟨(l.drop i).toArray⟩).2 = 1
  ·rw [if_pos (by omega), if_pos ⟨h1, h2⟩]
   unfold ZeN
   rw [hg, q0_, wrap_i64 (n := ((l.getD i 0).toNat : Int)) (by omega) (by omega), wrap_i64 (by omega) (by omega), h0]
   rfl
  ·rw [if_neg (by omega), if_neg (fun h => h2 h.2), r6]
 ·rw [if_neg (by omega), if_neg (fun h => h1 h.1), r6]
def At (l : List UInt8) (s : St) : Prop := ∃ i : Nat, i ≤ l.length ∧ s.pos = (i : Int) ∧ s.us = unis (l.drop i)
theorem At.nil {l : List UInt8} {s : St} (h : At l s) : s.us = [] ↔ s.pos = l.length := by
 obtain ⟨i, h1, h2, h3⟩ := h
 rw [h3, h2]
 constructor
 ·intro e
  by_cases hn : l.drop i = []
  ·have := congrArg List.length hn
   simp at this
   omega
  ·rw [Zkn hn] at e
   simp at e
 ·intro e
  rw [q9_ (by omega)]
  rfl
theorem At.len {l : List UInt8} {s : St} (h : At l s) : s.us.length ≤ l.length ∧ 0 ≤ s.pos ∧ s.pos ≤ l.length := by
 obtain ⟨i, h1, h2, h3⟩ := h
 have := ZBf _ (l.drop i) (q7_ _)
 rw [Zuk] at this
 rw [h3]
 omega
theorem At.cons {l : List UInt8} {s : St} (h : At l s) (hn : s.us ≠ []) : ∃ (i : Nat), i < l.length ∧ s.pos = (i : Int) ∧ peek s.us = (U (l.drop i)).1 ∧ (take s).pos = (i : Int) + ((U (l.drop i)).2 : Int) ∧ (take s).us = unis (l.drop (i + (U (l.drop i)).2)) ∧ i + (U (l.drop i)).2 ≤ l.length ∧ s.us.length = (take s).us.length + 1 := by
 have hp : s.pos ≠ l.length := fun e => hn (h.nil.2 e)
 obtain ⟨i, h1, h2, h3⟩ := h
 have hi : i < l.length := by omega
 have hne : l.drop i ≠ [] := by
  intro e
  have := congrArg List.length e
  simp at this
  omega
 have hz := ZLv hne
 rw [Zuk] at hz
 rw [Zkn hne] at h3
 refine ⟨i, hi, h2, by rw [h3]; rfl, ?_, ?_, by omega, ?_⟩
 ·unfold take
  rw [h3]
  show s.pos + _ = _
  rw [h2]
 ·unfold take
  rw [h3]
  show unis _ = _
  rw [Zuq]
 ·unfold take
  rw [h3]
  rfl
theorem At.take {l : List UInt8} {s : St} (h : At l s) : At l (take s) := by
 by_cases hn : s.us = []
 ·have : N2.take s = s := by unfold N2.take; rw [hn]
  rw [this]
  exact h
 ·obtain ⟨i, h1, h2, h3, h4, h5, h6, h7⟩ := h.cons hn
  exact ⟨i + (U (l.drop i)).2, h6, by rw [h4]; omega, h5⟩
theorem At.range {l : List UInt8} {s : St} (h : At l s) : peek s.us = -1 ∧ s.us = [] ∨ 0 ≤ peek s.us ∧ peek s.us ≤ 1114367 ∧ s.us ≠ [] := by
 by_cases hn : s.us = []
 ·exact .inl ⟨by rw [hn]; rfl, hn⟩
 ·obtain ⟨i, _, _, h3, _⟩ := h.cons hn
  have := ZJo (l.drop i)
  exact .inr ⟨by omega, by omega, hn⟩
theorem Zbc {l : List UInt8} {s : St} (h : At l s) (g d : Int) (rf : List Zz) (f : Z1n) : Z3h ⟨bl l, s.pos, g, d, rf, f⟩ = some (peek s.us) := by
 apply Zne
 unfold Zbi
 by_cases hn : s.us = []
 ·have := h.nil.1 hn
  rw [if_pos (by simp [Ze5]; omega), hn]
  rfl
 ·obtain ⟨i, h1, h2, h3, _⟩ := h.cons hn
  rw [if_neg (by simp [Ze5]; omega)]
  unfold Z9y
  simp only [h2]
  rw [ZAt l i h1, q0_, h3]
theorem Zez {l : List UInt8} {s : St} (h : At l s) (hl : l.length ≤ 100000) (hn : s.us ≠ []) : Z3U (bl l) s.pos = some (peek s.us, (take s).pos) := by
 obtain ⟨i, h1, h2, h3, h4, h5, h6, _⟩ := h.cons hn
 apply Znf
 unfold Zbj
 rw [h2, ZAt l i h1, q0_, h3, h4, wrap_i64 (by omega) (by omega)]
theorem ZCC : ∀ (w : List Int) (us t : List Un), isW w us = some t → us.length = t.length + w.length
 | [], us, t, h => by
  simp only [isW, q1_] at h
  subst h
  rfl
 | c :: w, [], t, h => by simp [isW] at h
 | c :: w, (u, n) :: us, t, h => by
  simp only [isW] at h
  split at h
  ·have := ZCC w us t h
   simp only [Z7t]
   omega
  ·simp at h
theorem Zyt : ∀ (w : List UInt8) (l : List UInt8), (∀ c ∈ w, c.toNat < 128) → isW (bl w) (unis l) = if l.take w.length = w then some (unis (l.drop w.length)) else none
 | [], l, _ => by simp [bl, isW]
 | c :: w, [], _ => by simp [bl, isW, Zux]
 | c :: w, x :: l, hw => by
  have hc := hw c (Zjt ..)
  have hc' : c.toNat < 128 := hc
  show (isW ((c.toNat : Int) :: bl w) (unis (x :: l))) = _
  by_cases hx : x.toNat < 128
  ·rw [ZFm hx]
   simp only [isW, Z7t, List.take_succ_cons, List.drop_succ_cons, Zqh]
   by_cases he : x = c
   ·subst he
    simp only [if_true, true_and]
    exact Zyt w l fun d hd => hw d (Zm3 _ hd)
   ·have : ¬ ((x.toNat : Int) = (c.toNat : Int)) := fun e => he (UInt8.toNat_inj.1 (by omega))
    rw [if_neg this, if_neg (fun e => he e.1)]
  ·have hU := ZLu (c := x) (l := l) (by omega)
   rw [Zkn (by simp)]
   simp only [isW, Z7t, List.take_succ_cons, Zqh]
   rw [if_neg (by omega), if_neg (fun e => by rw [e.1] at hx; omega)]
theorem ZBh {l : List UInt8} {s : St} (h : At l s) (hl : l.length ≤ 100000) (w : List UInt8) (hw : ∀ c ∈ w, c.toNat < 128) (hwl : w.length ≤ 100) :
  Z2j ⟨w.toArray⟩ (bl l) s.pos = some (match wd (bl w) s with | some s1 => (true, s1.pos) | none => (false, s.pos)) ∧ ∀ s1, wd (bl w) s = some s1 → At l s1 ∧ s.us.length = s1.us.length + w.length ∧ s1.gr = s.gr ∧ s1.rf = s.rf := by
 obtain ⟨i, h1, h2, h3⟩ := h
 have hW := Zyt w (l.drop i) hw
 have hsz : (⟨w.toArray⟩ : ByteArray).size = w.length := by show w.toArray.size = _; simp
 have hwd : wd (bl w) s = if (l.drop i).take w.length = w then some { s with us := unis ((l.drop i).drop w.length), pos := s.pos + w.length } else none := by
  unfold wd
  rw [h3, hW]
  by_cases hc : (l.drop i).take w.length = w
  ·rw [if_pos hc, if_pos hc]
   simp only [Ze5]
  ·rw [if_neg hc, if_neg hc]
 have hlen : (l.drop i).take w.length = w → i + w.length ≤ l.length := by
  intro e
  have := congrArg List.length e
  simp at this
  omega
 constructor
 ·apply Zng
  unfold Zbk
  rw [hwd, h2, Ze5, hsz, wrap_i64 (n := (l.length : Int) - i) (by omega) (by omega), wrap_i64 (n := (i : Int) + (w.length : Int)) (by omega) (by omega)]
  by_cases hk : i + w.length ≤ l.length
  ·rw [if_neg (by simp; omega), show (i : Int) + (w.length : Int) = ((i + w.length : Nat) : Int) by omega, ZHf l i _ (by omega) hk, q0_, ZLl, Nat.add_sub_cancel_left]
   by_cases hc : (l.drop i).take w.length = w
   ·rw [if_pos hc, hc, if_neg (by simp [ZB7])]
    unfold Z9A
    rw [hsz, wrap_i64 (by omega) (by omega)]
    simp
   ·have hs : seq ⟨((l.drop i).take w.length).toArray⟩ ⟨w.toArray⟩ = false := by
     cases hq : seq ⟨((l.drop i).take w.length).toArray⟩ ⟨w.toArray⟩ with
     | false => rfl
     | true =>
      have := ZB7.1 hq
      exact absurd (by simpa using congrArg (fun x : ByteArray => x.data.toList) this) hc
    rw [if_neg hc, hs, if_pos (by rfl)]
    rfl
  ·rw [if_pos (by simp; omega), if_neg (fun e => hk (hlen e))]
   rfl
 ·intro s1 e
  rw [hwd] at e
  split at e
  ·rename_i hc
   cases e
   have hk := hlen hc
   rw [if_pos hc] at hW
   have := ZCC _ _ _ hW
   rw [Ze5] at this
   exact ⟨⟨i + w.length, hk, by simp only [h2]; omega, by simp only [Zuq]⟩, by rw [h3]; exact this, rfl, rfl⟩
  ·simp at e
theorem Z82 (c p : Int) (l : List UInt8) : Z1A c p (bl l) 0 0 = some ((l.length : Int), c, p) := by
 apply ZfX
 unfold Z99
 rw [if_pos (by rfl)]
 unfold Z68
 rw [Ze5]
theorem Zyn (c p c0 p0 : Int) (l : List UInt8) (h : c0 ≠ 0) : Z1A c p (bl l) c0 p0 = some ((l.length : Int), c0, p0) := by
 apply ZfX
 unfold Z99
 rw [if_neg (by simpa using h)]
 unfold Z68
 rw [Ze5]
theorem Z9s (u : Int) : Z35 u = some ⟨u, u⟩ := Zy1 _ rfl
theorem Zl8 (k : Int) (l : List Zj) : ZcI k l = some (joined k l) := by
 apply Zt5
 unfold ZeI
 match l with
 | [] => rfl
 | [x] => rfl
 | x :: y :: r =>
  rw [if_neg (by simp; omega), if_neg (by simp; omega)]
  rfl
end Go.Proofs.YteoeggbihfnbfaaGreatDoor.N2
end
section
namespace Go.Proofs.Norm
def AscF (a : Int) : List R2 → Prop
 | [] => True
 | r :: t => (0 ≤ r.1 ∧ r.1 ≤ r.2 ∧ r.2 ≤ 1114367) ∧ a + 2 ≤ r.1 ∧ AscF r.2 t
def ZrH (a : Int) : List R2 → Int
 | [] => a
 | r :: t => ZrH r.2 t
theorem Zq0 (a : Int) : ∀ (l : List R2) (r : R2), ZrH a (l ++ [r]) = r.2
 | [], r => rfl
 | x :: l, r => Zq0 x.2 l r
theorem Ztw : ∀ (l : List R2) (a : Int) (r : R2), AscF a (l ++ [r]) ↔ AscF a l ∧ (0 ≤ r.1 ∧ r.1 ≤ r.2 ∧ r.2 ≤ 1114367) ∧ ZrH a l + 2 ≤ r.1
 | [], a, r => by simp [AscF, ZrH]
 | x :: l, a, r => by
  simp only [Zup, AscF, ZrH, Ztw l x.2 r]
  constructor
  ·rintro ⟨h1, h2, h3, h4⟩; exact ⟨⟨h1, h2, h3⟩, h4⟩
  ·rintro ⟨⟨h1, h2, h3⟩, h4⟩; exact ⟨h1, h2, h3, h4⟩
theorem Desc.asc : ∀ {l : List R2}, Desc l → AscF (-2) l.reverse
 | [], _ => trivial
 | [r], h => by
  have h : 0 ≤ r.1 ∧ r.1 ≤ r.2 ∧ r.2 ≤ 1114367 := h
  exact ⟨h, by omega, trivial⟩
 | r :: o :: os, h => by
  rw [ZrT, Ztw]
  refine ⟨h.2.2.asc, h.1, ?_⟩
  rw [ZrT, Zq0]
  exact h.2.1
theorem AscF.norm : ∀ {l : List R2}, AscF (-2) l.reverse → Desc l
 | [], _ => trivial
 | [r], h => h.1
 | r :: o :: os, h => by
  rw [ZrT, Ztw] at h
  refine ⟨h.2.1, ?_, h.1.norm⟩
  have := h.2.2
  rw [ZrT, Zq0] at this
  exact this
theorem Zfc {l : List R2} : Z5k l ↔ AscF (-2) l := by
 unfold Z5k
 constructor
 ·intro h
  have := h.asc
  rwa [List.reverse_reverse] at this
 ·intro h
  apply AscF.norm
  rwa [List.reverse_reverse]
theorem AscF.mono : ∀ {l : List R2} {a a' : Int}, AscF a l → a' ≤ a → AscF a' l
 | [], _, _, _, _ => trivial
 | r :: t, a, a', h, hl => ⟨h.1, by have := h.2.1; omega, h.2.2⟩
theorem AscF.right : ∀ {l : List R2} {a : Int}, AscF a l → ∀ r ∈ l, 0 ≤ r.1 ∧ r.1 ≤ r.2 ∧ r.2 ≤ 1114367
 | [], _, _, r, hr => by simp at hr
 | x :: t, a, h, r, hr => by
  rcases Z5g.1 hr with rfl | hr
  ·exact h.1
  ·exact h.2.2.right r hr
theorem AscF.len : ∀ {l : List R2} {a : Int}, AscF a l → l ≠ [] → a + 2 * (l.length : Int) ≤ 1114367
 | [], _, _, hn => absurd rfl hn
 | [r], a, h, _ => by
  have := h.1
  have := h.2.1
  simp only [Z7t, Zbd]
  omega
 | r :: o :: t, a, h, _ => by
  have := h.1
  have := h.2.1
  have := h.2.2.len (by simp)
  simp only [Z7t] at *
  omega
theorem Zq7 {l : List R2} (h : Z5k l) : l.length ≤ 557185 := by
 by_cases hn : l = []
 ·subst hn; simp
 ·have := (Zfc.1 h).len hn
  omega
theorem Zeu {l : List R2} (h : Z5k l) : ∀ r ∈ l, 0 ≤ r.1 ∧ r.1 ≤ r.2 ∧ r.2 ≤ 1114367 := (Zfc.1 h).right
end Go.Proofs.Norm
namespace Go.Proofs.YteoeggbihfnbfaaGreatDoor.N2
open Go Go.Abs Go.Proofs.Unis Go.Proofs.Norm
set_option maxRecDepth 100000
theorem Zuc : ∀ (l : List R2) (at_ a : Int), 0 ≤ at_ → a + 2 ≤ at_ → AscF (at_ - 2) l → AscF a (notL at_ l)
 | [], at_, a, h0, ha, _ => by
  unfold notL
  split
  ·exact ⟨⟨h0, by assumption, by simp⟩, ha, trivial⟩
  ·trivial
 | r :: t, at_, a, h0, ha, h => by
  have h1 := h.1
  have h2 := h.2.1
  unfold notL
  split
  ·exact ⟨⟨h0, by simp only []; omega, by simp only []; omega⟩, ha, Zuc t _ _ (by omega) (by simp only []; omega) (h.2.2.mono (by omega))⟩
  ·exact Zuc t _ _ (by omega) (by omega) (h.2.2.mono (by omega))
theorem Ztr {l : List R2} (h : Z5k l) : Z5k (notF l) :=
 Zfc.2 (Zuc l 0 (-2) (by omega) (by omega) (Zfc.1 h))
theorem ZyD (r : R2) : Z9e (ofR r) = some (decide (0 ≤ r.1 ∧ r.1 ≤ r.2 ∧ r.2 ≤ 1114367)) := by
 apply Zn3
 unfold Zbg
 simp only [ofR]
 by_cases h1 : 0 ≤ r.1
 ·by_cases h2 : r.1 ≤ r.2
  ·simp [h1, h2]
   exact decide_eq_decide.2 Iff.rfl
  ·simp [h1, h2]
 ·simp [h1]
theorem ZsL (rs : List R2) : (rs.map ofR).map ZB = rs.map encR := by
 rw [Zqi]
 rfl
theorem Znu : ∀ rs : List R2, Zhp (rs.map encR) = some rs
 | [] => rfl
 | r :: t => by
  rw [Z8x, Zhp, Znu t]
  rfl
theorem ZvP (rs : List R2) (hl : rs.length ≤ 1048576) (hr : ∀ r ∈ rs, 0 ≤ r.1 ∧ r.1 ≤ r.2 ∧ r.2 ≤ 1114367) : ZeT (rs.map ofR) = some ((Z8s rs).map ofR) := by
 refine Z1g (fun _ _ ha hb => RRun.uniq ZcX (ha .sh) (hb .sh)) fun o => ?_
 have e : EE 169 [(.p (.lst o ((rs.map ofR).map ZB)))] [] = some ((.p (.lst .sh (((Z8s rs).map ofR).map ZB))), []) := by
  rw [show EE 169 = E PP XX HH 169 from rfl, ZyL (P := PP) (X := XX) (H := HH) (f := 169) (m := ZoU) (by kernel_rfl), ZsL, ZsL]
  unfold ZoU
  simp only [Znu]
  rw [if_pos ⟨hl, hr⟩]
 exact ⟨_, e, [], by simp⟩
theorem ZD7 (a b : List R2) (hl : a.length + b.length ≤ 1048576) : ZcO [a.map ofR, b.map ofR] = some ((a ++ b).map ofR) := by
 refine Z1g (fun _ _ ha hb => RRun.uniq ZcX (ha .sh) (hb .sh)) fun o => ?_
 have e : EE 174 [(.p (.lst o ([a.map ofR, b.map ofR].map (eL ZB))))] [] = some ((.p (.lst .sh (((a ++ b).map ofR).map ZB))), []) := by
  rw [show EE 174 = E PP XX HH 174 from rfl, ZyL (P := PP) (X := XX) (H := HH) (f := 174) (m := ZoT) (by kernel_rfl), ZsL]
  have h1 : [a.map ofR, b.map ofR].map (eL ZB) = [.lst .sh (a.map encR), .lst .sh (b.map encR)] := by
   simp only [Z8x, Zm4, eL, ZsL]
  rw [h1]
  unfold ZoT
  simp only [Zoz, Znu, Za6, List.flatten_cons, List.flatten_nil, Zqj]
  rw [if_pos ⟨by simp, by rw [Za4]; exact hl⟩]
 exact ⟨_, e, [], by simp⟩
theorem Zy8 {rs : List R2} {i : Nat} (h : i < rs.length) : lget (rs.map ofR) (i : Int) = some (ofR rs[i]) := by
 rw [Z3a, q5_, q2_ h]
 rfl
theorem ZyJ (L : List R2) (hl : L.length ≤ 1000000) : ∀ (d i : Nat) (a : Int), i + d = L.length → -2 ≤ a → a ≤ 1114367 → AscF a (L.drop i) → Z8k a (L.map ofR) (L.length : Int) (i : Int) = some true := by
 intro d
 induction d with
 | zero =>
  intro i a h _ _ _
  apply Ze7
  unfold Z87
  rw [if_neg (by simp; omega)]
  rfl
 | succ d ih =>
  intro i a h ha ha2 hA
  have hi : i < L.length := by omega
  rw [Zdp hi] at hA
  have h1 := hA.1
  have h2 := hA.2.1
  apply Ze7
  unfold Z87 Z9T
  rw [if_pos (by simp; omega), Zy8 hi, q0_, ZyD, q0_, if_neg (by simp; omega), wrap_i64 (n := a + 2) (by omega) (by omega), if_neg (by rw [decide_eq_true_eq]; show ¬ (L[i].1 < a + 2); omega)]
  unfold Z9V Z9W
  rw [wrap_i64 (by omega) (by omega)]
  exact ih (i + 1) _ (by omega) (by simp only [ofR]; omega) (by simp only [ofR]; omega) hA.2.2
theorem ZlY {L : List R2} (h : Z5k L) : Z8j (L.map ofR) = some true := by
 apply Zo7
 unfold ZbG
 rw [Zdr]
 have := Zq7 h
 exact ZyJ L (by omega) L.length 0 (-2) (by omega) (by omega) (by omega) (Zfc.1 h)
theorem ZIx (L : List R2) (hl : L.length ≤ 1000000) (hr : ∀ r ∈ L, 0 ≤ r.1 ∧ r.1 ≤ r.2 ∧ r.2 ≤ 1114367) : ∀ (d i : Nat) (acc : List R2) (a : Int), i + d = L.length → acc.length ≤ i → 0 ≤ a → a ≤ 1114368 → Z9L (acc.map ofR) a (L.map ofR) (L.length : Int) (i : Int) = some ((acc ++ notL a (L.drop i)).map ofR) := by
 intro d
 induction d with
 | zero =>
  intro i acc a h hacc ha ha2
  rw [q9_ (by omega)]
  apply Zhc
  unfold Z9G
  rw [if_neg (by simp; omega)]
  unfold Zbh notL
  by_cases hc : a ≤ 1114367
  ·rw [if_pos (by simpa using hc), if_pos hc]
   unfold lapp
   rw [if_pos (by simp [lim]; omega)]
   unfold Z7J
   simp [ofR]
  ·rw [if_neg (by simpa using hc), if_neg hc]
   unfold Z7J
   simp
 | succ d ih =>
  intro i acc a h hacc ha ha2
  have hi : i < L.length := by omega
  have h1 := hr L[i] (ZrP hi)
  rw [Zdp hi]
  apply Zhc
  unfold Z9G ZbI
  rw [if_pos (by simp; omega), Zy8 hi, q0_]
  unfold notL
  have r8 : ∀ acc' : List R2, acc'.length ≤ i + 1 → Z88 (acc'.map ofR) (L.map ofR) (L.length : Int) (i : Int) (ofR L[i]) = some ((acc' ++ notL (L[i].2 + 1) (L.drop (i + 1))).map ofR) := by
   intro acc' hacc'
   unfold Z88 ZbJ
   rw [show (ofR L[i]).Hi = L[i].2 from rfl, wrap_i64 (n := L[i].2 + 1) (by omega) (by omega), wrap_i64 (n := (i : Int) + 1) (by omega) (by omega)]
   exact ih (i + 1) acc' _ (by omega) hacc' (by omega) (by omega)
  by_cases hc : a < L[i].1
  ·rw [if_pos (decide_eq_true (show a < (ofR L[i]).Lo from hc)), if_pos hc]
   unfold lapp
   rw [if_pos (by simp [lim]; omega), q0_, show (ofR L[i]).Lo = L[i].1 from rfl, wrap_i64 (n := L[i].1 - 1) (by omega) (by omega)]
   have := r8 (acc ++ [(a, L[i].1 - 1)]) (by simp; omega)
   rw [List.map_append] at this
   rw [show List.map ofR [(a, L[i].1 - 1)] = [Zi.mk a (L[i].1 - 1)] from rfl] at this
   rw [this, ZFh]
   rfl
  ·rw [if_neg (by rw [decide_eq_true_eq]; exact hc), if_neg hc]
   exact r8 acc (by omega)
theorem ZCI {L : List R2} (h : Z5k L) : ZbT (L.map ofR) = some ((notF L).map ofR, 0) := by
 apply Zro
 unfold ZdQ
 rw [ZlY h, q0_, if_neg (by simp)]
 unfold ZbH
 have : ZdZ (L.map ofR) = some ((notF L).map ofR) := by
  apply Zrq
  unfold ZdR
  rw [Zdr]
  have := Zq7 h
  have := ZIx L (by omega) (Zeu h) L.length 0 [] 0 (by omega) (by simp) (by omega) (by omega)
  simpa [notF] using this
 rw [this]
 rfl
theorem ZFo (L : List R2) (hl : L.length ≤ 1000000) (hr : ∀ r ∈ L, 0 ≤ r.1 ∧ r.1 ≤ r.2 ∧ r.2 ≤ 1114367) : ∀ (d i : Nat), i + d = L.length → Z4S (L.map ofR) (L.length : Int) (i : Int) = some (-1) := by
 intro d
 induction d with
 | zero =>
  intro i h
  apply Zai
  unfold Z4P
  rw [if_neg (by simp; omega)]
  rfl
 | succ d ih =>
  intro i h
  have hi : i < L.length := by omega
  have h1 := hr L[i] (ZrP hi)
  apply Zai
  unfold Z4P Z64
  have hm : ZeR (ofR L[i]) = some false := by
   apply ZsY
   unfold ZeE
   rw [ZyD]
   simp [h1]
  rw [if_pos (by simp; omega), Zy8 hi, q0_, hm, q0_, if_neg (by simp)]
  unfold Z65
  rw [wrap_i64 (by omega) (by omega)]
  exact ih (i + 1) (by omega)
theorem ZIv {L : List R2} (hl : L.length ≤ 1000000) (hr : ∀ r ∈ L, 0 ≤ r.1 ∧ r.1 ≤ r.2 ∧ r.2 ≤ 1114367) : ZhS (L.map ofR) = some ((Z8s L).map ofR, 0) := by
 have h1 : Z7i (L.map ofR) = some (-1) := by
  apply ZhD
  unfold Z7a
  rw [Zdr]
  exact ZFo L hl hr L.length 0 (by omega)
 have h2 : Z67 (L.map ofR) = some false := by
  apply Zfs
  unfold Z62
  rw [h1]
  rfl
 apply Zvs
 unfold ZhL
 rw [h2, q0_, if_neg (by simp)]
 unfold ZdO
 rw [ZvP L (by omega) hr]
 rfl
theorem Zls (no : Bool) {L : List R2} (hl : L.length ≤ 1000000) (hr : ∀ r ∈ L, 0 ≤ r.1 ∧ r.1 ≤ r.2 ∧ r.2 ≤ 1114367) : Z4M no (L.map ofR) = some (setN (setR no L)) := by
 apply Zy2
 unfold ZjA
 rw [ZIv hl hr, q0_]
 cases no with
 | false => rfl
 | true =>
  rw [if_pos rfl, ZCI (Zlb hr).1]
  rfl
theorem ZdJ (no : Bool) {L : List R2} (hr : ∀ r ∈ L, 0 ≤ r.1 ∧ r.1 ≤ r.2 ∧ r.2 ≤ 1114367) : Z5k (setR no L) := by
 unfold setR
 split
 ·exact Ztr (Zlb hr).1
 ·exact (Zlb hr).1
theorem Zq8 {r : R2} (h : 0 ≤ r.1 ∧ r.1 ≤ r.2 ∧ r.2 ≤ 1114367) : Z5k [r] := Zfc.2 ⟨h, by omega, trivial⟩
theorem ZHA {a s : List R2} (ha : Z5k a) (hs : Z5k s) (hl : s.length ≤ 100000) : Z7M (s.map ofR) (a.map ofR) = some ((Z8s (a ++ s)).map ofR) := by
 have hla := Zq7 ha
 have hr : ∀ r ∈ a ++ s, 0 ≤ r.1 ∧ r.1 ≤ r.2 ∧ r.2 ≤ 1114367 := by
  intro r h
  rcases Zin.1 h with h | h
  ·exact Zeu ha r h
  ·exact Zeu hs r h
 have h1 : ZeS (a.map ofR) (s.map ofR) = some ((Z8s (a ++ s)).map ofR, 0) := by
  apply Zt0
  unfold ZeF
  rw [ZlY ha, q0_, if_neg (by simp), ZlY hs, q0_, if_neg (by simp)]
  unfold Zcl
  rw [ZD7 a s (by omega), q0_, ZvP _ (by rw [Za4]; omega) hr]
  rfl
 apply Zl0
 unfold Z9x
 rw [h1]
 rfl
theorem fold_len : ∀ (l acc : List R2), (l.foldl Z3t acc).length ≤ acc.length + l.length
 | [], acc => by simp
 | r :: t, acc => by
  have h1 := fold_len t (Z3t acc r)
  have h2 : (Z3t acc r).length ≤ acc.length + 1 := by
   unfold Z3t
   split
   ·split
    ·simp
    ·simp
   ·simp
  rw [Zh6, Z7t]
  omega
theorem ZHj (l : List R2) : (Z8s l).length ≤ l.length := by
 have h1 := fold_len (Zdo l) []
 have h2 := (Zaz l).length_eq
 unfold Z8s
 rw [List.length_reverse]
 simp only [Zbd] at h1
 omega
theorem ZAu : ∀ (l : List R2) (a : Int), (notL a l).length ≤ l.length + 1
 | [], a => by
  unfold notL
  split
  ·simp
  ·simp
 | r :: t, a => by
  have := ZAu t (r.2 + 1)
  unfold notL
  split
  ·simp only [Z7t]; omega
  ·simp only [Z7t]; omega
theorem ZIT (no : Bool) (l : List R2) : (setR no l).length ≤ l.length + 1 := by
 have h1 := ZHj l
 have h2 := ZAu (Z8s l) 0
 unfold setR notF
 split
 ·omega
 ·omega
theorem Zkj {a s : List R2} (ha : Z5k a) (hs : Z5k s) : Z5k (Z8s (a ++ s)) :=
 (Zlb (by
  intro r h
  rcases Zin.1 h with h | h
  ·exact Zeu ha r h
  ·exact Zeu hs r h)).1
end Go.Proofs.YteoeggbihfnbfaaGreatDoor.N2
end
section
namespace Go.Proofs.YteoeggbihfnbfaaGreatDoor.N2
open Go Go.Abs Go.Proofs.Unis Go.Proofs.Norm
set_option maxRecDepth 100000
theorem Z2T {a b : Int} (h : a = b) : (a == b) = true := by simpa using h
theorem Z2X {a b : Int} (h : ¬ a = b) : ¬ ((a == b) = true) := by simpa using h
theorem ZeP {a b : Int} (h : ¬ a = b) : (a != b) = true := by simpa using h
theorem ZeO {a b : Int} (h : a = b) : ¬ ((a != b) = true) := by simpa using h
theorem Z2F {c : Prop} [Decidable c] (h : c) : decide c = true := decide_eq_true h
theorem Z2C {c : Prop} [Decidable c] (h : ¬ c) : ¬ (decide c = true) := by simpa using h
theorem ZvO {α : Type} {a b : α} (h : a = b) : ¬ (a ≠ b) := fun k => k h
structure Nx (l : List UInt8) (s s' : St) : Prop where
 at_ : At l s'
 len : s'.us.length ≤ s.us.length
 gr : s'.gr = s.gr
 rf : s'.rf = s.rf
theorem Nx.trans {l : List UInt8} {s s' s'' : St} (h : Nx l s s') (h' : Nx l s' s'') : Nx l s s'' :=
 ⟨h'.at_, Zip h'.len h.len, h'.gr.trans h.gr, h'.rf.trans h.rf⟩
theorem Z9u {l : List UInt8} {s : St} (h : At l s) : Nx l s (take s) := by
 refine ⟨h.take, ?_, ?_, ?_⟩
 all_goals unfold take; split
 ·exact q7_ _
 ·rename_i h1
  rw [h1]
  simp
 all_goals rfl
theorem ZoR {l : List UInt8} {s : St} (h : At l s) (hn : s.us ≠ []) : s.us.length = (take s).us.length + 1 := by
 obtain ⟨_, _, _, _, _, _, _, h7⟩ := h.cons hn
 exact h7
theorem Zs1 (u : Int) : Z8W u = some (if short u = [] then .nl else .ex, (short u).map ofR) := by
 apply Zpl
 by_cases h1 : u = 100
 ·subst h1; simp [Z4L, short, ofR, Z9s]
 by_cases h2 : u = 68
 ·subst h2; simp [Z4L, short, ofR, Z9s]
 by_cases h3 : u = 119
 ·subst h3; simp [Z4L, short, ofR, Z9s]
 by_cases h4 : u = 87
 ·subst h4; simp [Z4L, short, ofR, Z9s]
 by_cases h5 : u = 115
 ·subst h5; simp [Z4L, short, ofR, Z9s]
 by_cases h6 : u = 83
 ·subst h6; simp [Z4L, short, ofR, Z9s]
 simp [Z4L, Z3w, short, h1, h2, h3, h4, h5, h6]
theorem Znw (u : Int) : (short u).length ≤ 1000 ∧ ∀ r ∈ short u, 0 ≤ r.1 ∧ r.1 ≤ r.2 ∧ r.2 ≤ 1114367 := by
 unfold short
 repeat' split
 all_goals simp
theorem ZCB (u : Int) (h1 : -1 ≤ u) (h2 : u ≤ 1114367) : ZfW u = some (hexF u) := by
 apply Zy0
 unfold Zjz ZeG ZcB ZeH ZcC hexF
 rw [wrap_i64 (n := u - 48) (by omega) (by omega), wrap_i64 (n := u - 97) (by omega) (by omega), wrap_i64 (n := u - 97 + 10) (by omega) (by omega)]
 by_cases a : 48 ≤ u
 ·by_cases b : u ≤ 57
  ·simp [a, b]
  ·by_cases c : 97 ≤ u
   ·by_cases d : u ≤ 102
    ·simp [a, b, c, d]
    ·simp [a, b, c, d]
   ·simp [a, b, c]
 ·have c : ¬ 97 ≤ u := by omega
  simp [a, c]
theorem Zl7 (u : Int) : -1 ≤ hexF u ∧ hexF u ≤ 15 := by
 unfold hexF
 repeat' split
 all_goals omega
theorem ZIg (L : List Zi) (u : Int) (hl : L.length ≤ 1000000) : ∀ (d i : Nat), i + d = L.length →
  ∃ k : Int, Z4R L (L.length : Int) (i : Int) u = some k ∧ (0 ≤ k ↔ (L.drop i).any (fun r => decide (r.Lo ≤ u) && decide (u ≤ r.Hi)) = true) := by
 intro d
 induction d with
 | zero =>
  intro i h
  refine ⟨-1, ?_, ?_⟩
  ·apply Z7s
   unfold Z48
   rw [if_neg (by simp; omega)]
   rfl
  ·rw [q9_ (by omega)]
   simp
 | succ d ih =>
  intro i h
  have hi : i < L.length := by omega
  have hm : Zct L[i] u = some (decide (L[i].Lo ≤ u) && decide (u ≤ L[i].Hi)) := by
   apply Zpg
   unfold Zcj
   by_cases a : L[i].Lo ≤ u
   ·simp [a]
   ·simp [a]
  rw [Zdp hi, Zur]
  cases hc : (decide (L[i].Lo ≤ u) && decide (u ≤ L[i].Hi)) with
  | true =>
   refine ⟨(i : Int), ?_, by simp⟩
   apply Z7s
   unfold Z48 Z4O
   rw [if_pos (by simp; omega), Z3a, q2_ hi, q0_, hm, hc]
   rfl
  | false =>
   obtain ⟨k, h1, h2⟩ := ih (i + 1) (by omega)
   refine ⟨k, ?_, by rw [Bool.false_or]; exact h2⟩
   apply Z7s
   unfold Z48 Z4O
   rw [if_pos (by simp; omega), Z3a, q2_ hi, q0_, hm, hc, q0_, if_neg (by simp)]
   unfold Z63
   rw [wrap_i64 (by omega) (by omega)]
   exact h1
theorem ZKO (L : List Zi) (u : Int) (hl : L.length ≤ 1000000) : ZbS L u = some (L.any (fun r => decide (r.Lo ≤ u) && decide (u ≤ r.Hi))) := by
 obtain ⟨k, h1, h2⟩ := ZIg L u hl L.length 0 (by omega)
 have e1 : Z7h L u = some k := by
  apply ZhB
  unfold Z79
  exact h1
 have e2 : Z66 L u = some (decide (0 ≤ k)) := by
  apply Zfq
  unfold Z61
  rw [e1]
  rfl
 apply Zrm
 unfold ZdP
 rw [e2]
 rw [ZvY] at h2
 show some _ = some _
 congr 1
 cases hb : L.any (fun r => decide (r.Lo ≤ u) && decide (u ≤ r.Hi)) with
 | true => rw [hb] at h2; simpa using h2
 | false => rw [hb] at h2; simpa using h2
theorem ZFu (u : Int) : ZbS [⟨48, 57⟩, ⟨65, 90⟩, ⟨97, 122⟩] u = some (ZyN u) := by
 rw [ZKO _ _ (by simp)]
 congr 1
 simp [ZyN, Bool.or_assoc]
theorem Zuh {l : List UInt8} {s s' : St} {u p v : Int} (h : At l s) (hu : 0 ≤ u ∧ u ≤ 1114367) (e : ZdD u p s = .ok v s') : Nx l s s' ∧ 0 ≤ v ∧ v ≤ 1114367 := by
 have n0 : Nx l s s := ⟨h, q7_ _, rfl, rfl⟩
 have ha := Zl7 (peek s.us)
 have hb := Zl7 (peek (take s).us)
 unfold ZdD at e
 split at e
 ·cases e; exact ⟨n0, by omega, by omega⟩
 split at e
 ·cases e; exact ⟨n0, by omega, by omega⟩
 split at e
 ·cases e; exact ⟨n0, by omega, by omega⟩
 split at e
 ·split at e
  ·split at e
   ·cases e; exact ⟨(Z9u h).trans (Z9u h.take), by omega, by omega⟩
   ·simp at e
  ·simp at e
 split at e
 ·cases e; exact ⟨n0, hu⟩
 ·simp at e
theorem Zyz {s : St} {u p c q : Int} (e : ZdD u p s = .bad c q) : c ≠ 0 := by
 unfold ZdD at e
 repeat' split at e
 all_goals first | (simp at e; done) | (cases e; simp)
theorem ZyA {l : List UInt8} {s : St} (h : At l s) (hl : l.length ≤ 1000) (u p g d : Int) (rf : List Zz) :
  Z8O u p (bl l) s.pos g d rf 0 0 = some (match ZdD u p s with | .ok v s' => (v, s'.pos, 0, 0) | .bad c q => (0, (l.length : Int), c, q)) := by
 have bad : Z3I p (bl l) 0 0 = some (0, (l.length : Int), 21, p) := by
  unfold Z3I
  rw [Z82]
  rfl
 apply Zmt
 unfold Zap ZdD
 by_cases h1 : u = 110
 ·simp [h1]
 by_cases h2 : u = 116
 ·simp [h2]
 by_cases h3 : u = 114
 ·simp [h3]
 by_cases h4 : u = 120
 ·subst h4
  have hr := h.range
  have hr2 := h.take.range
  have ha := Zl7 (peek s.us)
  have hb := Zl7 (peek (take s).us)
  rw [if_neg (by simp), if_neg (by simp), if_neg (by simp), if_pos (by simp), if_neg (by simp), if_neg (by simp), if_neg (by simp), if_pos rfl, Zbc h, q0_, ZCB _ (by omega) (by omega), q0_]
  by_cases h5 : 0 ≤ hexF (peek s.us)
  ·have hn : s.us ≠ [] := by
    intro e
    rw [e] at h5
    simp [peek, hexF] at h5
   rw [if_pos (by simpa using h5), if_pos h5, Zez h (by omega) hn, q0_]
   simp only []
   rw [Zbc h.take, q0_, ZCB _ (by omega) (by omega), q0_]
   by_cases h6 : 0 ≤ hexF (peek (take s).us)
   ·have hn2 : (take s).us ≠ [] := by
     intro e
     rw [e] at h6
     simp [peek, hexF] at h6
    rw [if_pos (by simpa using h6), if_pos h6, Zez h.take (by omega) hn2, q0_, wrap_i64 (n := 16 * hexF (peek s.us)) (by omega) (by omega), wrap_i64 (by omega) (by omega)]
   ·rw [if_neg (by simpa using h6), if_neg h6, bad]
  ·rw [if_neg (by simpa using h5), if_neg h5, bad]
 ·rw [if_neg (by simpa using h1), if_neg (by simpa using h2), if_neg (by simpa using h3), if_neg (by simpa using h4), if_neg h1, if_neg h2, if_neg h3, if_neg h4]
  by_cases h5 : 32 < u
  ·by_cases h6 : u < 127
   ·rw [if_pos (by simpa using h5), if_pos (by simpa using h6), ZFu, q0_]
    cases h7 : ZyN u with
    | true => rw [if_neg (by simp), bad, if_neg (by simp)]
    | false =>
     rw [if_pos (by rfl), if_pos ⟨h5, h6, rfl⟩]
     rfl
   ·rw [if_pos (by simpa using h5), if_neg (by simpa using h6), bad, if_neg (fun e => h6 e.2.1)]
  ·rw [if_neg (by simpa using h5), bad, if_neg (fun e => h5 e.1)]
def EscR (l : List UInt8) (s : St) (o : Out Zj) (r : Option (Zj × Int × List Zz × Int × Int)) : Prop :=
 match o with
 | .ok n s' => r = some (n, s'.pos, s'.rf, 0, 0) ∧ At l s' ∧ s'.us.length < s.us.length ∧ s'.gr = s.gr ∧ s'.rf.length + s'.us.length ≤ s.rf.length + s.us.length
 | .bad c q => c ≠ 0 ∧ ∃ n, r = some (n, (l.length : Int), s.rf, c, q)
theorem ZJu {l : List UInt8} {s : St} (h : At l s) (hl : l.length ≤ 1000) (hrf : s.rf.length ≤ 2000) (p g d : Int) : EscR l s (pEsc p s) (Z5E p (bl l) s.pos g d s.rf 0 0) := by
 have top : ∀ r, Z6C p (bl l) s.pos g d s.rf 0 0 = some r → Z5E p (bl l) s.pos g d s.rf 0 0 = some r := fun r e => ZlM _ _ _ _ _ _ _ _ e
 unfold pEsc
 by_cases hn : s.us = []
 ·rw [if_pos hn]
  refine ⟨by simp, nd0, top _ ?_⟩
  unfold Z6C
  rw [Zbc h, q0_, hn, if_pos (by rfl), Z82]
  rfl
 ·rw [if_neg hn]
  have hr := h.range
  have hu : 0 ≤ peek s.us ∧ peek s.us ≤ 1114367 := by
   rcases hr with ⟨_, h2⟩ | h2
   ·exact absurd h2 hn
   ·omega
  have hnx := Z9u h
  have hlt := ZoR h hn
  have tk := Zez h (by omega) hn
  have top5 : ∀ r, Z4a p (peek s.us) (bl l) s.pos g d s.rf 0 0 = some r → Z5E p (bl l) s.pos g d s.rf 0 0 = some r := by
   intro r e
   refine top r ?_
   unfold Z6C
   rw [Zbc h, q0_, if_neg (by simp; omega)]
   exact e
  have hrf' : (take s).rf = s.rf := hnx.rf
  by_cases hs : short (peek s.us) = []
  ·rw [if_neg (by simp [hs])]
   have r5 : Z4a p (peek s.us) (bl l) s.pos g d s.rf 0 0 = (if ((peek s.us == 98)) = true then
 (some ((Zj.mk 9 0 0 0 2 ([] : List Zi) ([] : List Zj)), (take s).pos, s.rf, 0, 0))
 else
 (if ((peek s.us == 66)) = true then
 (some ((Zj.mk 9 0 0 0 3 ([] : List Zi) ([] : List Zj)), (take s).pos, s.rf, 0, 0))
 else
 (if ((decide (49 ≤ peek s.us))) = true then
 (if ((decide (peek s.us ≤ 57))) = true then
 (Z6k p (peek s.us) (take s).pos s.rf 0 0)
 else
 (Z3X p (peek s.us) (bl l) (take s).pos g d s.rf 0 0))
 else
 (Z3X p (peek s.us) (bl l) (take s).pos g d s.rf 0 0)))) := by
    unfold Z4a
    rw [tk, q0_, Zs1, q0_, hs]
    rfl
   have r15 : EscR l s ((ZdD (peek s.us) p (take s)).bind fun v s2 => .ok (setN (setR false [(v, v)])) s2) (Z3X p (peek s.us) (bl l) (take s).pos g d s.rf 0 0) := by
    unfold Z3X
    rw [ZyA h.take hl]
    cases hp : ZdD (peek s.us) p (take s) with
    | ok v s2 =>
     obtain ⟨a, b, c⟩ := Zuh h.take hu hp
     have hset := Zls false (L := [(v, v)]) (by simp) (by simp; omega)
     refine ⟨?_, a.at_, ?_, a.gr.trans hnx.gr, ?_⟩
     ·simp only [q0_, Z9s]
      rw [show [Zi.mk v v] = [((v, v) : R2)].map ofR from rfl, hset, q0_, a.rf, hrf']
     ·have := a.len; omega
     ·have := a.len; rw [a.rf, hrf']; omega
    | bad c q =>
     have hc := Zyz hp
     have hset := Zls false (L := [((0 : Int), (0 : Int))]) (by simp) (by simp)
     refine ⟨hc, setN (setR false [(0, 0)]), ?_⟩
     simp only [q0_, Z9s]
     rw [show [Zi.mk 0 0] = [((0, 0) : R2)].map ofR from rfl, hset, q0_]
   have lift : ∀ o, EscR l s o (Z4a p (peek s.us) (bl l) s.pos g d s.rf 0 0) → EscR l s o (Z5E p (bl l) s.pos g d s.rf 0 0) := by
    intro o ho
    cases o with
    | ok n s' => exact ⟨top5 _ ho.1, ho.2⟩
    | bad c q => obtain ⟨hc, n, hn⟩ := ho; exact ⟨hc, n, top5 _ hn⟩
   apply lift
   rw [r5]
   by_cases h1 : peek s.us = 98
   ·rw [if_pos h1, if_pos (Z2T h1)]
    exact ⟨by rw [hrf']; rfl, h.take, by omega, hnx.gr, by rw [hrf']; omega⟩
   by_cases h2 : peek s.us = 66
   ·rw [if_neg h1, if_pos h2, if_neg (Z2X h1), if_pos (Z2T h2)]
    exact ⟨by rw [hrf']; rfl, h.take, by omega, hnx.gr, by rw [hrf']; omega⟩
   rw [if_neg h1, if_neg h2, if_neg (Z2X h1), if_neg (Z2X h2)]
   by_cases h3 : 49 ≤ peek s.us
   ·by_cases h4 : peek s.us ≤ 57
    ·rw [if_pos ⟨h3, h4⟩, if_pos (Z2F h3), if_pos (Z2F h4)]
     refine ⟨?_, ?_, by show (take s).us.length < _; omega, hnx.gr, by show (s.rf ++ [_]).length + (take s).us.length ≤ _; rw [Za4]; simp; omega⟩
     ·unfold Z6k lapp
      rw [if_pos (by simp [lim]; omega), wrap_i64 (n := peek s.us - 48) (by omega) (by omega)]
      rfl
     ·exact h.take
    ·rw [if_neg (show ¬ (49 ≤ peek s.us ∧ peek s.us ≤ 57) from fun e => h4 e.2), if_pos (Z2F h3), if_neg (Z2C h4)]
     exact r15
   ·rw [if_neg (show ¬ (49 ≤ peek s.us ∧ peek s.us ≤ 57) from fun e => h3 e.1), if_neg (Z2C h3)]
    exact r15
  ·rw [if_pos hs]
   obtain ⟨q1, q2⟩ := Znw (peek s.us)
   refine ⟨top5 _ ?_, h.take, by omega, hnx.gr, by rw [hrf']; omega⟩
   unfold Z4a
   rw [tk, q0_, Zs1, q0_, if_neg hs]
   have hno : nilO Own.ex ((short (peek s.us)).map ofR) = some false := rfl
   dsimp only
   rw [hno, q0_, if_pos (show (!false) = true from rfl), q0_]
   dsimp only
   rw [Zls _ (by omega) q2, q0_, hrf']
def MemR (l : List UInt8) (s : St) (o : Out (Int × List R2 × Bool)) (r : Option (Int × (Own × List Zi) × Bool × Int × Int × Int)) : Prop :=
 match o with
 | .ok m s' => r = some (m.1, (if m.2.1 = [] then .nl else .ex, m.2.1.map ofR), m.2.2, s'.pos, 0, 0) ∧ Nx l s s' ∧ s'.us.length < s.us.length ∧ (0 ≤ m.1 ∧ m.1 ≤ 1114367) ∧ m.2.1.length ≤ 1000 ∧ ∀ r ∈ m.2.1, 0 ≤ r.1 ∧ r.1 ≤ r.2 ∧ r.2 ≤ 1114367
 | .bad c q => c ≠ 0 ∧ r = some (0, (.nl, []), false, (l.length : Int), c, q)
theorem ZsM {l : List UInt8} {s : St} (h : At l s) (hl : l.length ≤ 1000) (hn : s.us ≠ []) (g d : Int) (rf : List Zz) : MemR l s (pMem s) (Z6H (bl l) s.pos g d rf 0 0) := by
 have top : ∀ o, MemR l s o (Z8e (bl l) s.pos g d rf 0 0) → MemR l s o (Z6H (bl l) s.pos g d rf 0 0) := by
  intro o ho
  cases o with
  | ok m s' => exact ⟨Zeg _ _ _ _ _ _ _ ho.1, ho.2⟩
  | bad c q => exact ⟨ho.1, Zeg _ _ _ _ _ _ _ ho.2⟩
 apply top
 have hr := h.range
 have hu : 0 ≤ peek s.us ∧ peek s.us ≤ 1114367 := by
  rcases hr with ⟨_, h2⟩ | h2
  ·exact absurd h2 hn
  ·omega
 have hnx := Z9u h
 have hlt := ZoR h hn
 unfold Z8e pMem
 rw [Zez h (by omega) hn, q0_]
 by_cases h1 : peek s.us = 92
 ·rw [if_neg (ZeO h1), if_neg (ZvO h1)]
  unfold Z8C
  dsimp only
  rw [Zbc h.take, q0_]
  by_cases hn2 : (take s).us = []
  ·rw [if_pos hn2, if_pos (Z2F (show peek (take s).us < 0 by rw [hn2]; decide)), Z82]
   exact ⟨by simp, rfl⟩
  ·have hr2 := h.take.range
   have hu2 : 0 ≤ peek (take s).us ∧ peek (take s).us ≤ 1114367 := by
    rcases hr2 with ⟨_, h2⟩ | h2
    ·exact absurd h2 hn2
    ·omega
   have hnx2 := Z9u h.take
   have hlt2 := ZoR h.take hn2
   rw [if_neg hn2, if_neg (Z2C (show ¬ peek (take s).us < 0 by omega))]
   unfold Z8D
   rw [Zez h.take (by omega) hn2, q0_, Zs1, q0_]
   by_cases hs : short (peek (take s).us) = []
   ·rw [if_pos hs, if_neg (ZvO hs), hs]
    show MemR l s _ (Z6l (peek (take s).us) s.pos (bl l) (take (take s)).pos g d rf 0 0)
    unfold Z6l
    rw [ZyA h.take.take hl]
    cases hp : ZdD (peek (take s).us) s.pos (take (take s)) with
    | ok v s2 =>
     obtain ⟨a, b, c⟩ := Zuh h.take.take hu2 hp
     exact ⟨rfl, (hnx.trans hnx2).trans a, by have := a.len; omega, ⟨b, c⟩, by simp, by simp⟩
    | bad c q => exact ⟨Zyz hp, rfl⟩
   ·obtain ⟨q1, q2⟩ := Znw (peek (take s).us)
    rw [if_neg hs, if_pos hs]
    exact ⟨by simp only [if_neg hs]; rfl, hnx.trans hnx2, by omega, by simp, q1, q2⟩
 ·rw [if_pos (ZeP h1), if_pos h1]
  exact ⟨rfl, hnx, by omega, hu, by simp, by simp⟩
theorem ZHK (c : Prop) [Decidable c] : shrO (if c then Own.nl else Own.ex) = if c then Own.nl else Own.ex := by
 split <;> rfl
theorem ZHL : shrO Own.nl = Own.nl := rfl
structure Wd (b : ByteArray) (w : List Int) : Prop where
 ex : ∃ v : List UInt8, b = ⟨v.toArray⟩ ∧ w = bl v ∧ (∀ c ∈ v, c.toNat < 128) ∧ v.length ≤ 100 ∧ v ≠ []
theorem Z5h {l : List UInt8} {s : St} {b : ByteArray} {w : List Int} (hw : Wd b w) (h : At l s) (hl : l.length ≤ 1000) (e : wd w s = none) : Z2j b (bl l) s.pos = some (false, s.pos) := by
 obtain ⟨v, rfl, rfl, h1, h2, _⟩ := hw.ex
 rw [(ZBh h (by omega) v h1 h2).1, e]
theorem Z3b {l : List UInt8} {s s1 : St} {b : ByteArray} {w : List Int} (hw : Wd b w) (h : At l s) (hl : l.length ≤ 1000) (e : wd w s = some s1) : Z2j b (bl l) s.pos = some (true, s1.pos) ∧ Nx l s s1 ∧ s1.us.length < s.us.length := by
 obtain ⟨v, rfl, rfl, h1, h2, h3⟩ := hw.ex
 obtain ⟨a, b⟩ := ZBh h (by omega) v h1 h2
 obtain ⟨b1, b2, b3, b4⟩ := b s1 e
 have : v.length ≠ 0 := fun e => h3 (Zjr e)
 exact ⟨by rw [a, e], ⟨b1, by omega, b3, b4⟩, by omega⟩
theorem w45 : Wd (ByteArray.mk #[45]) [45] := ⟨[45], rfl, rfl, by decide, by decide, by decide⟩
theorem w94 : Wd (ByteArray.mk #[94]) [94] := ⟨[94], rfl, rfl, by decide, by decide, by decide⟩
def ClsR (l : List UInt8) (s : St) (o : Out Zj) (r : Option (Zj × Int × Int × Int)) : Prop :=
 match o with
 | .ok n s' => r = some (n, s'.pos, 0, 0) ∧ Nx l s s'
 | .bad c q => c ≠ 0 ∧ ∃ n, r = some (n, (l.length : Int), c, q)
theorem ClsR.from {l : List UInt8} {s s1 : St} {o : Out Zj} {r : Option (Zj × Int × Int × Int)} (h : ClsR l s1 o r) (hn : Nx l s s1) : ClsR l s o r := by
 cases o with
 | ok n s' => exact ⟨h.1, hn.trans h.2⟩
 | bad c q => exact h
theorem ZkM (p : Int) (no : Bool) (x8 : Int) (b : List Int) (a g d : Int) (rf : List Zz) (c q : Int) (all : List Zi) (hc : c ≠ 0) : Z2v p no x8 b a g d rf c q all = some (nd0, a, c, q) := by
 unfold Z2v
 apply Zdw
 unfold Z7p
 rw [if_neg (by simpa using hc)]
 rfl
theorem ZuK {l : List UInt8} (hl : l.length ≤ 1000) (p : Int) (no : Bool) (g d : Int) (rf : List Zz) : ∀ (k : Nat) (fst : Bool) (all : List R2) (s : St) (x8 : Int), At l s → Z5k all → s.us.length < k → (fst = true ↔ x8 = 0) → 0 ≤ x8 → x8 + s.us.length ≤ 5000 →
  ClsR l s (ZbC p no k fst all s) (Z4T p no x8 (bl l) s.pos g d rf 0 0 (all.map ofR)) := by
 intro k
 induction k with
 | zero => intro fst all s x8 _ _ hk; omega
 | succ k ih =>
  intro fst all s x8 h hall hk hf h0 hb
  have top : ∀ o, ClsR l s o (Z5J p no x8 (bl l) s.pos g d rf 0 0 (all.map ofR)) → ClsR l s o (Z4T p no x8 (bl l) s.pos g d rf 0 0 (all.map ofR)) := by
   intro o ho
   have e : ∀ r, Z5J p no x8 (bl l) s.pos g d rf 0 0 (all.map ofR) = some r → Z4T p no x8 (bl l) s.pos g d rf 0 0 (all.map ofR) = some r := by
    intro r e
    apply Zdw
    unfold Z7p
    rw [if_pos (by rfl)]
    exact e
   cases o with
   | ok n s' => exact ⟨e _ ho.1, ho.2⟩
   | bad c q => obtain ⟨hc, n, hn⟩ := ho; exact ⟨hc, n, e _ hn⟩
  have next : ∀ (all' : List R2) (s1 : St), Nx l s s1 → s1.us.length < s.us.length → Z5k all' → ClsR l s (ZbC p no k false all' s1) (Z2v p no x8 (bl l) s1.pos g d rf 0 0 (all'.map ofR)) := by
   intro all' s1 hn hlt ha'
   unfold Z2v
   rw [wrap_i64 (n := x8 + 1) (by omega) (by omega)]
   exact (ih false all' s1 (x8 + 1) hn.at_ ha' (by omega) (by simp; omega) (by omega) (by omega)).from hn
  have stop : ∀ (c q : Int) (al : List Zi) (z8 : Int), c ≠ 0 → ClsR l s (.bad c q) ((Z1A c q (bl l) 0 0).bind fun r2 => Z2v p no z8 (bl l) r2.1 g d rf r2.2.1 r2.2.2 al) := by
   intro c q al z8 hc
   rw [Z82, q0_, ZkM _ _ _ _ _ _ _ _ _ _ _ hc]
   exact ⟨hc, _, rfl⟩
  apply top
  have hr := h.range
  unfold Z5J ZbC
  rw [Zbc h, q0_]
  by_cases hn : s.us = []
  ·rw [if_pos hn, if_pos (Z2T (show peek s.us = -1 by rw [hn]; rfl))]
   exact stop _ _ _ _ (by decide)
  have hu : 0 ≤ peek s.us ∧ peek s.us ≤ 1114367 := by
   rcases hr with ⟨_, h2⟩ | h2
   ·exact absurd h2 hn
   ·omega
  rw [if_neg hn, if_neg (Z2X (show ¬ peek s.us = -1 by omega))]
  by_cases h1 : peek s.us = 93
  ·rw [if_pos h1, if_pos (Z2T h1)]
   cases fst with
   | true =>
    rw [if_pos rfl, if_pos (Z2T (hf.1 rfl))]
    exact stop _ _ _ _ (by decide)
   | false =>
    have : ¬ x8 = 0 := fun e => by simpa using hf.2 e
    rw [if_neg (show ¬ (false = true) by simp), if_neg (Z2X this)]
    unfold Z8z Z6X
    rw [Zez h (by omega) hn, q0_]
    cases no with
    | true =>
     rw [if_pos rfl, if_pos rfl, ZCI hall, q0_]
     exact ⟨rfl, Z9u h⟩
    | false =>
     rw [if_neg (by simp), if_neg (by simp)]
     exact ⟨rfl, Z9u h⟩
  rw [if_neg h1, if_neg (Z2X h1)]
  by_cases h2 : peek s.us = 91
  ·rw [if_pos (.inl h2), if_pos (Z2T h2), if_pos (Z2T h2)]
   exact stop _ _ _ _ (by decide)
  by_cases h3 : peek s.us = 45
  ·rw [if_pos (.inr h3), if_neg (Z2X h2), if_pos (Z2T h3)]
   exact stop _ _ _ _ (by decide)
  rw [if_neg (show ¬ (peek s.us = 91 ∨ peek s.us = 45) by omega), if_neg (Z2X h2), if_neg (Z2X h3)]
  unfold Z6Y
  have hm := ZsM h hl hn g d rf
  cases hp : pMem s with
  | bad c q =>
   rw [hp] at hm
   obtain ⟨hc, hm⟩ := hm
   rw [hm, q0_]
   have hno : nilO Own.nl ([] : List Zi) = some true := rfl
   simp only [ZHL]
   rw [hno, q0_, if_neg (show ¬ ((!true) = true) by simp)]
   unfold Z6Z
   have hend : wd [45] ⟨[], (l.length : Int), s.gr, s.rf⟩ = none := rfl
   have hat : At l ⟨[], (l.length : Int), s.gr, s.rf⟩ := ⟨l.length, q7_ _, rfl, by rw [q9_ (q7_ _)]; rfl⟩
   have := Z5h w45 hat hl hend
   dsimp only at this
   rw [this, q0_, if_neg (by simp)]
   unfold Z38
   rw [if_neg (Z2X hc), ZkM _ _ _ _ _ _ _ _ _ _ _ hc]
   exact ⟨hc, _, rfl⟩
  | ok m s1 =>
   rw [hp] at hm
   obtain ⟨hm, hnx, hlt, hm1, hm2, hm3⟩ := hm
   rw [hm, q0_]
   simp only [Out.bind, ZHK]
   by_cases hs : m.2.1 = []
   ·have hno : nilO (if m.2.1 = [] then Own.nl else Own.ex) (m.2.1.map ofR) = some true := by rw [if_pos hs]; rfl
    rw [hno, q0_, if_neg (show ¬ ((!true) = true) by simp), if_neg (ZvO hs)]
    unfold Z6Z
    have one : ∀ (v : Int) (s2 : St), Nx l s s2 → s2.us.length < s.us.length → m.1 ≤ v → v ≤ 1114367 → ClsR l s (ZbC p no k false (Z8s (all ++ [(m.1, v)])) s2) (Z38 p no x8 m.1 v (bl l) s2.pos g d rf 0 0 (all.map ofR)) := by
     intro v s2 hn2 hlt2 hv1 hv2
     unfold Z38
     have hone : Z5k [(m.1, v)] := Zq8 (by simp only []; omega)
     rw [if_pos (by rfl), show [Zi.mk m.1 v] = [((m.1, v) : R2)].map ofR from rfl, ZHA hall hone (by simp), q0_]
     exact next _ s2 hn2 hlt2 (Zkj hall hone)
    cases hw : wd [45] s1 with
    | none =>
     rw [Z5h w45 hnx.at_ hl hw, q0_, if_neg (by simp)]
     exact one m.1 s1 hnx hlt (by omega) (by omega)
    | some s2 =>
     obtain ⟨q1, q2, q3⟩ := Z3b w45 hnx.at_ hl hw
     have hn2 := hnx.trans q2
     have hr2 := q2.at_.range
     rw [q1, q0_, if_pos rfl]
     dsimp only
     rw [Zbc q2.at_, q0_]
     unfold Z4H
     by_cases c1 : peek s2.us = 93
     ·rw [if_pos (.inr (.inl c1)), if_pos (Z2T c1)]
      exact stop _ _ _ _ (by decide)
     rw [if_neg (Z2X c1)]
     by_cases c2 : peek s2.us = 91
     ·rw [if_pos (.inr (.inr (.inl c2))), if_pos (Z2T c2)]
      exact stop _ _ _ _ (by decide)
     rw [if_neg (Z2X c2)]
     by_cases c3 : peek s2.us = 45
     ·rw [if_pos (.inr (.inr (.inr c3))), if_pos (Z2T c3)]
      exact stop _ _ _ _ (by decide)
     rw [if_neg (Z2X c3)]
     by_cases c4 : s2.us = []
     ·rw [if_pos (.inl c4), if_pos (Z2F (show peek s2.us < 0 by rw [c4]; decide))]
      exact stop _ _ _ _ (by decide)
     have hu2 : 0 ≤ peek s2.us := by
      rcases hr2 with ⟨_, h2⟩ | h2
      ·exact absurd h2 c4
      ·omega
     rw [if_neg (show ¬ (s2.us = [] ∨ peek s2.us = 93 ∨ peek s2.us = 91 ∨ peek s2.us = 45) by simp only [c1, c2, c3, c4, or_self, not_false_eq_true]), if_neg (Z2C (show ¬ peek s2.us < 0 by omega))]
     unfold Z8A
     have hm' := ZsM q2.at_ hl c4 g d rf
     cases hp2 : pMem s2 with
     | bad c q =>
      rw [hp2] at hm'
      obtain ⟨hc, hm'⟩ := hm'
      rw [hm', q0_]
      dsimp only
      rw [if_neg (Z2X hc)]
      unfold Z38
      rw [if_neg (Z2X hc), ZkM _ _ _ _ _ _ _ _ _ _ _ hc]
      exact ⟨hc, _, rfl⟩
     | ok m2 s3 =>
      rw [hp2] at hm'
      obtain ⟨hm', hnx', hlt', hm1', hm2', hm3'⟩ := hm'
      rw [hm', q0_]
      dsimp only
      simp only [ZHK]
      rw [if_pos (Z2T rfl)]
      have fall : ∀ z, ClsR l s (.bad 22 s.pos) (Z5A p no x8 s.pos m.1 z (bl l) g d rf 0 0 (all.map ofR)) := by
       intro z
       unfold Z5A
       rw [Z82, q0_]
       unfold Z38
       dsimp only
       rw [if_neg (by decide), ZkM _ _ _ _ _ _ _ _ _ _ _ (by decide)]
       exact ⟨by decide, _, rfl⟩
      by_cases e1 : m2.2.1 = []
      ·have hno2 : nilO (if m2.2.1 = [] then Own.nl else Own.ex) (m2.2.1.map ofR) = some true := by rw [if_pos e1]; rfl
       rw [hno2, q0_, if_neg (show ¬ ((!true) = true) by simp)]
       by_cases e2 : m2.1 < m.1
       ·rw [if_pos (Z2F e2), if_pos (.inr e2)]
        exact fall _
       ·rw [if_neg (Z2C e2), if_neg (show ¬ (m2.2.1 ≠ [] ∨ m2.1 < m.1) by simp only [e1, ne_eq, not_true_eq_false, false_or]; exact e2)]
        exact one m2.1 s3 (hn2.trans hnx') (by omega) (by omega) (by omega)
      ·have hno2 : nilO (if m2.2.1 = [] then Own.nl else Own.ex) (m2.2.1.map ofR) = some false := by rw [if_neg e1]; rfl
       rw [hno2, q0_, if_pos (show (!false) = true from rfl), if_pos (.inl e1)]
       exact fall _
   ·have hno : nilO (if m.2.1 = [] then Own.nl else Own.ex) (m.2.1.map ofR) = some false := by rw [if_neg hs]; rfl
    have hset := ZdJ m.2.2 hm3
    have hlen : (setR m.2.2 m.2.1).length ≤ 100000 := by have := ZIT m.2.2 m.2.1; omega
    rw [hno, q0_, if_pos (show (!false) = true from rfl), if_pos hs, Zls _ (by omega) hm3, q0_, show (setN (setR m.2.2 m.2.1)).Set = (setR m.2.2 m.2.1).map ofR from rfl, ZHA hall hset hlen, q0_, Zbc hnx.at_, q0_]
    by_cases c1 : peek s1.us = 45
    ·rw [if_pos c1, if_pos (Z2T c1)]
     exact stop _ _ _ _ (by decide)
    ·rw [if_neg c1, if_neg (Z2X c1)]
     exact next _ s1 hnx hlt (Zkj hall hset)
theorem Nx.refl {l : List UInt8} {s : St} (h : At l s) : Nx l s s := ⟨h, q7_ _, rfl, rfl⟩
theorem ClsR.of {l : List UInt8} {s : St} {o : Out Zj} {b g : Option (Zj × Int × Int × Int)} (hb : ClsR l s o b) (hg : ∀ r, b = some r → g = some r) : ClsR l s o g := by
 cases o with
 | ok n s' => exact ⟨hg _ hb.1, hb.2⟩
 | bad c q => obtain ⟨hc, n, hn⟩ := hb; exact ⟨hc, n, hg _ hn⟩
theorem ZFG {l : List UInt8} {s : St} (h : At l s) (hl : l.length ≤ 1000) (p g d : Int) (rf : List Zz) : ClsR l s (ZoM p s) (Zav p (bl l) s.pos g d rf 0 0) := by
 refine ClsR.of (b := Z8y p (bl l) s.pos g d rf 0 0) ?_ fun r e => Zmo _ _ _ _ _ _ _ _ e
 have n0 : Z5k [] := trivial
 unfold Z8y ZoM
 cases hw : wd [94] s with
 | none =>
  rw [Z5h w94 h hl hw, q0_]
  have := h.len
  exact ZuK hl p false g d rf _ true [] s 0 h n0 (by omega) (by simp) (by omega) (by omega)
 | some s1 =>
  obtain ⟨q1, q2, q3⟩ := Z3b w94 h hl hw
  rw [q1, q0_]
  have := q2.at_.len
  exact (ZuK hl p true g d rf _ true [] s1 0 q2.at_ n0 (by omega) (by simp) (by omega) (by omega)).from q2
theorem w44 : Wd (ByteArray.mk #[44]) [44] := ⟨[44], rfl, rfl, by decide, by decide, by decide⟩
theorem w125 : Wd (ByteArray.mk #[125]) [125] := ⟨[125], rfl, rfl, by decide, by decide, by decide⟩
theorem w63 : Wd (ByteArray.mk #[63]) [63] := ⟨[63], rfl, rfl, by decide, by decide, by decide⟩
theorem w43 : Wd (ByteArray.mk #[43]) [43] := ⟨[43], rfl, rfl, by decide, by decide, by decide⟩
theorem w42 : Wd (ByteArray.mk #[42]) [42] := ⟨[42], rfl, rfl, by decide, by decide, by decide⟩
theorem w123 : Wd (ByteArray.mk #[123]) [123] := ⟨[123], rfl, rfl, by decide, by decide, by decide⟩
theorem Zjo {l : List UInt8} {s : St} (h : At l s) (hl : l.length ≤ 1000) (g d : Int) (rf : List Zz) (x3 x4 : Int) (h4 : 0 ≤ x4 ∧ x4 ≤ 10) (h3 : -1 ≤ x3 ∧ x3 ≤ 100) :
  ∀ r, (if x4 < 2 ∧ digit (peek s.us) = true then Z4J (10 * max x3 0 + peek s.us - 48) (x4 + 1) (bl l) (take s).pos g d rf 0 0 else some (x3, s.pos)) = some r → Z4J x3 x4 (bl l) s.pos g d rf 0 0 = some r := by
 intro r hr
 apply ZjZ
 unfold Z8E Z5C
 by_cases h5 : x4 < 2
 ·rw [if_pos (Z2F h5), Zbc h, q0_]
  by_cases h6 : 48 ≤ peek s.us
  ·rw [if_pos (Z2F h6), q0_]
   by_cases h7 : peek s.us ≤ 57
   ·have hn : s.us ≠ [] := by
     intro e
     rw [e] at h6
     simp [peek] at h6
    rw [if_pos (Z2F h7)]
    unfold Z8F
    rw [Zez h (by omega) hn, q0_]
    rw [wrap_i64 (n := 10 * max x3 0) (by omega) (by omega), wrap_i64 (n := 10 * max x3 0 + peek s.us) (by omega) (by omega), wrap_i64 (n := 10 * max x3 0 + peek s.us - 48) (by omega) (by omega), wrap_i64 (n := x4 + 1) (by omega) (by omega)]
    rw [if_pos ⟨h5, by simp [digit, h6, h7]⟩] at hr
    exact hr
   ·rw [if_neg (Z2C h7)]
    rw [if_neg (by simp [digit, h7])] at hr
    exact hr
  ·rw [if_neg (Z2C h6)]
   rw [if_neg (by simp [digit, h6])] at hr
   exact hr
 ·rw [if_neg (Z2C h5)]
  rw [if_neg (fun e => h5 e.1)] at hr
  exact hr
theorem Zyi {u : Int} : digit u = true ↔ 48 ≤ u ∧ u ≤ 57 := by simp [digit]
theorem ZCK {l : List UInt8} {s : St} (h : At l s) (hl : l.length ≤ 1000) (g d : Int) (rf : List Zz) :
  Z6I (bl l) s.pos g d rf 0 0 = some ((pNum s).1, (pNum s).2.pos) ∧ Nx l s (pNum s).2 ∧ -1 ≤ (pNum s).1 ∧ (pNum s).1 ≤ 99 := by
 have top : ∀ r, Z4J (-1) 0 (bl l) s.pos g d rf 0 0 = some r → Z6I (bl l) s.pos g d rf 0 0 = some r := fun r e => ZlO _ _ _ _ _ _ _ e
 unfold pNum
 by_cases h1 : digit (peek s.us) = true
 ·have r1 := Zyi.1 h1
  rw [if_pos h1]
  by_cases h2 : digit (peek (take s).us) = true
  ·have r2 := Zyi.1 h2
   rw [if_pos h2]
   refine ⟨top _ (Zjo h hl g d rf _ _ (by omega) (by omega) _ ?_), (Z9u h).trans (Z9u h.take), by simp only []; omega, by simp only []; omega⟩
   rw [if_pos ⟨by omega, h1⟩]
   refine Zjo h.take hl g d rf _ _ (by omega) (by omega) _ ?_
   rw [if_pos ⟨by omega, h2⟩]
   refine Zjo h.take.take hl g d rf _ _ (by omega) (by omega) _ ?_
   rw [if_neg (by omega)]
   congr 2
   omega
  ·rw [if_neg h2]
   refine ⟨top _ (Zjo h hl g d rf _ _ (by omega) (by omega) _ ?_), Z9u h, by simp only []; omega, by simp only []; omega⟩
   rw [if_pos ⟨by omega, h1⟩]
   refine Zjo h.take hl g d rf _ _ (by omega) (by omega) _ ?_
   rw [if_neg (fun e => h2 e.2)]
   congr 2
   omega
 ·rw [if_neg h1]
  refine ⟨top _ (Zjo h hl g d rf _ _ (by omega) (by omega) _ ?_), Nx.refl h, by simp, by simp⟩
  rw [if_neg (fun e => h1 e.2)]
def CntR (l : List UInt8) (s : St) (o : Out (Int × Int)) (r : Option (Int × Int × Int × Int × Int)) : Prop :=
 match o with
 | .ok n s' => r = some (n.1, n.2, s'.pos, 0, 0) ∧ Nx l s s'
 | .bad c q => c ≠ 0 ∧ ∃ a b, r = some (a, b, (l.length : Int), c, q)
theorem CntR.from {l : List UInt8} {s s1 : St} {o : Out (Int × Int)} {r : Option (Int × Int × Int × Int × Int)} (h : CntR l s1 o r) (hn : Nx l s s1) : CntR l s o r := by
 cases o with
 | ok n s' => exact ⟨h.1, hn.trans h.2⟩
 | bad c q => exact h
theorem ZnF (l : List UInt8) (s : St) (p lo hi : Int) : CntR l s (.bad 23 p) (Z3W p lo hi (bl l) 0 0) := by
 unfold Z3W
 rw [Z82]
 exact ⟨by decide, lo, hi, rfl⟩
theorem ZxZ {l : List UInt8} {s : St} (h : At l s) (hl : l.length ≤ 1000) (p lo hi : Int) : CntR l s (pFin p lo hi s) (Z3G p lo hi (bl l) s.pos 0 0) := by
 unfold Z3G pFin
 by_cases h1 : lo < 0
 ·rw [if_pos (.inl h1), if_pos (Z2F h1)]
  exact ZnF ..
 by_cases h2 : hi < lo
 ·rw [if_pos (.inr (.inl h2)), if_neg (Z2C h1), if_pos (Z2F h2)]
  exact ZnF ..
 by_cases h3 : 64 < hi
 ·rw [if_pos (.inr (.inr h3)), if_neg (Z2C h1), if_neg (Z2C h2), if_pos (Z2F h3)]
  exact ZnF ..
 rw [if_neg (show ¬ (lo < 0 ∨ hi < lo ∨ 64 < hi) by omega), if_neg (Z2C h1), if_neg (Z2C h2), if_neg (Z2C h3)]
 cases hw : wd [125] s with
 | none =>
  rw [Z5h w125 h hl hw, q0_, if_pos (show (!false) = true from rfl)]
  exact ZnF ..
 | some s1 =>
  obtain ⟨q1, q2, q3⟩ := Z3b w125 h hl hw
  rw [q1, q0_, if_neg (show ¬ ((!true) = true) by simp)]
  exact ⟨rfl, q2⟩
theorem ZD8 {l : List UInt8} {s : St} (h : At l s) (hl : l.length ≤ 1000) (p g d : Int) (rf : List Zz) : CntR l s (Zjp p s) (Z8m p (bl l) s.pos g d rf 0 0) := by
 have top : ∀ o, CntR l s o (Z8d p (bl l) s.pos g d rf 0 0) → CntR l s o (Z8m p (bl l) s.pos g d rf 0 0) := by
  intro o ho
  cases o with
  | ok n s' => exact ⟨Zef _ _ _ _ _ _ _ _ ho.1, ho.2⟩
  | bad c q => obtain ⟨hc, a, b, hn⟩ := ho; exact ⟨hc, a, b, Zef _ _ _ _ _ _ _ _ hn⟩
 apply top
 obtain ⟨n1, n2, n3, n4⟩ := ZCK h hl g d rf
 unfold Z8d Zjp
 rw [n1, q0_]
 dsimp only
 cases hw : wd [44] (pNum s).2 with
 | none =>
  rw [Z5h w44 n2.at_ hl hw, q0_, if_neg (by simp)]
  exact (ZxZ n2.at_ hl p _ _).from n2
 | some s2 =>
  obtain ⟨q1, q2, q3⟩ := Z3b w44 n2.at_ hl hw
  obtain ⟨m1, m2, m3, m4⟩ := ZCK q2.at_ hl g d rf
  rw [q1, q0_, if_pos rfl]
  dsimp only
  rw [m1, q0_]
  dsimp only
  have hn := n2.trans (q2.trans m2)
  by_cases h1 : (pNum s2).1 < 0
  ·rw [if_pos (Z2F h1)]
   by_cases h2 : 0 ≤ (pNum s).1
   ·rw [if_pos (Z2F h2), if_pos (show (pNum s2).1 < 0 ∧ 0 ≤ (pNum s).1 from ⟨h1, h2⟩)]
    unfold Z8B
    have r8 : ∀ s5 : St, CntR l s (.bad 23 p) (Z5B p (pNum s).1 (bl l) s5.pos 0 0) := by
     intro s5
     unfold Z5B Z3G
     rw [if_neg (Z2C (show ¬ (pNum s).1 < 0 by omega)), if_pos (Z2F (show (-2 : Int) < (pNum s).1 by omega))]
     exact ZnF ..
    cases hw2 : wd [125] (pNum s2).2 with
    | none =>
     rw [Z5h w125 m2.at_ hl hw2, q0_, if_neg (by simp)]
     exact r8 _
    | some s4 =>
     obtain ⟨t1, t2, t3⟩ := Z3b w125 m2.at_ hl hw2
     rw [t1, q0_, if_pos rfl]
     by_cases h3 : (pNum s).1 ≤ 64
     ·dsimp only
      rw [if_pos (Z2F h3), if_pos h3]
      exact ⟨rfl, hn.trans t2⟩
     ·dsimp only
      rw [if_neg (Z2C h3), if_neg h3]
      exact r8 _
   ·rw [if_neg (Z2C h2), if_neg (show ¬ ((pNum s2).1 < 0 ∧ 0 ≤ (pNum s).1) from fun e => h2 e.2)]
    exact (ZxZ m2.at_ hl p _ _).from hn
  ·rw [if_neg (Z2C h1), if_neg (show ¬ ((pNum s2).1 < 0 ∧ 0 ≤ (pNum s).1) from fun e => h1 e.1)]
   exact (ZxZ m2.at_ hl p _ _).from hn
def fin (l : List UInt8) : St := ⟨[], (l.length : Int), 0, []⟩
theorem fin_at (l : List UInt8) : At l (fin l) := ⟨l.length, q7_ _, rfl, by rw [q9_ (q7_ _)]; rfl⟩
theorem ZgJ {l : List UInt8} (hl : l.length ≤ 1000) {b : ByteArray} {c : Int} {w : List Int} (hw : Wd b (c :: w)) : Z2j b (bl l) (l.length : Int) = some (false, (l.length : Int)) :=
 Z5h hw (fin_at l) hl rfl
theorem Zql {l : List UInt8} (hl : l.length ≤ 1000) (c q k lo hi m rr : Int) (st : List Zi) (ks : List Zj) : Z4s (bl l) (l.length : Int) c q k lo hi m rr st ks = some (⟨k, lo, hi, m, rr, st, ks⟩, (l.length : Int), c, q) := by
 unfold Z4s
 rw [ZgJ hl w63, q0_, if_neg (by simp)]
 dsimp only
 rw [ZgJ hl w43, q0_, if_neg (by simp)]
 rfl
theorem ZmV {l : List UInt8} {s : St} (h : At l s) (hl : l.length ≤ 1000) (kid : Zj) (may : Bool) (p lo hi : Int) : ClsR l s (Zkk kid may p lo hi s) (Z3z may p (bl l) s.pos 0 0 4 lo hi 0 0 [] [kid]) := by
 unfold Z3z Zkk
 cases may with
 | false =>
  rw [if_pos rfl, if_pos (show (!false) = true from rfl), Z82, q0_]
  dsimp only
  rw [Zql hl]
  exact ⟨by decide, _, rfl⟩
 | true =>
  rw [if_neg (by simp), if_neg (show ¬ ((!true) = true) by simp)]
  unfold Z4s Z5l
  cases hw : wd [63] s with
  | some s1 =>
   obtain ⟨t1, t2, t3⟩ := Z3b w63 h hl hw
   rw [t1, q0_, if_pos rfl]
   exact ⟨rfl, t2⟩
  | none =>
   rw [Z5h w63 h hl hw, q0_, if_neg (by simp)]
   dsimp only
   cases hw2 : wd [43] s with
   | some s1 =>
    obtain ⟨t1, t2, t3⟩ := Z3b w43 h hl hw2
    rw [t1, q0_, if_pos rfl]
    exact ⟨rfl, t2⟩
   | none =>
    rw [Z5h w43 h hl hw2, q0_, if_neg (by simp)]
    exact ⟨rfl, Nx.refl h⟩
theorem ZIS {l : List UInt8} (hl : l.length ≤ 1000) (kid : Zj) (may : Bool) (g d : Int) (rf : List Zz) (c q : Int) : Z8n kid may (bl l) (l.length : Int) g d rf c q = some (kid, (l.length : Int), c, q) := by
 apply Zej
 unfold Z6D
 rw [ZgJ hl w42, q0_, if_neg (by simp)]
 dsimp only
 rw [ZgJ hl w43, q0_, if_neg (by simp)]
 dsimp only
 rw [ZgJ hl w63, q0_, if_neg (by simp)]
 dsimp only
 rw [ZgJ hl w123, q0_, if_neg (by simp)]
theorem ZCR {l : List UInt8} {s : St} (h : At l s) (hl : l.length ≤ 1000) (kid : Zj) (may : Bool) (g d : Int) (rf : List Zz) : ClsR l s (pRep kid may s) (Z8n kid may (bl l) s.pos g d rf 0 0) := by
 refine ClsR.of (b := Z6D kid may (bl l) s.pos g d rf 0 0) ?_ fun r e => Zej _ _ _ _ _ _ _ _ _ e
 unfold Z6D pRep
 cases hw : wd [42] s with
 | some s1 =>
  obtain ⟨t1, t2, t3⟩ := Z3b w42 h hl hw
  rw [t1, q0_, if_pos rfl]
  exact (ZmV t2.at_ hl kid may _ _ _).from t2
 | none =>
  rw [Z5h w42 h hl hw, q0_, if_neg (by simp)]
  dsimp only
  cases hw2 : wd [43] s with
  | some s1 =>
   obtain ⟨t1, t2, t3⟩ := Z3b w43 h hl hw2
   rw [t1, q0_, if_pos rfl]
   exact (ZmV t2.at_ hl kid may _ _ _).from t2
  | none =>
   rw [Z5h w43 h hl hw2, q0_, if_neg (by simp)]
   dsimp only
   cases hw3 : wd [63] s with
   | some s1 =>
    obtain ⟨t1, t2, t3⟩ := Z3b w63 h hl hw3
    rw [t1, q0_, if_pos rfl]
    exact (ZmV t2.at_ hl kid may _ _ _).from t2
   | none =>
    rw [Z5h w63 h hl hw3, q0_, if_neg (by simp)]
    dsimp only
    cases hw4 : wd [123] s with
    | none =>
     rw [Z5h w123 h hl hw4, q0_, if_neg (by simp)]
     exact ⟨rfl, Nx.refl h⟩
    | some s1 =>
     obtain ⟨t1, t2, t3⟩ := Z3b w123 h hl hw4
     rw [t1, q0_, if_pos rfl]
     dsimp only
     have hc := ZD8 t2.at_ hl s.pos g d rf
     cases hp : Zjp s.pos s1 with
     | bad c q =>
      rw [hp] at hc
      obtain ⟨hc0, a, b, hc⟩ := hc
      rw [hc, q0_]
      unfold Z3z
      dsimp only [Out.bind]
      cases may with
      | false =>
       rw [if_pos (show (!false) = true from rfl), Zyn _ _ _ _ _ hc0, q0_]
       dsimp only
       rw [Zql hl]
       exact ⟨hc0, _, rfl⟩
      | true =>
       rw [if_neg (show ¬ ((!true) = true) by simp), Zql hl]
       exact ⟨hc0, _, rfl⟩
     | ok n s2 =>
      rw [hp] at hc
      obtain ⟨hc, hn⟩ := hc
      rw [hc, q0_]
      exact (ZmV hn.at_ hl kid may _ _ _).from (t2.trans hn)
structure Inv (l : List UInt8) (s : St) : Prop where
 at_ : At l s
 g0 : 0 ≤ s.gr
 g9 : s.gr ≤ 9
 rf : s.rf.length + s.us.length ≤ 1500
structure Mv (l : List UInt8) (s s' : St) : Prop where
 at_ : At l s'
 len : s'.us.length ≤ s.us.length
 g0 : 0 ≤ s'.gr
 g9 : s'.gr ≤ 9
 rf : s'.rf.length + s'.us.length ≤ s.rf.length + s.us.length
theorem Mv.inv {l : List UInt8} {s s' : St} (h : Mv l s s') (hi : Inv l s) : Inv l s' := ⟨h.at_, h.g0, h.g9, Zip h.rf hi.rf⟩
theorem Mv.trans {l : List UInt8} {s s' s'' : St} (h : Mv l s s') (h' : Mv l s' s'') : Mv l s s'' :=
 ⟨h'.at_, Zip h'.len h.len, h'.g0, h'.g9, Zip h'.rf h.rf⟩
theorem Nx.mv {l : List UInt8} {s s' : St} (h : Nx l s s') (hi : Inv l s) : Mv l s s' :=
 ⟨h.at_, h.len, by rw [h.gr]; exact hi.g0, by rw [h.gr]; exact hi.g9, by rw [h.rf]; have := h.len; omega⟩
def AltR (l : List UInt8) (d : Int) (s : St) (o : Out Zj) (r : Option (Zj × Int × Int × Int × List Zz × Int × Int)) : Prop :=
 match o with
 | .ok n s' => r = some (n, s'.pos, s'.gr, d, s'.rf, 0, 0) ∧ Mv l s s'
 | .bad c q => c ≠ 0 ∧ ∃ n g' d' rf', rf'.length ≤ 1500 ∧ r = some (n, (l.length : Int), g', d', rf', c, q)
def AtmR (l : List UInt8) (d : Int) (s : St) (o : Out (Zj × Bool)) (r : Option (Zj × Bool × Int × Int × Int × List Zz × Int × Int)) : Prop :=
 match o with
 | .ok n s' => r = some (n.1, n.2, s'.pos, s'.gr, d, s'.rf, 0, 0) ∧ Mv l s s'
 | .bad c q => c ≠ 0 ∧ ∃ n may g' d' rf', rf'.length ≤ 1500 ∧ r = some (n, may, (l.length : Int), g', d', rf', c, q)
theorem AltR.of {l : List UInt8} {d : Int} {s : St} {o : Out Zj} {b g : Option (Zj × Int × Int × Int × List Zz × Int × Int)} (hb : AltR l d s o b) (hg : ∀ r, b = some r → g = some r) : AltR l d s o g := by
 cases o with
 | ok n s' => exact ⟨hg _ hb.1, hb.2⟩
 | bad c q => obtain ⟨hc, n, g', d', rf', hq, hn⟩ := hb; exact ⟨hc, n, g', d', rf', hq, hg _ hn⟩
theorem AtmR.of {l : List UInt8} {d : Int} {s : St} {o : Out (Zj × Bool)} {b g : Option (Zj × Bool × Int × Int × Int × List Zz × Int × Int)} (hb : AtmR l d s o b) (hg : ∀ r, b = some r → g = some r) : AtmR l d s o g := by
 cases o with
 | ok n s' => exact ⟨hg _ hb.1, hb.2⟩
 | bad c q => obtain ⟨hc, n, m, g', d', rf', hq, hn⟩ := hb; exact ⟨hc, n, m, g', d', rf', hq, hg _ hn⟩
theorem AltR.from {l : List UInt8} {d : Int} {s s1 : St} {o : Out Zj} {r : Option (Zj × Int × Int × Int × List Zz × Int × Int)} (h : AltR l d s1 o r) (hn : Mv l s s1) : AltR l d s o r := by
 cases o with
 | ok n s' => exact ⟨h.1, hn.trans h.2⟩
 | bad c q => exact h
theorem AtmR.from {l : List UInt8} {d : Int} {s s1 : St} {o : Out (Zj × Bool)} {r : Option (Zj × Bool × Int × Int × Int × List Zz × Int × Int)} (h : AtmR l d s1 o r) (hn : Mv l s s1) : AtmR l d s o r := by
 cases o with
 | ok n s' => exact ⟨h.1, hn.trans h.2⟩
 | bad c q => exact h
theorem w124 : Wd (ByteArray.mk #[124]) [124] := ⟨[124], rfl, rfl, by decide, by decide, by decide⟩
theorem w41 : Wd (ByteArray.mk #[41]) [41] := ⟨[41], rfl, rfl, by decide, by decide, by decide⟩
theorem wL0 : Wd (ByteArray.mk #[63, 61]) [63, 61] := ⟨[63, 61], rfl, rfl, by decide, by decide, by decide⟩
theorem wL1 : Wd (ByteArray.mk #[63, 33]) [63, 33] := ⟨[63, 33], rfl, rfl, by decide, by decide, by decide⟩
theorem wL2 : Wd (ByteArray.mk #[63, 60, 61]) [63, 60, 61] := ⟨[63, 60, 61], rfl, rfl, by decide, by decide, by decide⟩
theorem wL3 : Wd (ByteArray.mk #[63, 60, 33]) [63, 60, 33] := ⟨[63, 60, 33], rfl, rfl, by decide, by decide, by decide⟩
theorem wAt : Wd (ByteArray.mk #[63, 62]) [63, 62] := ⟨[63, 62], rfl, rfl, by decide, by decide, by decide⟩
theorem wNo : Wd (ByteArray.mk #[63, 58]) [63, 58] := ⟨[63, 58], rfl, rfl, by decide, by decide, by decide⟩
theorem Ztz (x3 : List Zj) (b : List Int) (a g d : Int) (rf : List Zz) (c q : Int) (hc : c ≠ 0) : Z6G x3 b a g d rf c q = some (joined 2 x3, a, g, d, rf, c, q) := by
 apply Zed
 unfold Z8b Z4b
 rw [if_neg (Z2X hc), Zl8]
 rfl
theorem ZqT {l : List UInt8} (hl : l.length ≤ 1000) (x3 : List Zj) (g d : Int) (rf : List Zz) (c q : Int) : Z6F x3 (bl l) (l.length : Int) g d rf c q = some (joined 3 x3, (l.length : Int), g, d, rf, c, q) := by
 apply Zeb
 unfold Z6B Z8a
 rw [ZgJ hl w124, q0_, if_neg (by simp), Zl8]
 rfl
theorem ZHW {l : List UInt8} (hl : l.length ≤ 1000) (g d : Int) (rf : List Zz) (c q : Int) (hc : c ≠ 0) : Z58 (bl l) (l.length : Int) g d rf c q = some (nd0, (l.length : Int), g, d, rf, c, q) := by
 apply Zhg
 unfold Z89
 have : Z8l (bl l) (l.length : Int) g d rf c q = some (nd0, (l.length : Int), g, d, rf, c, q) := by
  apply Zhi
  unfold Z9H
  exact Ztz _ _ _ _ _ _ _ _ hc
 rw [this, q0_]
 exact ZqT hl _ _ _ _ _ _
theorem ZyZ {l : List UInt8} (hl : l.length ≤ 1000) {d : Int} {P : Int → St → Out (Zj × Bool)} (HP : ∀ p s, Inv l s → AtmR l d s (P p s) (Z5P p (bl l) s.pos s.gr d s.rf 0 0)) {s : St} (h : Inv l s) (hn : s.us ≠ []) :
  AtmR l d (take s) (ZmQ P s) (Zbv (bl l) s.pos s.gr d s.rf 0 0) := by
 refine AtmR.of (b := Z98 (bl l) s.pos s.gr d s.rf 0 0) ?_ fun r e => Znb _ _ _ _ _ _ _ e
 have hnx := Z9u h.at_
 have hiv := (hnx.mv h).inv h
 have m0 : Mv l (take s) (take s) := (Nx.refl hnx.at_).mv hiv
 have hg : (take s).gr = s.gr := hnx.gr
 have hrf : (take s).rf = s.rf := hnx.rf
 have hu : 0 ≤ peek s.us ∧ peek s.us ≤ 1114367 := by
  rcases h.at_.range with ⟨_, h2⟩ | h2
  ·exact absurd h2 hn
  ·omega
 have bad : ∀ c q, c ≠ 0 → AtmR l d (take s) (.bad c q) ((Z1A c q (bl l) 0 0).bind fun r7 => Z2B r7.1 s.gr d s.rf r7.2.1 r7.2.2) := by
  intro c q hc
  rw [Z82]
  exact ⟨hc, _, _, _, _, _, show s.rf.length ≤ 1500 by have := h.rf; omega, rfl⟩
 have plain : AtmR l d (take s) (.ok (setN (setR false [(peek s.us, peek s.us)]), true) (take s)) ((Z35 (peek s.us)).bind fun r12 => (Z4M false ([r12] : List Zi)).bind fun r13 => some (r13, true, (take s).pos, s.gr, d, s.rf, 0, 0)) := by
  have hset := Zls false (L := [(peek s.us, peek s.us)]) (by simp) (by simp; omega)
  rw [Z9s, q0_, show [Zi.mk (peek s.us) (peek s.us)] = [((peek s.us, peek s.us) : R2)].map ofR from rfl, hset, q0_]
  exact ⟨by rw [hg, hrf], m0⟩
 unfold Z98 ZmQ
 rw [Zez h.at_ (by omega) hn, q0_]
 dsimp only
 by_cases h1 : peek s.us = 46
 ·rw [if_pos h1, if_pos (Z2T h1)]
  have hset := Zls true (L := [((10 : Int), (10 : Int))]) (by simp) (by simp)
  rw [Z9s, q0_, show [Zi.mk 10 10] = [((10, 10) : R2)].map ofR from rfl, hset, q0_]
  exact ⟨by rw [hg, hrf], m0⟩
 rw [if_neg h1, if_neg (Z2X h1)]
 by_cases h2 : peek s.us = 94
 ·rw [if_pos h2, if_pos (Z2T h2)]
  exact ⟨by rw [hg, hrf]; rfl, m0⟩
 rw [if_neg h2, if_neg (Z2X h2)]
 by_cases h3 : peek s.us = 36
 ·rw [if_pos h3, if_pos (Z2T h3)]
  exact ⟨by rw [hg, hrf]; rfl, m0⟩
 rw [if_neg h3, if_neg (Z2X h3)]
 by_cases h4 : peek s.us = 92
 ·rw [if_pos h4, if_pos (Z2T h4)]
  have he := ZJu hnx.at_ hl (by have := hiv.rf; omega) s.pos s.gr d
  rw [hrf] at he
  cases hp : pEsc s.pos (take s) with
  | bad c q =>
   rw [hp] at he
   obtain ⟨hc, n, he⟩ := he
   rw [hrf] at he
   rw [he]
   exact ⟨hc, _, _, _, _, _, show s.rf.length ≤ 1500 by have := h.rf; omega, rfl⟩
  | ok n s' =>
   rw [hp] at he
   obtain ⟨he, e1, e2, e3, e4⟩ := he
   rw [he]
   refine ⟨?_, ⟨e1, by omega, by rw [e3, hg]; exact h.g0, by rw [e3, hg]; exact h.g9, e4⟩⟩
   rw [e3, hg]
   rfl
 rw [if_neg h4, if_neg (Z2X h4)]
 by_cases h5 : peek s.us = 91
 ·rw [if_pos h5, if_pos (Z2T h5)]
  have he := ZFG hnx.at_ hl s.pos s.gr d s.rf
  cases hp : ZoM s.pos (take s) with
  | bad c q =>
   rw [hp] at he
   obtain ⟨hc, n, he⟩ := he
   rw [he]
   exact ⟨hc, _, _, _, _, _, show s.rf.length ≤ 1500 by have := h.rf; omega, rfl⟩
  | ok n s' =>
   rw [hp] at he
   obtain ⟨he, e1⟩ := he
   rw [he]
   refine ⟨?_, e1.mv hiv⟩
   rw [e1.gr, e1.rf, hg, hrf]
   rfl
 rw [if_neg h5, if_neg (Z2X h5)]
 by_cases h6 : peek s.us = 40
 ·rw [if_pos h6, if_pos (Z2T h6)]
  have he := HP s.pos (take s) hiv
  rw [hg, hrf] at he
  cases hp : P s.pos (take s) with
  | bad c q =>
   rw [hp] at he
   obtain ⟨hc, n, m, g', d', rf', hq, he⟩ := he
   rw [he]
   exact ⟨hc, _, _, _, _, _, hq, rfl⟩
  | ok n s' =>
   rw [hp] at he
   obtain ⟨he, e1⟩ := he
   rw [he]
   exact ⟨rfl, e1⟩
 rw [if_neg h6, if_neg (Z2X h6)]
 by_cases h7 : peek s.us = 42
 ·rw [if_pos (show peek s.us = 42 ∨ peek s.us = 43 ∨ peek s.us = 63 ∨ peek s.us = 123 from .inl h7), if_pos (Z2T h7), if_pos (Z2T h7)]
  exact bad _ _ (by decide)
 rw [if_neg (Z2X h7)]
 by_cases h8 : peek s.us = 43
 ·rw [if_pos (show peek s.us = 42 ∨ peek s.us = 43 ∨ peek s.us = 63 ∨ peek s.us = 123 from .inr (.inl h8)), if_pos (Z2T h8), if_pos (Z2T h8)]
  exact bad _ _ (by decide)
 rw [if_neg (Z2X h8)]
 by_cases h9 : peek s.us = 63
 ·rw [if_pos (show peek s.us = 42 ∨ peek s.us = 43 ∨ peek s.us = 63 ∨ peek s.us = 123 from .inr (.inr (.inl h9))), if_pos (Z2T h9), if_pos (Z2T h9)]
  exact bad _ _ (by decide)
 rw [if_neg (Z2X h9)]
 by_cases h10 : peek s.us = 123
 ·rw [if_pos (show peek s.us = 42 ∨ peek s.us = 43 ∨ peek s.us = 63 ∨ peek s.us = 123 from .inr (.inr (.inr h10))), if_pos (Z2T h10)]
  exact bad _ _ (by decide)
 rw [if_neg (show ¬ (peek s.us = 42 ∨ peek s.us = 43 ∨ peek s.us = 63 ∨ peek s.us = 123) by omega), if_neg (Z2X h10)]
 by_cases h11 : peek s.us = 93
 ·rw [if_pos (show peek s.us = 93 ∨ peek s.us = 125 from .inl h11), if_pos (Z2T h11), if_pos (Z2T h11)]
  exact bad _ _ (by decide)
 rw [if_neg (Z2X h11)]
 by_cases h12 : peek s.us = 125
 ·rw [if_pos (show peek s.us = 93 ∨ peek s.us = 125 from .inr h12), if_pos (Z2T h12)]
  exact bad _ _ (by decide)
 rw [if_neg (show ¬ (peek s.us = 93 ∨ peek s.us = 125) by omega), if_neg (Z2X h12)]
 exact plain
end Go.Proofs.YteoeggbihfnbfaaGreatDoor.N2
end
section
namespace Go.Proofs.YteoeggbihfnbfaaGreatDoor.N2
open Go Go.Abs Go.Proofs.Unis Go.Proofs.Norm
set_option maxRecDepth 100000
section
variable {l : List UInt8} (hl : l.length ≤ 1000) {d : Int} {P : Int → St → Out (Zj × Bool)} (HP : ∀ p s, Inv l s → AtmR l d s (P p s) (Z5P p (bl l) s.pos s.gr d s.rf 0 0))
theorem ZlZ (kids : List Zj) (n : Zj) (h : kids.length ≤ 5000) : lapp kids [n] = some (kids ++ [n]) := by
 unfold lapp
 rw [if_pos (by simp [lim]; omega)]
include hl HP in
theorem ZHY : ∀ (k : Nat) (kids : List Zj) (s : St), Inv l s → s.us.length < k → kids.length + s.us.length ≤ 3000 → AltR l d s (ZmR P k kids s) (Z6G kids (bl l) s.pos s.gr d s.rf 0 0) := by
 intro k
 induction k with
 | zero => intro kids s _ hk; omega
 | succ k ih =>
  intro kids s h hk hb
  have r9 : AltR l d s (.ok (joined 2 kids) s) (Z4b kids s.pos s.gr d s.rf 0 0) := by
   unfold Z4b
   rw [Zl8]
   exact ⟨rfl, (Nx.refl h.at_).mv h⟩
  have r7 : s.us ≠ [] → AltR l d s ((ZmQ P s).bind fun m s1 => (pRep m.1 m.2 s1).bind fun n s2 => ZmR P k (kids ++ [n]) s2) (Z5z kids (bl l) s.pos s.gr d s.rf 0 0) := by
   intro hn
   have hlt := ZoR h.at_ hn
   have hiv := ((Z9u h.at_).mv h).inv h
   have ha := ZyZ hl HP h hn
   unfold Z5z
   cases hp : ZmQ P s with
   | bad c q =>
    rw [hp] at ha
    obtain ⟨hc, n, m, g', d', rf', hq, ha⟩ := ha
    rw [ha, q0_]
    dsimp only
    rw [ZIS hl, q0_]
    dsimp only
    rw [ZlZ _ _ (by omega), q0_, Ztz _ _ _ _ _ _ _ _ hc]
    exact ⟨hc, _, _, _, _, hq, rfl⟩
   | ok n s1 =>
    rw [hp] at ha
    obtain ⟨ha, hm⟩ := ha
    rw [ha, q0_]
    dsimp only [Out.bind]
    have hi1 := hm.inv hiv
    have hr := ZCR hm.at_ hl n.1 n.2 s1.gr d s1.rf
    cases hp2 : pRep n.1 n.2 s1 with
    | bad c q =>
     rw [hp2] at hr
     obtain ⟨hc, n', hr⟩ := hr
     rw [hr, q0_]
     dsimp only
     rw [ZlZ _ _ (by omega), q0_, Ztz _ _ _ _ _ _ _ _ hc]
     exact ⟨hc, _, _, _, _, show s1.rf.length ≤ 1500 by have := hi1.rf; omega, rfl⟩
    | ok n' s2 =>
     rw [hp2] at hr
     obtain ⟨hr, hx⟩ := hr
     rw [hr, q0_]
     dsimp only
     rw [ZlZ _ _ (by omega), q0_, ← hx.gr, ← hx.rf]
     have h2 := hx.mv hi1
     have := h2.len
     have := hm.len
     exact (ih (kids ++ [n']) s2 (h2.inv hi1) (by omega) (by simp; omega)).from (((Z9u h.at_).mv h).trans (hm.trans h2))
  refine AltR.of (b := Z8c kids (bl l) s.pos s.gr d s.rf 0 0) ?_ fun r e => ?_
  ·unfold Z8c ZmR
   rw [Zbc h.at_, q0_]
   by_cases hn : s.us = []
   ·have hp : peek s.us = -1 := by rw [hn]; rfl
    rw [if_pos (show stops s.us = true by rw [hn]; rfl), if_pos (Z2T hp), if_pos (Z2T hp)]
    exact r9
   have hu : 0 ≤ peek s.us := by
    rcases h.at_.range with ⟨_, h2⟩ | h2
    ·exact absurd h2 hn
    ·omega
   have he : s.us.isEmpty = false := by
    cases hs : s.us with
    | nil => exact absurd hs hn
    | cons a b => rfl
   rw [if_neg (Z2X (show ¬ peek s.us = -1 by omega))]
   by_cases h1 : peek s.us = 124
   ·rw [if_pos (show stops s.us = true by simp [stops, h1]), if_pos (Z2T h1), if_pos (Z2T h1)]
    exact r9
   rw [if_neg (Z2X h1)]
   by_cases h2 : peek s.us = 41
   ·rw [if_pos (show stops s.us = true by simp [stops, h2]), if_pos (Z2T h2)]
    exact r9
   rw [if_neg (show ¬ (stops s.us = true) by simp [stops, he, h1, h2]), if_neg (Z2X h2)]
   exact r7 hn
  ·apply Zed
   unfold Z8b
   rw [if_pos (by rfl)]
   exact e
include hl HP in
theorem Zs6 {s : St} (h : Inv l s) : AltR l d s (pCat P s) (Z8l (bl l) s.pos s.gr d s.rf 0 0) := by
 have := h.rf
 refine AltR.of (ZHY hl HP (s.us.length + 1) [] s h (by omega) (by simp; omega)) fun r e => ?_
 apply Zhi
 unfold Z9H
 exact e
include hl HP in
theorem ZHV : ∀ (k : Nat) (kids : List Zj) (s : St), Inv l s → s.us.length < k → kids.length + s.us.length ≤ 3000 → AltR l d s (Zqa P k kids s) (Z6F kids (bl l) s.pos s.gr d s.rf 0 0) := by
 intro k
 induction k with
 | zero => intro kids s _ hk; omega
 | succ k ih =>
  intro kids s h hk hb
  refine AltR.of (b := Z6B kids (bl l) s.pos s.gr d s.rf 0 0) ?_ fun r e => Zeb _ _ _ _ _ _ _ _ e
  unfold Z6B Zqa
  cases hw : wd [124] s with
  | none =>
   rw [Z5h w124 h.at_ hl hw, q0_, if_neg (by simp)]
   unfold Z8a
   rw [Zl8]
   exact ⟨rfl, (Nx.refl h.at_).mv h⟩
  | some s1 =>
   obtain ⟨t1, t2, t3⟩ := Z3b w124 h.at_ hl hw
   have m1 := t2.mv h
   rw [t1, q0_, if_pos rfl]
   unfold Z9X
   have hc := Zs6 hl HP (m1.inv h)
   rw [t2.gr, t2.rf] at hc
   dsimp only
   cases hp : pCat P s1 with
   | bad c q =>
    rw [hp] at hc
    obtain ⟨hc0, n, g', d', rf', hq, hc⟩ := hc
    rw [hc, q0_]
    dsimp only
    rw [ZlZ _ _ (by omega), q0_, ZqT hl]
    exact ⟨hc0, _, _, _, _, hq, rfl⟩
   | ok n s2 =>
    rw [hp] at hc
    obtain ⟨hc, m2⟩ := hc
    rw [hc, q0_]
    dsimp only
    rw [ZlZ _ _ (by omega), q0_]
    have := m2.len
    exact (ih (kids ++ [n]) s2 (m2.inv (m1.inv h)) (by omega) (by simp; omega)).from (m1.trans m2)
include hl HP in
theorem ZyX {s : St} (h : Inv l s) : AltR l d s (ZsQ P s) (Z58 (bl l) s.pos s.gr d s.rf 0 0) := by
 refine AltR.of (b := Z89 (bl l) s.pos s.gr d s.rf 0 0) ?_ fun r e => Zhg _ _ _ _ _ _ _ e
 unfold Z89 ZsQ
 have hc := Zs6 hl HP h
 cases hp : pCat P s with
 | bad c q =>
  rw [hp] at hc
  obtain ⟨hc0, n, g', d', rf', hq, hc⟩ := hc
  rw [hc, q0_]
  dsimp only
  rw [ZqT hl]
  exact ⟨hc0, _, _, _, _, hq, rfl⟩
 | ok n s2 =>
  rw [hp] at hc
  obtain ⟨hc, m2⟩ := hc
  rw [hc, q0_]
  have := m2.len
  have := h.rf
  exact (ZHV hl HP (s2.us.length + 1) [n] s2 (m2.inv h) (by omega) (by simp; omega)).from m2
end
theorem ff : ¬ (false = true) := by simp
theorem ZmP {l : List UInt8} {s : St} (h : At l s) (hl : l.length ≤ 1000) {L : List ByteArray} {i : Nat} {b : ByteArray} {w : List Int} (hw : Wd b w) (hL : L[i]? = some b) (hi : i ≤ 100) (e : wd w s = none) : ∀ r, Z2V L (L.length : Int) ((i + 1 : Nat) : Int) (bl l) s.pos = some r → Z2V L (L.length : Int) (i : Int) (bl l) s.pos = some r := by
 intro r hr
 have hlt : i < L.length := (q3_.1 hL).1
 apply Z7j
 unfold Z41 Z4I
 rw [if_pos (Z2F (by omega)), Z3a, hL, q0_, Z5h hw h hl e, q0_, if_neg (by simp)]
 unfold Z5N
 rw [wrap_i64 (by omega) (by omega)]
 exact hr
theorem Zq3 {l : List UInt8} {s s1 : St} (h : At l s) (hl : l.length ≤ 1000) {L : List ByteArray} {i : Nat} {b : ByteArray} {w : List Int} (hw : Wd b w) (hL : L[i]? = some b) (e : wd w s = some s1) : Z2V L (L.length : Int) (i : Int) (bl l) s.pos = some ((i : Int), s1.pos) := by
 have hlt : i < L.length := (q3_.1 hL).1
 apply Z7j
 unfold Z41 Z4I
 rw [if_pos (Z2F (by omega)), Z3a, hL, q0_, (Z3b hw h hl e).1, q0_, if_pos rfl]
theorem ZIu (l : List UInt8) (p : Int) (L : List ByteArray) : Z2V L (L.length : Int) (L.length : Int) (bl l) p = some (-1, p) := by
 apply Z7j
 unfold Z41
 rw [if_neg (Z2C (by omega))]
 rfl
theorem Zyy {l : List UInt8} (hl : l.length ≤ 1000) {d : Int} (hd : 0 ≤ d ∧ d < 32) {A : St → Out Zj} (HA : ∀ s, Inv l s → AltR l (d + 1) s (A s) (Z58 (bl l) s.pos s.gr (d + 1) s.rf 0 0)) (p : Int) (s : St) (h : Inv l s) :
  AtmR l d s (ZoN A p s) (Z5P p (bl l) s.pos s.gr d s.rf 0 0) := by
 have r20 : ∀ (a g : Int) (rf : List Zz) (c q k lo hi m rr : Int) (st : List Zi) (kid : Zj), Z3H a g (d + 1) rf c q k lo hi m rr st kid = some ((if k = 0 then kid else ⟨k, lo, hi, m, rr, st, [kid]⟩), (if k = 0 then true else k != 7), a, g, d, rf, c, q) := by
  intro a g rf c q k lo hi m rr st kid
  unfold Z3H Z70
  rw [wrap_i64 (n := d + 1 - 1) (by omega) (by omega), show d + 1 - 1 = d by omega]
  by_cases hk : k = 0
  ·rw [if_pos (Z2T hk), if_pos hk, if_pos hk]
  ·rw [if_neg (Z2X hk), if_neg hk, if_neg hk]
 have r20' : ∀ (a g d0 : Int) (rf : List Zz) (c q k lo hi m rr : Int) (st : List Zi) (kid : Zj), ∃ n may d', Z3H a g d0 rf c q k lo hi m rr st kid = some (n, may, a, g, d', rf, c, q) := by
  intro a g d0 rf c q k lo hi m rr st kid
  unfold Z3H Z70
  by_cases hk : k = 0
  ·exact ⟨_, _, _, by rw [if_pos (Z2T hk)]⟩
  ·exact ⟨_, _, _, by rw [if_neg (Z2X hk)]⟩
 have stop : ∀ (g d0 : Int) (rf : List Zz) (c q k lo hi m rr : Int) (st : List Zi), c ≠ 0 → rf.length ≤ 1500 → AtmR l d s (.bad c q) (Z2Y p (bl l) (l.length : Int) g d0 rf c q k lo hi m rr st) := by
  intro g d0 rf c q k lo hi m rr st hc hq
  unfold Z2Y
  rw [ZHW hl _ _ _ _ _ hc, q0_]
  dsimp only
  rw [if_neg (Z2X hc)]
  obtain ⟨n, may, d', e⟩ := r20' (l.length : Int) g d0 rf c q k lo hi m rr st nd0
  rw [e]
  exact ⟨hc, _, _, _, _, _, hq, rfl⟩
 have go : ∀ (k m rr : Int) (s1 : St), Mv l s s1 → AtmR l d s ((A s1).bind fun kid s2 => match wd [41] s2 with
   | none => .bad 20 p
   | some s3 => if k = 0 then .ok (kid, true) s3 else .ok (⟨k, 0, 0, m, rr, [], [kid]⟩, k != 7) s3) (Z2Y p (bl l) s1.pos s1.gr (d + 1) s1.rf 0 0 k 0 0 m rr []) := by
  intro k m rr s1 hm
  have hi1 := hm.inv h
  have ha := HA s1 hi1
  unfold Z2Y
  cases hp : A s1 with
  | bad c q =>
   rw [hp] at ha
   obtain ⟨hc, n, g', d', rf', hq, ha⟩ := ha
   rw [ha, q0_]
   dsimp only
   rw [if_neg (Z2X hc)]
   obtain ⟨n, may, d'', e⟩ := r20' (l.length : Int) g' d' rf' c q k 0 0 m rr [] n
   rw [e]
   exact ⟨hc, _, _, _, _, _, hq, rfl⟩
  | ok n s2 =>
   rw [hp] at ha
   obtain ⟨ha, m2⟩ := ha
   rw [ha, q0_]
   dsimp only [Out.bind]
   rw [if_pos (Z2T rfl)]
   cases hw : wd [41] s2 with
   | none =>
    rw [Z5h w41 m2.at_ hl hw, q0_, if_pos (show (!false) = true from rfl)]
    unfold Z8G
    rw [Z82, q0_, r20]
    exact ⟨by decide, _, _, _, _, _, show s2.rf.length ≤ 1500 by have := (m2.inv hi1).rf; omega, rfl⟩
   | some s3 =>
    obtain ⟨t1, t2, t3⟩ := Z3b w41 m2.at_ hl hw
    rw [t1, q0_, if_neg (show ¬ ((!true) = true) by simp), r20, ← t2.gr, ← t2.rf]
    have mm := hm.trans (m2.trans (t2.mv (m2.inv hi1)))
    dsimp only
    by_cases hk : k = 0
    ·rw [if_pos hk, if_pos hk, if_pos hk]
     exact ⟨rfl, mm⟩
    ·rw [if_neg hk, if_neg hk, if_neg hk]
     exact ⟨rfl, mm⟩
 refine AtmR.of (b := Z7q p (bl l) s.pos s.gr d s.rf 0 0 0 0 0 0 0 []) ?_ fun r e => ?_
 ·unfold Z7q ZoN ZF8
  have g9 := h.g9
  have g0 := h.g0
  have lk : ZgB = some [(ByteArray.mk #[63, 61]), (ByteArray.mk #[63, 33]), (ByteArray.mk #[63, 60, 61]), (ByteArray.mk #[63, 60, 33])] := ZtR rfl
  rw [lk, q0_, wrap_i64 (n := d + 1) (by omega) (by omega)]
  generalize hL : [(ByteArray.mk #[63, 61]), (ByteArray.mk #[63, 33]), (ByteArray.mk #[63, 60, 61]), (ByteArray.mk #[63, 60, 33])] = L
  have L0 : L[0]? = some (ByteArray.mk #[63, 61]) := by rw [← hL]; rfl
  have L1 : L[1]? = some (ByteArray.mk #[63, 33]) := by rw [← hL]; rfl
  have L2 : L[2]? = some (ByteArray.mk #[63, 60, 61]) := by rw [← hL]; rfl
  have L3 : L[3]? = some (ByteArray.mk #[63, 60, 33]) := by rw [← hL]; rfl
  have Ll : L.length = 4 := by rw [← hL]; rfl
  have idx : ∀ r, Z2V L (L.length : Int) ((0 : Nat) : Int) (bl l) s.pos = some r → Z6W L (bl l) s.pos = some r := by
   intro r e
   apply ZgY
   unfold Z6P
   exact e
  cases hw0 : wd [63, 61] s with
  | some s1 =>
   rw [idx _ (Zq3 h.at_ hl wL0 L0 hw0), q0_]
   obtain ⟨t1, t2, t3⟩ := Z3b wL0 h.at_ hl hw0
   have := go 7 0 0 s1 (t2.mv h)
   rw [t2.gr, t2.rf] at this
   exact this
  | none =>
  have i1 := fun r e => idx r (ZmP h.at_ hl wL0 L0 (by omega) hw0 r e)
  cases hw1 : wd [63, 33] s with
  | some s1 =>
   rw [i1 _ (Zq3 h.at_ hl wL1 L1 hw1), q0_]
   obtain ⟨t1, t2, t3⟩ := Z3b wL1 h.at_ hl hw1
   have := go 7 1 0 s1 (t2.mv h)
   rw [t2.gr, t2.rf] at this
   exact this
  | none =>
  have i2 := fun r e => i1 r (ZmP h.at_ hl wL1 L1 (by omega) hw1 r e)
  cases hw2 : wd [63, 60, 61] s with
  | some s1 =>
   rw [i2 _ (Zq3 h.at_ hl wL2 L2 hw2), q0_]
   obtain ⟨t1, t2, t3⟩ := Z3b wL2 h.at_ hl hw2
   have := go 7 2 0 s1 (t2.mv h)
   rw [t2.gr, t2.rf] at this
   exact this
  | none =>
  have i3 := fun r e => i2 r (ZmP h.at_ hl wL2 L2 (by omega) hw2 r e)
  cases hw3 : wd [63, 60, 33] s with
  | some s1 =>
   rw [i3 _ (Zq3 h.at_ hl wL3 L3 hw3), q0_]
   obtain ⟨t1, t2, t3⟩ := Z3b wL3 h.at_ hl hw3
   have := go 7 3 0 s1 (t2.mv h)
   rw [t2.gr, t2.rf] at this
   exact this
  | none =>
  have i4 := i3 _ (ZmP h.at_ hl wL3 L3 (by omega) hw3 _ (by have := ZIu l s.pos L; rw [Ll] at this ⊢; exact this))
  rw [i4, q0_]
  dsimp only
  rw [if_neg (Z2C (show ¬ ((0 : Int) ≤ -1) by decide))]
  cases hw4 : wd [63, 62] s with
  | some s1 =>
   obtain ⟨t1, t2, t3⟩ := Z3b wAt h.at_ hl hw4
   rw [t1, q0_, if_pos rfl]
   have := go 8 0 0 s1 (t2.mv h)
   rw [t2.gr, t2.rf] at this
   exact this
  | none =>
  rw [Z5h wAt h.at_ hl hw4, q0_, if_neg ff]
  dsimp only
  cases hw5 : wd [63, 58] s with
  | some s1 =>
   obtain ⟨t1, t2, t3⟩ := Z3b wNo h.at_ hl hw5
   rw [t1, q0_, if_pos rfl]
   have := go 0 0 0 s1 (t2.mv h)
   rw [t2.gr, t2.rf] at this
   exact this
  | none =>
  rw [Z5h wNo h.at_ hl hw5, q0_, if_neg ff]
  dsimp only
  rw [Zbc h.at_, q0_]
  by_cases h1 : peek s.us = 63
  ·rw [if_pos h1, if_pos (Z2T h1), Z82, q0_]
   exact stop _ _ _ _ _ _ _ _ _ _ _ (by decide) (by have := h.rf; omega)
  rw [if_neg h1, if_neg (Z2X h1)]
  by_cases h2 : s.gr = 9
  ·rw [if_pos h2, if_pos (Z2T h2), Z82, q0_]
   exact stop _ _ _ _ _ _ _ _ _ _ _ (by decide) (by have := h.rf; omega)
  rw [if_neg h2, if_neg (Z2X h2), wrap_i64 (n := s.gr + 1) (by omega) (by omega)]
  have mm : Mv l s { s with gr := s.gr + 1 } := ⟨h.at_, q7_ _, by simp only []; omega, by simp only []; omega, q7_ _⟩
  exact go 5 0 (s.gr + 1) { s with gr := s.gr + 1 } mm
 ·apply Zby
  unfold Z78
  rw [if_neg (Z2X (show ¬ d = 32 by omega))]
  exact e
theorem ZCf {l : List UInt8} (hl : l.length ≤ 1000) : ∀ (k : Nat) (d : Int), d + k = 32 → 0 ≤ d → ∀ s, Inv l s → AltR l d s (pAlt k s) (Z58 (bl l) s.pos s.gr d s.rf 0 0) := by
 intro k
 induction k with
 | zero =>
  intro d hd h0 s h
  refine ZyX hl (P := fun p _ => .bad 25 p) ?_ h
  intro p s h
  refine ⟨by decide, nd0, true, s.gr, d, s.rf, by have := h.rf; omega, ?_⟩
  apply Zby
  unfold Z78
  rw [if_pos (Z2T (show d = 32 by omega)), Z82]
  rfl
 | succ k ih =>
  intro d hd h0 s h
  exact ZyX hl (P := fun p s => ZoN (pAlt k) p s) (fun p s h => Zyy hl (by omega) (ih (d + 1) (by omega) (by omega)) p s h) h
end Go.Proofs.YteoeggbihfnbfaaGreatDoor.N2
end
section
namespace Go.Proofs.YteoeggbihfnbfaaGreatDoor.N2
open Go Go.Abs Go.Proofs.Unis Go.Proofs.Norm
set_option maxRecDepth 100000
theorem Zus {l : List UInt8} (R : List Zz) (hR : R.length ≤ 2000) (g c q k lo hi m rr : Int) (st : List Zi) (ks : List Zj) (fold : Bool) (hc : c ≠ 0) : ∀ (n i : Nat), i + n = R.length →
  Z9n R (R.length : Int) (i : Int) (bl l) g c q k lo hi m rr st ks fold = some (Zq6, ⟨c, q⟩) := by
 intro n
 induction n with
 | zero =>
  intro i h
  apply Zbu
  unfold Z7Z Za9
  rw [if_neg (Z2C (by omega)), if_pos (ZeP hc)]
  rfl
 | succ n ih =>
  intro i h
  have hil : i < R.length := by omega
  apply Zbu
  unfold Z7Z Za8
  rw [if_pos (Z2F (by omega)), Z3a, q2_ hil, q0_]
  have r13 : Z6d R (R.length : Int) (i : Int) (bl l) g c q k lo hi m rr st ks fold = some (Zq6, ⟨c, q⟩) := by
   unfold Z6d
   rw [wrap_i64 (by omega) (by omega)]
   exact ih (i + 1) (by omega)
  by_cases hg : g < R[i].group
  ·rw [if_pos (Z2F hg), Zyn _ _ _ _ _ hc, q0_]
   exact r13
  ·rw [if_neg (Z2C hg)]
   exact r13
theorem ZLh {l : List UInt8} (R : List Zz) (hR : R.length ≤ 2000) (g k lo hi m rr : Int) (st : List Zi) (ks : List Zj) (fold : Bool) : ∀ (n i : Nat), i + n = R.length →
  Z9n R (R.length : Int) (i : Int) (bl l) g 0 0 k lo hi m rr st ks fold = some (match (R.drop i).find? (fun x => decide (g < x.group)) with
   | some x => (Zq6, ⟨26, x.at_⟩)
   | none => (⟨⟨k, lo, hi, m, rr, st, ks⟩, g, fold⟩, ⟨0, 0⟩)) := by
 intro n
 induction n with
 | zero =>
  intro i h
  rw [q9_ (by omega)]
  apply Zbu
  unfold Z7Z Za9
  rw [if_neg (Z2C (by omega)), if_neg (ZeO rfl)]
  rfl
 | succ n ih =>
  intro i h
  have hil : i < R.length := by omega
  apply Zbu
  unfold Z7Z Za8
  rw [if_pos (Z2F (by omega)), Z3a, q2_ hil, q0_, Zdp hil, Zyf]
  by_cases hg : g < R[i].group
  ·rw [if_pos (Z2F hg), Z82, q0_]
   simp only [hg, decide_true]
   unfold Z6d
   rw [wrap_i64 (by omega) (by omega)]
   exact Zus R hR g 26 _ k lo hi m rr st ks fold (by decide) n (i + 1) (by omega)
  ·rw [if_neg (Z2C hg)]
   simp only [hg, decide_false]
   unfold Z6d
   rw [wrap_i64 (by omega) (by omega)]
   exact ih (i + 1) (by omega)
theorem wFo : Wd (ByteArray.mk #[40, 63, 105, 41]) [40, 63, 105, 41] := ⟨[40, 63, 105, 41], rfl, rfl, by decide, by decide, by decide⟩
def Z8R (x : ByteArray) : Z1M × Z1n :=
 if 256 < x.data.toList.length then (Zq6, ⟨12, 0⟩) else ZAx (unis x.data.toList)
theorem ZCk {l : List UInt8} (hl : l.length ≤ 1000) (fold : Bool) {s : St} (h : Inv l s) (hg : s.gr = 0) (hrf : s.rf = []) :
  ((Z58 (bl l) s.pos 0 0 [] 0 0).bind fun r2 =>
   if ((r2.2.2.2.2.2.1 == 0)) = true then
   (if ((decide (r2.2.1 < ((bl l).length : Int)))) = true then
   (ZaK (bl l) r2.2.1 r2.2.2.1 r2.2.2.2.2.1 r2.2.2.2.2.2.1 r2.2.2.2.2.2.2 r2.1.Kind r2.1.Lo r2.1.Hi r2.1.Mode r2.1.Ref r2.1.Set r2.1.Kids fold)
   else
   (Z5M (bl l) r2.2.2.1 r2.2.2.2.2.1 r2.2.2.2.2.2.1 r2.2.2.2.2.2.2 r2.1.Kind r2.1.Lo r2.1.Hi r2.1.Mode r2.1.Ref r2.1.Set r2.1.Kids fold))
   else
   (Z5M (bl l) r2.2.2.1 r2.2.2.2.2.1 r2.2.2.2.2.2.1 r2.2.2.2.2.2.2 r2.1.Kind r2.1.Lo r2.1.Hi r2.1.Mode r2.1.Ref r2.1.Set r2.1.Kids fold)) = some (pEnd fold (pAlt 32 s)) := by
 have ha := ZCf hl 32 0 (by omega) (by omega) s h
 rw [hg, hrf] at ha
 cases hp : pAlt 32 s with
 | bad c q =>
  rw [hp] at ha
  obtain ⟨hc, n, g', d', rf', hq, ha⟩ := ha
  rw [ha, q0_]
  dsimp only
  rw [if_neg (Z2X hc)]
  unfold Z5M pEnd
  exact Zus (l := l) rf' (by omega) g' c q n.Kind n.Lo n.Hi n.Mode n.Ref n.Set n.Kids fold hc rf'.length 0 (by omega)
 | ok n s2 =>
  rw [hp] at ha
  obtain ⟨ha, hm⟩ := ha
  have hi := hm.inv h
  have hR := hi.rf
  rw [ha, q0_]
  dsimp only
  rw [if_pos (Z2T rfl), Ze5]
  unfold ZaK Z5M pEnd
  by_cases hn : s2.us = []
  ·have hpos := hm.at_.nil.1 hn
   rw [if_neg (Z2C (by omega))]
   dsimp only
   rw [if_neg (ZvO hn)]
   have := ZLh (l := l) s2.rf (by omega) s2.gr n.Kind n.Lo n.Hi n.Mode n.Ref n.Set n.Kids fold s2.rf.length 0 (by omega)
   rw [ZvY, show (⟨n.Kind, n.Lo, n.Hi, n.Mode, n.Ref, n.Set, n.Kids⟩ : Zj) = n by cases n; rfl] at this
   exact this
  ·have hpos : s2.pos < (l.length : Int) := by
    have h1 := hm.at_.len
    have : s2.pos ≠ l.length := fun e => hn (hm.at_.nil.2 e)
    omega
   rw [if_pos (Z2F hpos), Z82, q0_]
   dsimp only
   rw [if_pos hn]
   exact Zus (l := l) s2.rf (by omega) s2.gr 20 _ n.Kind n.Lo n.Hi n.Mode n.Ref n.Set n.Kids fold (by decide) s2.rf.length 0 (by omega)
theorem ZmS (x : ByteArray) : ZgA x = some (Z8R x) := by
 apply ZtP
 unfold Zgv Z8R
 have hsz : x.size = x.data.toList.length := rfl
 by_cases h : 256 < x.data.toList.length
 ·rw [if_pos (Z2F (by rw [hsz]; omega)), if_pos h]
  rfl
 ·rw [if_neg (Z2C (by rw [hsz]; omega)), if_neg h]
  unfold ZcZ ZAx
  rw [ZFD]
  generalize x.data.toList = l at h ⊢
  have hat : At l ⟨unis l, 0, 0, []⟩ := ⟨0, by omega, rfl, rfl⟩
  have hi : Inv l ⟨unis l, 0, 0, []⟩ := ⟨hat, by simp, by simp, by have := hat.len; simp only [] at this; simp; omega⟩
  cases hw : wd [40, 63, 105, 41] ⟨unis l, 0, 0, []⟩ with
  | none =>
   have := Z5h wFo hat (by omega) hw
   dsimp only at this
   rw [this, q0_]
   exact ZCk (by omega) false hi rfl rfl
  | some s1 =>
   obtain ⟨t1, t2, t3⟩ := Z3b wFo hat (by omega) hw
   dsimp only at t1
   rw [t1, q0_]
   exact ZCk (by omega) true ((t2.mv hi).inv hi) t2.gr t2.rf
end Go.Proofs.YteoeggbihfnbfaaGreatDoor.N2
end
