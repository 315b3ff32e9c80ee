/- Records from a state to another; what comes of them keeps what was. No condition. -/
import Derived.Test.YtiigbcahdaoedaaGreatDoorPlC

set_option linter.unusedSimpArgs false
set_option linter.unusedVariables false
set_option linter.defProp false
section
namespace Go.Proofs.YtiigbcahdaoedaaGreatDoor.N2
open Go Go.Abs
set_option maxRecDepth 100000
theorem ZmQ {α : Type} (l r : List α) (h : l.length + r.length ≤ 1000000000) : lapp l r = some (l ++ r) := by
 unfold lapp
 rw [if_pos (Zgr h (by decide))]
theorem ZuQ (L : List Z3) (hs : Sh L) (hl : L.length ≤ 1000000) : ∀ (d i : Nat), i + d = L.length → Z76 (L.take i) L (L.length : Int) (i : Int) = some L := by
 intro d
 induction d with
 | zero =>
  intro i h
  apply Zd5
  unfold Z6X Z93
  rw [if_neg (Z10 (by omega)), Zmj (by omega)]
 | succ d ih =>
  intro i h
  have hi : i < L.length := by omega
  obtain ⟨h1, h2⟩ := hs _ (Z8S hi)
  have key := ih (i + 1) (by omega)
  rw [Zx9 hi] at key
  apply Zd5
  unfold Z6X Z92
  rw [if_pos (Z12 (by omega)), Z1o, q2_ hi, ZY, ZmQ _ _ (by simp; omega), ZY, ZmQ _ _ (by simp; omega), ZY,
   ZmQ _ _ (by simp; omega), ZY, wrap_i64 (by omega) (by omega), Zmn, Zmn]
  exact key
theorem ZjJ (L : List Z3) (hs : Sh L) (hl : L.length ≤ 1000000) : Z7j L = some L := by
 apply ZlX
 unfold ZaI
 exact ZuQ L hs hl L.length 0 (by omega)
theorem ZB0 (L : List Z3) : Z8N L = some L := by
 apply ZiC
 unfold Z8I
 rw [Z9v L _ (by omega) (by omega), ZY, Zhv, List.take_length]
def Z8e (r : Zb) (s : Z0) : Option Z0 :=
 if r.Kind = 1 ∧ s.View ≤ r.A ∧ s.Normal ≤ r.B ∧ r.B ≤ r.A then some { s with View := r.A, Normal := r.B }
 else if r.Kind = 2 ∧ s.Log.length < 64 then some { s with Log := s.Log ++ r.Log }
 else if r.Kind = 3 ∧ s.Commit ≤ r.A ∧ r.A ≤ (s.Log.length : Int) then some { s with Log := s.Log.take r.A.toNat }
 else if r.Kind = 4 ∧ s.Commit ≤ r.A ∧ r.A ≤ (s.Log.length : Int) then some { s with Commit := r.A }
 else if r.Kind = 5 ∧ r.A ≤ 64 then some { s with Active := r.A }
 else none
def resF (s : Z0) : Option Z0 → Bool × Int × Int × Int × Int × List Z3
 | some t => (true, t.View, t.Normal, t.Commit, t.Active, t.Log)
 | none => (false, s.View, s.Normal, s.Commit, s.Active, s.Log)
theorem Zib (r : Zb) (s : Z0) : Z2E s.View s.Normal s.Commit s.Active s.Log r = some (resF s (if r.Kind = 5 ∧ r.A ≤ 64 then some { s with Active := r.A } else none)) := by
 unfold Z2E Z5G Z4G Z1N
 by_cases c1 : r.Kind = 5
 ·rw [if_pos (Z61 c1)]
  by_cases c2 : r.A ≤ 64
  ·rw [if_pos (Z12 c2), if_pos ⟨c1, c2⟩]; rfl
  ·rw [if_neg (Z10 c2), if_neg (fun h => c2 h.2)]; rfl
 ·rw [if_neg (Z60 c1), if_neg (fun h => c1 h.1)]; rfl
theorem ZjD (r : Zb) (s : Z0) : Z2M s.View s.Normal s.Commit s.Active s.Log r =
  some (resF s (if r.Kind = 4 ∧ s.Commit ≤ r.A ∧ r.A ≤ (s.Log.length : Int) then some { s with Commit := r.A } else if r.Kind = 5 ∧ r.A ≤ 64 then some { s with Active := r.A } else none)) := by
 unfold Z2M Z6d Z1N
 by_cases c1 : r.Kind = 4
 ·rw [if_pos (Z61 c1)]
  by_cases c2 : s.Commit ≤ r.A
  ·rw [if_pos (Z12 c2)]
   by_cases c3 : r.A ≤ (s.Log.length : Int)
   ·rw [if_pos (Z12 c3), if_pos ⟨c1, c2, c3⟩]; rfl
   ·rw [if_neg (Z10 c3), if_neg (fun h => c3 h.2.2)]; exact Zib r s
  ·rw [if_neg (Z10 c2), if_neg (fun h => c2 h.2.1)]; exact Zib r s
 ·rw [if_neg (Z60 c1), if_neg (fun h => c1 h.1)]; exact Zib r s
theorem Zob (r : Zb) (s : Z0) (hc : 0 ≤ s.Commit) : Z3n s.View s.Normal s.Commit s.Active s.Log r =
  some (resF s (if r.Kind = 3 ∧ s.Commit ≤ r.A ∧ r.A ≤ (s.Log.length : Int) then some { s with Log := s.Log.take r.A.toNat } else
   if r.Kind = 4 ∧ s.Commit ≤ r.A ∧ r.A ≤ (s.Log.length : Int) then some { s with Commit := r.A } else if r.Kind = 5 ∧ r.A ≤ 64 then some { s with Active := r.A } else none)) := by
 unfold Z3n Z6c Z1N
 by_cases c1 : r.Kind = 3
 ·rw [if_pos (Z61 c1)]
  by_cases c2 : s.Commit ≤ r.A
  ·rw [if_pos (Z12 c2)]
   by_cases c3 : r.A ≤ (s.Log.length : Int)
   ·rw [if_pos (Z12 c3), if_pos ⟨c1, c2, c3⟩, Z9v _ _ (by omega) c3]; rfl
   ·rw [if_neg (Z10 c3), if_neg (fun h => c3 h.2.2)]; exact ZjD r s
  ·rw [if_neg (Z10 c2), if_neg (fun h => c2 h.2.1)]; exact ZjD r s
 ·rw [if_neg (Z60 c1), if_neg (fun h => c1 h.1)]; exact ZjD r s
theorem Zxw (r : Zb) (s : Z0) (hc : 0 ≤ s.Commit) (hs : Sh r.Log) (hl : r.Log.length ≤ 1000) : Z80 r s.View s.Normal s.Commit s.Active s.Log = some (resF s (Z8e r s)) := by
 apply ZhH
 have h4 : Z2p s.View s.Normal s.Commit s.Active s.Log r = some (resF s (if r.Kind = 2 ∧ s.Log.length < 64 then some { s with Log := s.Log ++ r.Log } else
   if r.Kind = 3 ∧ s.Commit ≤ r.A ∧ r.A ≤ (s.Log.length : Int) then some { s with Log := s.Log.take r.A.toNat } else
   if r.Kind = 4 ∧ s.Commit ≤ r.A ∧ r.A ≤ (s.Log.length : Int) then some { s with Commit := r.A } else if r.Kind = 5 ∧ r.A ≤ 64 then some { s with Active := r.A } else none)) := by
  unfold Z2p Z6b Z5d
  by_cases c1 : r.Kind = 2
  ·rw [if_pos (Z61 c1)]
   by_cases c2 : s.Log.length < 64
   ·rw [if_pos (Z12 (by omega)), if_pos ⟨c1, c2⟩, ZB0, ZY, ZjJ _ hs (by omega), ZY, ZmQ _ _ (by omega), ZY]
    rfl
   ·rw [if_neg (Z10 (by omega)), if_neg (fun h => c2 h.2)]; exact Zob r s hc
  ·rw [if_neg (Z60 c1), if_neg (fun h => c1 h.1)]; exact Zob r s hc
 unfold Z7N Z6a Z1N Z8e
 by_cases c1 : r.Kind = 1
 ·rw [if_pos (Z61 c1)]
  by_cases c2 : s.View ≤ r.A
  ·rw [if_pos (Z12 c2)]
   by_cases c3 : s.Normal ≤ r.B
   ·rw [if_pos (Z12 c3)]
    by_cases c4 : r.B ≤ r.A
    ·rw [if_pos (Z12 c4), if_pos ⟨c1, c2, c3, c4⟩]; rfl
    ·rw [if_neg (Z10 c4), if_neg (fun h => c4 h.2.2.2)]; exact h4
   ·rw [if_neg (Z10 c3), if_neg (fun h => c3 h.2.2.1)]; exact h4
  ·rw [if_neg (Z10 c2), if_neg (fun h => c2 h.2.1)]; exact h4
 ·rw [if_neg (Z60 c1), if_neg (fun h => c1 h.1)]; exact h4
def oneF (c : Prop) [Decidable c] (r : Zb) : List Zb := if c then [r] else []
theorem ZqA {c : Prop} [Decidable c] {r : Zb} (h : ¬ c) : oneF c r = [] := if_neg h
theorem ZnR {c : Prop} [Decidable c] {r : Zb} (h : c) : oneF c r = [r] := if_pos h
theorem ZBE (c : Prop) [Decidable c] (r : Zb) : (oneF c r).length ≤ 1 := by unfold oneF; split <;> simp
def Zah (a b : Z0) (n : Nat) : List Zb :=
 oneF (a.View ≠ b.View) ⟨1, b.View, a.Normal, []⟩ ++ oneF (n < a.Log.length) ⟨3, n, 0, []⟩ ++ (b.Log.drop n).map (fun e => ⟨2, 0, 0, [e]⟩) ++
  (oneF (a.Normal ≠ b.Normal) ⟨1, b.View, b.Normal, []⟩ ++ (oneF (a.Commit ≠ b.Commit) ⟨4, b.Commit, 0, []⟩ ++ oneF (a.Active ≠ b.Active) ⟨5, b.Active, 0, []⟩))
theorem ZAK (x : List Zb) (hx : x.length ≤ 100000) (a b : Z0) : Z4v x a b = some (x ++ oneF (a.Active ≠ b.Active) ⟨5, b.Active, 0, []⟩) := by
 unfold Z4v Z5J oneF
 by_cases c : a.Active = b.Active
 ·rw [if_neg (Z4y c), if_neg (fun h => h c), ZbZ]
 ·rw [if_pos (Z4z c), Z5k _ _ (by omega), ZY, if_pos c]
theorem ZAJ (x : List Zb) (hx : x.length ≤ 10000) (a b : Z0) : Z4u x a b = some (x ++ (oneF (a.Commit ≠ b.Commit) ⟨4, b.Commit, 0, []⟩ ++ oneF (a.Active ≠ b.Active) ⟨5, b.Active, 0, []⟩)) := by
 unfold Z4u
 rw [← Zuj]
 by_cases c : a.Commit = b.Commit
 ·rw [if_neg (Z4y c), ZAK _ (by omega), ZqA (c := a.Commit ≠ b.Commit) (fun h => h c), ZbZ]
 ·rw [if_pos (Z4z c), Z5k _ _ (by omega), ZY, ZAK _ (by simp; omega), ZnR (c := a.Commit ≠ b.Commit) c]
theorem ZFn (x : List Zb) (hx : x.length ≤ 1000) (a b : Z0) : Z5I x a b = some (x ++ (oneF (a.Normal ≠ b.Normal) ⟨1, b.View, b.Normal, []⟩ ++ (oneF (a.Commit ≠ b.Commit) ⟨4, b.Commit, 0, []⟩ ++ oneF (a.Active ≠ b.Active) ⟨5, b.Active, 0, []⟩))) := by
 unfold Z5I
 rw [← Zuj]
 by_cases c : a.Normal = b.Normal
 ·rw [if_neg (Z4y c), ZAJ _ (by omega), ZqA (c := a.Normal ≠ b.Normal) (fun h => h c), ZbZ]
 ·rw [if_pos (Z4z c), Z5k _ _ (by omega), ZY, ZAJ _ (by simp; omega), ZnR (c := a.Normal ≠ b.Normal) c]
theorem ZFm (L : List Z3) (hl : L.length ≤ 100) (a b : Z0) : ∀ (d i : Nat) (x : List Zb), i + d = L.length → x.length ≤ i + 10 →
  Z5P x L (L.length : Int) (i : Int) a b = some (x ++ (L.drop i).map (fun e => ⟨2, 0, 0, [e]⟩) ++ (oneF (a.Normal ≠ b.Normal) ⟨1, b.View, b.Normal, []⟩ ++ (oneF (a.Commit ≠ b.Commit) ⟨4, b.Commit, 0, []⟩ ++ oneF (a.Active ≠ b.Active) ⟨5, b.Active, 0, []⟩))) := by
 intro d
 induction d with
 | zero =>
  intro i x h hx
  apply ZbD
  unfold Z5H
  rw [if_neg (Z10 (by omega)), q5_ (by omega), ZqJ, ZbZ]
  exact ZFn x (by omega) a b
 | succ d ih =>
  intro i x h hx
  have hi : i < L.length := by omega
  have key := ih (i + 1) (x ++ [⟨2, 0, 0, [L[i]]⟩]) (by omega) (by simp; omega)
  apply ZbD
  unfold Z5H Z7O
  rw [if_pos (Z12 (by omega)), Z1o, q2_ hi, ZY, Z5k _ _ (by omega), ZY, wrap_i64 (by omega) (by omega), Z6w hi, Zht]
  rw [Zuj x [_]] at key
  exact key
theorem Zku (x : List Zb) (hx : x.length ≤ 5) (a b : Z0) (ha : a.Log.length ≤ 64) (hb : b.Log.length ≤ 64) (hs : Sh b.Log) (n : Nat) (hn : n ≤ b.Log.length) :
  Z3L x (n : Int) a b = some (x ++ oneF (n < a.Log.length) ⟨3, n, 0, []⟩ ++ (b.Log.drop n).map (fun e => ⟨2, 0, 0, [e]⟩) ++ (oneF (a.Normal ≠ b.Normal) ⟨1, b.View, b.Normal, []⟩ ++ (oneF (a.Commit ≠ b.Commit) ⟨4, b.Commit, 0, []⟩ ++ oneF (a.Active ≠ b.Active) ⟨5, b.Active, 0, []⟩))) := by
 have h9 : ∀ y : List Zb, y.length ≤ 10 → Z4Z y (n : Int) a b = some (y ++ (b.Log.drop n).map (fun e => ⟨2, 0, 0, [e]⟩) ++ (oneF (a.Normal ≠ b.Normal) ⟨1, b.View, b.Normal, []⟩ ++ (oneF (a.Commit ≠ b.Commit) ⟨4, b.Commit, 0, []⟩ ++ oneF (a.Active ≠ b.Active) ⟨5, b.Active, 0, []⟩))) := by
  intro y hy
  unfold Z4Z
  have e : lsl b.Log (n : Int) (b.Log.length : Int) = some (b.Log.drop n) := by
   unfold lsl
   rw [if_pos ⟨by omega, by omega, by omega⟩, Zhv, Zhv, List.take_length]
  rw [e, ZY, ZjJ _ (fun x hx => hs x (Zue hx)) (by rw [List.length_drop]; omega), ZY]
  have := ZFm (b.Log.drop n) (by rw [List.length_drop]; omega) a b (b.Log.drop n).length 0 y (by omega) (by omega)
  rw [Zkr] at this
  exact this
 unfold Z3L
 by_cases c : n < a.Log.length
 ·rw [if_pos (Z12 (by omega)), Z5k _ _ (by omega), ZY, h9 _ (by simp; omega), ZnR (c := n < a.Log.length) c]
 ·rw [if_neg (Z10 (by omega)), h9 _ (by omega), ZqA (c := n < a.Log.length) c, ZbZ]
theorem ZCt (x : List Zb) (hx : x.length ≤ 5) (a b : Z0) (ha : a.Log.length ≤ 64) (hb : b.Log.length ≤ 64) (hsa : Sh a.Log) (hs : Sh b.Log) : ∀ (d i : Nat), i + d = min a.Log.length b.Log.length → a.Log.take i = b.Log.take i →
  ∃ n, n ≤ a.Log.length ∧ n ≤ b.Log.length ∧ a.Log.take n = b.Log.take n ∧ Z50 x (i : Int) a b = Z3L x (n : Int) a b := by
 intro d
 induction d with
 | zero =>
  intro i h he
  refine ⟨i, by omega, by omega, he, ?_⟩
  rw [Zku x hx a b ha hb hs i (by omega)]
  apply Z9s
  unfold Z4X
  rw [if_neg (Z10 (by omega)), Zku x hx a b ha hb hs i (by omega)]
 | succ d ih =>
  intro i h he
  have h1 : i < a.Log.length := by omega
  have h2 : i < b.Log.length := by omega
  have e1 := ZmR id a.Log i h1
  have e2 := ZmR id b.Log i h2
  rw [List.map_id] at e1 e2
  have hw : IntKind.i64.wrap ((i : Int) + 1) = ((i + 1 : Nat) : Int) := by rw [wrap_i64 (by omega) (by omega)]; omega
  have hsame := Zmf [a.Log[i]] [b.Log[i]] (fun e h => by rw [Z9S] at h; subst h; exact hsa _ (Z8S h1)) (by simp)
  by_cases c : a.Log[i] = b.Log[i]
  ·obtain ⟨n, q1, q2, q3, q4⟩ := ih (i + 1) (by omega) (by rw [Zx9 h1, Zx9 h2, he, c])
   refine ⟨n, q1, q2, q3, ?_⟩
   rw [Zku x hx a b ha hb hs n q2] at q4 ⊢
   apply Z9s
   unfold Z4X Z8F
   rw [if_pos (Z12 (by omega)), hw, e1, ZY, e2, ZY]
   show (Z88 [a.Log[i]] [b.Log[i]]).bind _ = _
   rw [hsame, ZY, if_pos (Z2k (by rw [c]))]
   exact q4
  ·refine ⟨i, by omega, by omega, he, ?_⟩
   rw [Zku x hx a b ha hb hs i (by omega)]
   apply Z9s
   unfold Z4X
   rw [if_pos (Z12 (by omega)), hw, e1, ZY, e2, ZY]
   show (Z88 [a.Log[i]] [b.Log[i]]).bind _ = _
   rw [hsame, ZY, if_neg (by rw [Z1O (fun h => c (by injection h))]; simp), Zku x hx a b ha hb hs i (by omega)]
theorem Zv1 (a b : Z0) (ha : a.Log.length ≤ 64) (hb : b.Log.length ≤ 64) (hsa : Sh a.Log) (hs : Sh b.Log) : ∃ n, n ≤ a.Log.length ∧ n ≤ b.Log.length ∧ a.Log.take n = b.Log.take n ∧ Z8u a b = some (Zah a b n) := by
 by_cases c : a.View = b.View
 ·obtain ⟨n, q1, q2, q3, q4⟩ := ZCt [] (by simp) a b ha hb hsa hs (min a.Log.length b.Log.length) 0 (by omega) rfl
  refine ⟨n, q1, q2, q3, ?_⟩
  rw [Zku _ (by simp) a b ha hb hs n q2] at q4
  apply ZeC
  unfold Z8i Z4Y
  rw [if_neg (Z4y c), show (0 : Int) = ((0 : Nat) : Int) from rfl, q4]
  unfold Zah
  have : oneF (a.View ≠ b.View) ⟨1, b.View, a.Normal, []⟩ = [] := by unfold oneF; rw [if_neg (fun h => h c)]
  rw [this]
 ·obtain ⟨n, q1, q2, q3, q4⟩ := ZCt [⟨1, b.View, a.Normal, []⟩] (by simp) a b ha hb hsa hs (min a.Log.length b.Log.length) 0 (by omega) rfl
  refine ⟨n, q1, q2, q3, ?_⟩
  rw [Zku _ (by simp) a b ha hb hs n q2] at q4
  apply ZeC
  unfold Z8i Z4Y
  rw [if_pos (Z4z c), Z5k _ _ (by simp), ZY, show (0 : Int) = ((0 : Nat) : Int) from rfl]
  show Z50 [⟨1, b.View, a.Normal, []⟩] ((0 : Nat) : Int) a b = _
  rw [q4]
  unfold Zah
  have : oneF (a.View ≠ b.View) ⟨1, b.View, a.Normal, []⟩ = [⟨1, b.View, a.Normal, []⟩] := by unfold oneF; rw [if_pos c]
  rw [this]
def Z7V : List Zb → Z0 → Option Z0
 | [], s => some s
 | r :: l, s => (Z8e r s).bind (Z7V l)
theorem ZhX : ∀ (l m : List Zb) (s : Z0), Z7V (l ++ m) s = (Z7V l s).bind (Z7V m)
 | [], m, s => rfl
 | r :: l, m, s => by
  show (Z8e r s).bind (Z7V (l ++ m)) = ((Z8e r s).bind (Z7V l)).bind (Z7V m)
  cases Z8e r s with
  | none => rfl
  | some t => exact ZhX l m t
theorem Zrh {r : Zb} {s t : Z0} (h : Z8e r s = some t) (hc : 0 ≤ s.Commit) : 0 ≤ t.Commit := by
 unfold Z8e at h
 split at h
 ·cases h; exact hc
 split at h
 ·cases h; exact hc
 split at h
 ·cases h; exact hc
 split at h
 ·rename_i c; cases h; show 0 ≤ r.A; omega
 split at h
 ·cases h; exact hc
 ·simp at h
theorem Zrj (x R : List Zb) (hR : R.length ≤ 1000000) (hs : ∀ r ∈ R, Sh r.Log ∧ r.Log.length ≤ 1000) : ∀ (d i : Nat) (s : Z0), i + d = R.length → 0 ≤ s.Commit →
  Z6l x R (R.length : Int) (i : Int) s.View s.Normal s.Commit s.Active s.Log = some (match Z7V (R.drop i) s with | some _ => (x, 0) | none => ([], 54)) := by
 intro d
 induction d with
 | zero =>
  intro i s h hc
  apply Zcc
  unfold Z6k Z7L
  rw [if_neg (Z10 (by omega)), q5_ (by omega)]
  rfl
 | succ d ih =>
  intro i s h hc
  have hi : i < R.length := by omega
  obtain ⟨h1, h2⟩ := hs _ (Z8S hi)
  apply Zcc
  unfold Z6k Z8E
  rw [if_pos (Z12 (by omega)), Z1o, q2_ hi, ZY, Zxw _ s hc h1 h2, ZY, Z6w hi]
  have e : Z7V (R[i] :: R.drop (i + 1)) s = (Z8e R[i] s).bind (Z7V (R.drop (i + 1))) := rfl
  rw [e]
  cases ht : Z8e R[i] s with
  | none => rfl
  | some t =>
   show (if (!true) = true then _ else _) = _
   rw [if_neg (by simp)]
   unfold Z7K
   rw [wrap_i64 (by omega) (by omega)]
   exact ih (i + 1) t (by omega) (Zrh ht hc)
theorem ZBS (a b : Z0) (n : Nat) (hs : Sh b.Log) : ∀ r ∈ Zah a b n, Sh r.Log ∧ r.Log.length ≤ 1000 := by
 have none : ∀ (c : Prop) [Decidable c] (r : Zb), r.Log = [] → ∀ x ∈ oneF c r, Sh x.Log ∧ x.Log.length ≤ 1000 := by
  intro c _ r hr x hx
  unfold oneF at hx
  split at hx
  ·rw [Z9S] at hx
   subst hx
   rw [hr]
   exact ⟨fun e he => by simp at he, by simp⟩
  ·simp at hx
 intro r hr
 unfold Zah at hr
 simp only [Zhw] at hr
 rcases hr with ((hr | hr) | hr) | hr | hr | hr
 ·exact none _ _ rfl r hr
 ·exact none _ _ rfl r hr
 ·obtain ⟨e, he, rfl⟩ := Z5l.1 hr
  refine ⟨fun y hy => ?_, by simp⟩
  rw [Z9S] at hy
  subst hy
  exact hs _ (Zue he)
 ·exact none _ _ rfl r hr
 ·exact none _ _ rfl r hr
 ·exact none _ _ rfl r hr
theorem ZAL (a b : Z0) (n : Nat) (hb : b.Log.length ≤ 64) : (Zah a b n).length ≤ 1000000 := by
 unfold Zah
 simp only [ZaC, q8_, List.length_drop]
 have := fun (c : Prop) [Decidable c] r => ZBE c r
 have h1 := this (a.View ≠ b.View) ⟨1, b.View, a.Normal, []⟩
 have h2 := this (n < a.Log.length) ⟨3, n, 0, []⟩
 have h3 := this (a.Normal ≠ b.Normal) ⟨1, b.View, b.Normal, []⟩
 have h4 := this (a.Commit ≠ b.Commit) ⟨4, b.Commit, 0, []⟩
 have h5 := this (a.Active ≠ b.Active) ⟨5, b.Active, 0, []⟩
 omega
theorem ZqN : ∀ (L : List Z3) (s t : Z0), Z7V (L.map fun e => ⟨2, 0, 0, [e]⟩) s = some t → t = { s with Log := s.Log ++ L }
 | [], s, t, h => by
  cases h
  simp
 | e :: L, s, t, h => by
  rw [Zht] at h
  unfold Z7V at h
  obtain ⟨u, hu, hr⟩ := Zf1.1 h
  have := ZqN L u t hr
  subst this
  unfold Z8e at hu
  rw [if_neg (by simp)] at hu
  split at hu
  ·cases hu
   simp
  ·simp at hu
noncomputable def Zi8 (a b : Z0) : Bool := decide (a.View ≤ b.View) && (decide (a.Normal ≤ b.Normal) && (decide (a.Commit ≤ b.Commit) && Z7h (Z3C a) (Z3C b)))
theorem ZwR {a b t : Z0} (ha : OkS a) (hb : OkS b) {n : Nat} (h1 : n ≤ a.Log.length) (h3 : a.Log.take n = b.Log.take n) (h : Z7V (Zah a b n) a = some t) : Zi8 a b = true := by
 unfold Zah at h
 simp only [ZhX, Option.bind_assoc] at h
 obtain ⟨s1, e1, h⟩ := Zf1.1 h
 obtain ⟨s2, e2, h⟩ := Zf1.1 h
 obtain ⟨s3, e3, h⟩ := Zf1.1 h
 rw [ZhX] at h
 obtain ⟨s4, e4, h⟩ := Zf1.1 h
 rw [ZhX] at h
 obtain ⟨s5, e5, _⟩ := Zf1.1 h
 have hv : a.View ≤ b.View ∧ s1.Normal = a.Normal ∧ s1.Commit = a.Commit := by
  unfold oneF at e1
  split at e1
  ·simp only [Z7V] at e1
   obtain ⟨u, hu, e1⟩ := Zf1.1 e1
   cases e1
   unfold Z8e at hu
   split at hu
   ·rename_i c; cases hu; exact ⟨c.2.1, rfl, rfl⟩
   ·simp at hu
  ·rename_i c
   cases e1
   have : a.View = b.View := Classical.not_not.1 c
   exact ⟨by omega, rfl, rfl⟩
 have hc : a.Commit ≤ (n : Int) ∧ s2.Normal = s1.Normal ∧ s2.Commit = s1.Commit := by
  unfold oneF at e2
  split at e2
  ·simp only [Z7V] at e2
   obtain ⟨u, hu, e2⟩ := Zf1.1 e2
   cases e2
   unfold Z8e at hu
   rw [if_neg (by simp), if_neg (by simp)] at hu
   split at hu
   ·rename_i c; cases hu; exact ⟨by have := c.2.1; have := hv.2.2; show a.Commit ≤ _; simp at *; omega, rfl, rfl⟩
   ·rw [if_neg (by simp), if_neg (by simp)] at hu
    simp at hu
  ·cases e2
   have := ha.commit.2
   exact ⟨by omega, rfl, rfl⟩
 have h33 := ZqN _ _ _ e3
 have hn : a.Normal ≤ b.Normal ∧ s4.Commit = s3.Commit := by
  have e0 : s3.Normal = a.Normal := by rw [h33]; exact hc.2.1.trans hv.2.1
  unfold oneF at e4
  split at e4
  ·simp only [Z7V] at e4
   obtain ⟨u, hu, e4⟩ := Zf1.1 e4
   cases e4
   unfold Z8e at hu
   split at hu
   ·rename_i c; cases hu; exact ⟨by have := c.2.2.1; rw [e0] at this; exact this, rfl⟩
   ·simp at hu
  ·rename_i c
   cases e4
   have : a.Normal = b.Normal := Classical.not_not.1 c
   exact ⟨by omega, rfl⟩
 have hm : a.Commit ≤ b.Commit := by
  have e0 : s4.Commit = a.Commit := by rw [hn.2, h33]; exact hc.2.2.trans hv.2.2
  unfold oneF at e5
  split at e5
  ·simp only [Z7V] at e5
   obtain ⟨u, hu, e5⟩ := Zf1.1 e5
   cases e5
   unfold Z8e at hu
   rw [if_neg (by simp), if_neg (by simp), if_neg (by simp)] at hu
   split at hu
   ·rename_i c; cases hu; have := c.2.1; rw [e0] at this; exact this
   ·rw [if_neg (by simp)] at hu; simp at hu
  ·rename_i c
   have : a.Commit = b.Commit := Classical.not_not.1 c
   omega
 have hbeg : Z7h (Z3C a) (Z3C b) = true := by
  have l1 := Z9q ha
  have l2 := Z9q hb
  rw [Zoc (by omega)]
  unfold Z3C
  have e : a.Log.take a.Commit.toNat = (b.Log.take b.Commit.toNat).take a.Commit.toNat := by
   rw [List.take_take, Nat.min_eq_left (by omega)]
   have : a.Log.take a.Commit.toNat = (a.Log.take n).take a.Commit.toNat := by rw [List.take_take, Nat.min_eq_left (by omega)]
   rw [this, h3, List.take_take, Nat.min_eq_left (by omega)]
  rw [e]
  exact List.take_prefix _ _
 unfold Zi8
 rw [decide_eq_true hv.1, decide_eq_true hn.1, decide_eq_true hm, hbeg]
 rfl
theorem ZuK (a b : Z0) : ∃ l e, Z2F a b = some (l, e) ∧ (e = 0 → Zi8 (Z1b a) (Z1b b) = true) := by
 by_cases c1 : okSt a = true
 ·by_cases c2 : okSt b = true
  ·have ha := Zme c1
   have hb := Zme c2
   obtain ⟨n, q1, q2, q3, q4⟩ := Zv1 a b ha.len hb.len ha.sh hb.sh
   have hl := Zrj (Zah a b n) (Zah a b n) (ZAL a b n hb.len) (ZBS a b n hb.sh) (Zah a b n).length 0 a (by omega) ha.commit.1
   rw [Zkr] at hl
   have hB : Z2F a b = some (match Z7V (Zah a b n) a with | some _ => (Zah a b n, 0) | none => ([], 54)) := by
    apply ZaA
    unfold Z6s Z8D
    rw [Z6y, ZY, c1, if_neg (by simp), Z6y, ZY, c2, if_neg (by simp)]
    show (Z8u a b).bind _ = _
    rw [q4, ZY, ZjJ _ ha.sh (by have := ha.len; omega), ZY]
    exact hl
   rw [hB]
   cases hf : Z7V (Zah a b n) a with
   | none => exact ⟨_, _, rfl, fun h => absurd h (by decide)⟩
   | some t =>
    refine ⟨_, _, rfl, fun _ => ?_⟩
    have e1 : Z1b a = a := if_pos c1
    have e2 : Z1b b = b := if_pos c2
    rw [e1, e2]
    exact ZwR ha hb q1 q3 hf
  ·refine ⟨[], 10, ?_, fun h => absurd h (by decide)⟩
   apply ZaA
   unfold Z6s Z4W
   rw [Z6y, ZY, c1, if_neg (by simp), Z6y, ZY, ZqI.2 c2, if_pos (by rfl)]
 ·refine ⟨[], 10, ?_, fun h => absurd h (by decide)⟩
  apply ZaA
  unfold Z6s Z4W
  rw [Z6y, ZY, ZqI.2 c1, if_pos (by rfl)]
end Go.Proofs.YtiigbcahdaoedaaGreatDoor.N2
end
