/- What more than half have in common; the stable view; the anchor. No condition. -/
import Derived.Test.YtiigbcahdaoedaaGreatDoorPlB

set_option linter.unusedSimpArgs false
set_option linter.unusedVariables false
set_option linter.defProp false
section
namespace Go.Proofs.YtiigbcahdaoedaaGreatDoor.N2
open Go Go.Abs
set_option maxRecDepth 100000
noncomputable def hasF (s : Z0) (n : Nat) (o : Z0) : Bool := decide (n ≤ o.Log.length) && eqv (o.Log.take n) (s.Log.take n)
noncomputable def majF (L : List Z0) (s : Z0) (n : Nat) : Bool := decide (L.length < 2 * L.countP (hasF s n))
def Z6Q (mj : Nat → Bool) : Nat → Nat → Nat
 | 0, best => best
 | n + 1, best => if best < n + 1 then (if mj (n + 1) = true then n + 1 else Z6Q mj n best) else best
noncomputable def comF (L : List Z0) : List Z0 → Nat → Nat
 | [], best => best
 | s :: r, best => comF L r (Z6Q (majF L s) s.Log.length best)
theorem ZvQ (L : List Z0) (hL : L.length ≤ 1000) (hok : ∀ s ∈ L, OkS s) (s : Z0) (hs : OkS s) (best n : Nat) (hn : n ≤ s.Log.length) (x12 : List Z0) (x13 x14 : Int) : ∀ (d i : Nat) (r : Option Int), i + d = L.length →
  (∀ r', Z4d L (best : Int) (n : Int) ((L.countP (hasF s n) : Nat) : Int) x12 x13 x14 s = some r' → r = some r') → ∀ r', Z4d L (best : Int) (n : Int) ((L.countP (hasF s n) : Nat) : Int) x12 x13 x14 s = some r' →
  Z5n L (best : Int) (n : Int) (((L.take i).countP (hasF s n) : Nat) : Int) x12 x13 x14 L (L.length : Int) (i : Int) s = some r' := by
 intro d
 induction d with
 | zero =>
  intro i r h _ r' hr
  apply Zd2
  unfold Z6V
  rw [if_neg (Z10 (by omega)), Zmj (by omega)]
  exact hr
 | succ d ih =>
  intro i r h hx r' hr
  have hi : i < L.length := by omega
  have ho := hok _ (Z8S hi)
  have key := ih (i + 1) r (by omega) hx r' hr
  have hc : (L.take (i + 1)).countP (hasF s n) = (L.take i).countP (hasF s n) + (if hasF s n L[i] = true then 1 else 0) := by
   rw [← ZnV hi, List.countP_append, Zxc]
  have hcl : (L.take i).countP (hasF s n) ≤ i := Zgr ZnX (by rw [ZaD]; omega)
  have same15 : ∀ c : Nat, c ≤ 1000 → Z5n L (best : Int) (n : Int) (c : Int) x12 x13 x14 L (L.length : Int) ((i + 1 : Nat) : Int) s = some r' → Z4c L (best : Int) (n : Int) (c : Int) x12 x13 x14 L (L.length : Int) (i : Int) s = some r' := by
   intro c _ hk
   unfold Z4c
   rw [wrap_i64 (by omega) (by omega)]
   exact hk
  apply Zd2
  unfold Z6V Z8X
  rw [if_pos (Z12 (by omega)), Z1o, q2_ hi, ZY]
  by_cases c1 : n ≤ L[i].Log.length
  ·rw [if_pos (Z12 (by omega)), Z9v _ _ (by omega) (by omega), ZY, Z9v _ _ (by omega) (by omega), ZY, Zhv, Zmf _ _ (fun e he => ho.sh e (Zml he)) (by rw [ZaD]; have := ho.len; omega), ZY]
   by_cases c2 : L[i].Log.take n = s.Log.take n
   ·have hh : hasF s n L[i] = true := by unfold hasF; rw [decide_eq_true c1, Z2k c2]; rfl
    rw [Z2k c2, if_pos rfl]
    unfold Z8Y
    rw [wrap_i64 (by omega) (by omega), show (((L.take i).countP (hasF s n) : Nat) : Int) + 1 = (((L.take i).countP (hasF s n) + 1 : Nat) : Int) by omega]
    rw [hc, if_pos hh] at key
    exact same15 _ (by omega) key
   ·have hh : hasF s n L[i] = false := by unfold hasF; rw [Z1O c2, Bool.and_false]
    rw [Z1O c2, if_neg (by simp)]
    rw [hc, if_neg (by simp [hh])] at key
    exact same15 _ (by omega) key
  ·have hh : hasF s n L[i] = false := by unfold hasF; rw [decide_eq_false c1, ZnZ]
   rw [if_neg (Z10 (by omega))]
   rw [hc, if_neg (by simp [hh])] at key
   exact same15 _ (by omega) key
theorem ZxC (L : List Z0) (hL : L.length ≤ 1000) (hok : ∀ s ∈ L, OkS s) (s : Z0) (hs : OkS s) (x14 : Int) : ∀ (n best : Nat), n ≤ s.Log.length → best ≤ 64 → ∀ r, Z6W L (Z6Q (majF L s) n best : Nat) L (L.length : Int) x14 = some r →
  Z7z L (best : Int) (n : Int) L (L.length : Int) x14 s = some r := by
 intro n
 induction n with
 | zero =>
  intro best _ _ r hr
  apply ZdL
  unfold Z7q
  rw [if_neg (Z10 (by omega))]
  exact hr
 | succ n ih =>
  intro best hn hb r hr
  have hlen := hs.len
  unfold Z6Q at hr
  apply ZdL
  unfold Z7q
  by_cases c1 : best < n + 1
  ·rw [if_pos c1] at hr
   rw [if_pos (Z12 (by omega))]
   unfold Z9C
   have hcl : L.countP (hasF s (n + 1)) ≤ L.length := ZnX
   have key := ZvQ L hL hok s hs best (n + 1) hn L (L.length : Int) x14 L.length 0 (some r) (by omega)
   rw [List.take_zero] at key
   refine key ?_ r ?_
   ·intro r' hr'
    rw [← hr']
    unfold Z4d Z5Y
    rw [wrap_i64 (n := 2 * ((L.countP (hasF s (n + 1)) : Nat) : Int)) (by omega) (by omega), wrap_i64 (by omega) (by omega), show ((n + 1 : Nat) : Int) - 1 = (n : Int) by omega]
    by_cases c2 : L.length < 2 * L.countP (hasF s (n + 1))
    ·rw [if_pos (show majF L s (n + 1) = true from decide_eq_true c2)] at hr
     rw [if_pos (Z12 (by omega))]
     have : Z6Q (majF L s) n (n + 1) = n + 1 := by
      cases n with
      | zero => rfl
      | succ n => unfold Z6Q; rw [if_neg (by omega)]
     exact (ih (n + 1) (by omega) (by omega) r (by rw [this]; exact hr)).symm
    ·rw [if_neg (by show ¬ majF L s (n + 1) = true; unfold majF; simpa using c2)] at hr
     rw [if_neg (Z10 (by omega))]
     exact (ih best (by omega) hb r hr).symm
   ·unfold Z4d Z5Y
    rw [wrap_i64 (n := 2 * ((L.countP (hasF s (n + 1)) : Nat) : Int)) (by omega) (by omega), wrap_i64 (by omega) (by omega), show ((n + 1 : Nat) : Int) - 1 = (n : Int) by omega]
    by_cases c2 : L.length < 2 * L.countP (hasF s (n + 1))
    ·rw [if_pos (show majF L s (n + 1) = true from decide_eq_true c2)] at hr
     rw [if_pos (Z12 (by omega))]
     have : Z6Q (majF L s) n (n + 1) = n + 1 := by
      cases n with
      | zero => rfl
      | succ n => unfold Z6Q; rw [if_neg (by omega)]
     exact ih (n + 1) (by omega) (by omega) r (by rw [this]; exact hr)
    ·rw [if_neg (by show ¬ majF L s (n + 1) = true; unfold majF; simpa using c2)] at hr
     rw [if_neg (Z10 (by omega))]
     exact ih best (by omega) hb r hr
  ·rw [if_neg c1] at hr
   rw [if_neg (Z10 (by omega))]
   exact hr
theorem ZjK (mj : Nat → Bool) : ∀ (n best : Nat), best ≤ Z6Q mj n best ∧ (Z6Q mj n best = best ∨ (Z6Q mj n best ≤ n ∧ 1 ≤ Z6Q mj n best ∧ mj (Z6Q mj n best) = true)) ∧ ∀ m, Z6Q mj n best < m → m ≤ n → mj m = false
 | 0, best => ⟨Z2w _, .inl rfl, fun m h1 h2 => by have : Z6Q mj 0 best = best := rfl; omega⟩
 | n + 1, best => by
  unfold Z6Q
  by_cases c1 : best < n + 1
  ·rw [if_pos c1]
   by_cases c2 : mj (n + 1) = true
   ·rw [if_pos c2]
    exact ⟨by omega, .inr ⟨by omega, by omega, c2⟩, fun m h1 h2 => by omega⟩
   ·rw [if_neg c2]
    obtain ⟨h1, h2, h3⟩ := ZjK mj n best
    refine ⟨h1, ?_, fun m hm hm2 => ?_⟩
    ·rcases h2 with h2 | ⟨a, b, c⟩
     ·exact .inl h2
     ·exact .inr ⟨by omega, b, c⟩
    ·by_cases e : m = n + 1
     ·rw [e]; simpa using c2
     ·exact h3 m hm (by omega)
  ·rw [if_neg c1]
   exact ⟨Z2w _, .inl rfl, fun m h1 h2 => by omega⟩
def PF (L : List Z0) (n : Nat) : Prop := ∃ s ∈ L, n ≤ s.Log.length ∧ majF L s n = true
theorem ZqP (L : List Z0) : ∀ (R : List Z0) (best : Nat), (∀ s ∈ R, s ∈ L) → (∀ s ∈ R, OkS s) → best ≤ 64 → (best = 0 ∨ PF L best) →
  comF L R best ≤ 64 ∧ best ≤ comF L R best ∧ (comF L R best = 0 ∨ PF L (comF L R best)) ∧ ∀ n, comF L R best < n → ∀ s ∈ R, n ≤ s.Log.length → majF L s n = false
 | [], best, _, _, h1, h2 => ⟨h1, Z2w _, h2, by simp⟩
 | s :: R, best, hm, hok, h1, h2 => by
  obtain ⟨d1, d2, d3⟩ := ZjK (majF L s) s.Log.length best
  have hl := (hok s (by simp)).len
  have hb : Z6Q (majF L s) s.Log.length best ≤ 64 := by rcases d2 with d2 | d2 <;> omega
  have hp : Z6Q (majF L s) s.Log.length best = 0 ∨ PF L (Z6Q (majF L s) s.Log.length best) := by
   rcases d2 with d2 | ⟨a, b, c⟩
   ·rw [d2]; exact h2
   ·exact .inr ⟨s, hm s (by simp), a, c⟩
  obtain ⟨e1, e2, e3, e4⟩ := ZqP L R _ (fun x hx => hm x (by simp [hx])) (fun x hx => hok x (by simp [hx])) hb hp
  refine ⟨e1, Zgr d1 e2, e3, fun n hn x hx hxl => ?_⟩
  have hn : comF L R (Z6Q (majF L s) s.Log.length best) < n := hn
  rcases Z8T.1 hx with rfl | hx
  ·exact d3 n (by omega) hxl
  ·exact e4 n hn x hx hxl
theorem Zrm (L : List Z0) (hL : L.length ≤ 1000) (hok : ∀ s ∈ L, OkS s) : ∀ (d i best : Nat), i + d = L.length → best ≤ 64 → Z7y L (best : Int) L (L.length : Int) (i : Int) = some ((comF L (L.drop i) best : Nat) : Int) := by
 intro d
 induction d with
 | zero =>
  intro i best h _
  apply ZdJ
  unfold Z7p Z8Z
  rw [if_neg (Z10 (by omega)), q5_ (by omega)]
  rfl
 | succ d ih =>
  intro i best h hb
  have hi : i < L.length := by omega
  have ho := hok _ (Z8S hi)
  have hl := ho.len
  have hd : Z6Q (majF L L[i]) L[i].Log.length best ≤ 64 := by rcases (ZjK (majF L L[i]) L[i].Log.length best).2.1 with d2 | d2 <;> omega
  apply ZdJ
  unfold Z7p Z9B
  rw [if_pos (Z12 (by omega)), Z1o, q2_ hi, ZY, Z6w hi]
  refine ZxC L hL hok L[i] ho (i : Int) L[i].Log.length best (Z2w _) hb _ ?_
  unfold Z6W
  rw [wrap_i64 (by omega) (by omega)]
  exact ih (i + 1) _ (by omega) hd
theorem ZjI (l : List Z0) (hl : l.length ≤ 1000) : Z2b l = some ((comF (Z2r l) (Z2r l) 0 : Nat) : Int) := by
 apply Zn0
 unfold Zbh
 rw [ZfV l (by omega), ZY]
 have := Zrm (Z2r l) (by rw [Zby]; exact hl) Zba (Z2r l).length 0 0 (by omega) (by omega)
 rw [Zkr] at this
 exact this
def Great (L : List Z0) (n : Nat) : Prop := n ≤ 64 ∧ (n = 0 ∨ PF L n) ∧ ∀ m, n < m → ¬ PF L m
theorem Great.uniq {L : List Z0} {a b : Nat} (ha : Great L a) (hb : Great L b) : a = b := by
 rcases Nat.lt_trichotomy a b with h | h | h
 ·rcases hb.2.1 with k | k
  ·omega
  ·exact absurd k (ha.2.2 b h)
 ·exact h
 ·rcases ha.2.1 with k | k
  ·omega
  ·exact absurd k (hb.2.2 a h)
theorem Zog {L : List Z0} (hok : ∀ s ∈ L, OkS s) : Great L (comF L L 0) := by
 obtain ⟨h1, _, h3, h4⟩ := ZqP L L 0 (fun _ h => h) hok (by omega) (.inl rfl)
 refine ⟨h1, h3, ?_⟩
 rintro m hm ⟨s, hs, hl, hj⟩
 rw [h4 m hm s hs hl] at hj
 simp at hj
noncomputable def hitF (L R : List Z0) (n : Nat) : Bool := R.any fun s => decide (n ≤ s.Log.length) && majF L s n
theorem Zvn {L : List Z0} {n : Nat} : hitF L L n = true ↔ PF L n := by
 unfold hitF PF
 simp only [List.any_eq_true, q9_, decide_eq_true_eq]
theorem ZBd {α : Type} (a b : α) : eqv a b = eqv b a := Zoh ⟨Eq.symm, Eq.symm⟩
theorem Zm1 {L : List Z0} {i : Nat} (hi : i < L.length) : lget (L.map stF) (i : Int) = some (stF L[i]) := by
 rw [Z1o, q7_, q2_ hi]; rfl
theorem Zr6 (L : List Z0) (hL : L.length ≤ 1000) (hok : ∀ s ∈ L, OkS s) (best n k : Nat) (hn : n ≤ 64) (hk : k < L.length) (hnk : n ≤ L[k].Log.length) : ∀ (d i : Nat), i + d = L.length →
  ∀ r', Z4f (L.map stF) (best : Int) (n : Int) (k : Int) ((L.countP (hasF L[k] n) : Nat) : Int) = some r' →
  Z4i (L.map stF) (best : Int) (n : Int) (k : Int) (((L.take i).countP (hasF L[k] n) : Nat) : Int) (i : Int) = some r' := by
 have hs := hok _ (Z8S hk)
 intro d
 induction d with
 | zero =>
  intro i h r' hr
  apply Z7k
  unfold Z4e
  rw [q8_, if_neg (Z10 (by omega)), Zmj (by omega)]
  exact hr
 | succ d ih =>
  intro i h r' hr
  have hi : i < L.length := by omega
  have ho := hok _ (Z8S hi)
  have key := ih (i + 1) (by omega) r' hr
  have hc : (L.take (i + 1)).countP (hasF L[k] n) = (L.take i).countP (hasF L[k] n) + (if hasF L[k] n L[i] = true then 1 else 0) := by
   rw [← ZnV hi, List.countP_append, Zxc]
  have hcl : (L.take i).countP (hasF L[k] n) ≤ i := Zgr ZnX (by rw [ZaD]; omega)
  have nxt : ∀ c : Nat, Z4i (L.map stF) (best : Int) (n : Int) (k : Int) (c : Int) ((i + 1 : Nat) : Int) = some r' → Z2V (L.map stF) (best : Int) (n : Int) (k : Int) (c : Int) (i : Int) = some r' := by
   intro c hc
   unfold Z2V
   rw [wrap_i64 (by omega) (by omega)]
   exact hc
  have lk : (stF L[k]).Log.length = L[k].Log.length := q8_ _
  have li : (stF L[i]).Log.length = L[i].Log.length := q8_ _
  apply Z7k
  unfold Z4e Z6Y
  rw [q8_, if_pos (Z12 (by omega)), Zm1 hk, ZY, lk, if_pos (Z12 (by omega)), Zm1 hi, ZY, li]
  by_cases c1 : n ≤ L[i].Log.length
  ·have t1 : lsl (stF L[k]).Log 0 (n : Int) = some ((L[k].Log.take n).map entF) := by
    rw [Z9v _ _ (by omega) (by omega), Zhv, List.map_take]; rfl
   have t2 : lsl (stF L[i]).Log 0 (n : Int) = some ((L[i].Log.take n).map entF) := by
    rw [Z9v _ _ (by omega) (by omega), Zhv, List.map_take]; rfl
   rw [if_pos (Z12 (by omega)), ZY, t1, ZY, ZY, t2, ZY, Zno _ _ (fun e he => hs.sh e (Zml he)) (by rw [ZaD]; omega), ZY, ZBd]
   by_cases c2 : L[i].Log.take n = L[k].Log.take n
   ·have hh : hasF L[k] n L[i] = true := by unfold hasF; rw [decide_eq_true c1, Z2k c2]; rfl
    rw [Z2k c2, if_pos rfl]
    unfold Z97
    rw [wrap_i64 (by omega) (by omega), show (((L.take i).countP (hasF L[k] n) : Nat) : Int) + 1 = (((L.take i).countP (hasF L[k] n) + 1 : Nat) : Int) by omega]
    rw [hc, if_pos hh] at key
    exact nxt _ key
   ·have hh : hasF L[k] n L[i] = false := by unfold hasF; rw [Z1O c2, Bool.and_false]
    rw [Z1O c2, if_neg (by simp)]
    rw [hc, if_neg (by simp [hh])] at key
    exact nxt _ key
  ·have hh : hasF L[k] n L[i] = false := by unfold hasF; rw [decide_eq_false c1, ZnZ]
   rw [if_neg (Z10 (by omega))]
   rw [hc, if_neg (by simp [hh])] at key
   exact nxt _ key
theorem Zun (L : List Z0) (hL : L.length ≤ 1000) (best n k : Nat) (hk : k < L.length) (hnk : ¬ n ≤ L[k].Log.length) : ∀ (d i : Nat), i + d = L.length →
  ∀ r', Z4f (L.map stF) (best : Int) (n : Int) (k : Int) 0 = some r' → Z4i (L.map stF) (best : Int) (n : Int) (k : Int) 0 (i : Int) = some r' := by
 intro d
 induction d with
 | zero =>
  intro i h r' hr
  apply Z7k
  unfold Z4e
  rw [q8_, if_neg (Z10 (by omega))]
  exact hr
 | succ d ih =>
  intro i h r' hr
  have lk : (stF L[k]).Log.length = L[k].Log.length := q8_ _
  apply Z7k
  unfold Z4e Z6Y Z2V
  rw [q8_, if_pos (Z12 (by omega)), Zm1 hk, ZY, lk, if_neg (Z10 (by omega)), wrap_i64 (by omega) (by omega)]
  exact ih (i + 1) (by omega) r' hr
theorem ZAM (L : List Z0) (hL : L.length ≤ 1000) (hok : ∀ s ∈ L, OkS s) (n : Nat) (hn : n ≤ 64) : ∀ (d k best : Nat), k + d = L.length → ∀ r, Z7t (L.map stF) ((if hitF L (L.drop k) n = true then n else best : Nat) : Int) (n : Int) = some r →
  Z62 (L.map stF) (best : Int) (n : Int) (k : Int) = some r := by
 intro d
 induction d with
 | zero =>
  intro k best h r hr
  apply ZdS
  unfold Z7s
  rw [q8_, if_neg (Z10 (by omega))]
  rw [q5_ (by omega), if_neg (by simp [hitF])] at hr
  exact hr
 | succ d ih =>
  intro k best h r hr
  have hk : k < L.length := by omega
  have hcl : L.countP (hasF L[k] n) ≤ L.length := ZnX
  have hh : hitF L (L.drop k) n = ((decide (n ≤ L[k].Log.length) && majF L L[k] n) || hitF L (L.drop (k + 1)) n) := by
   unfold hitF
   rw [Z6w hk, Zo0]
  have nxt : ∀ b : Nat, Z62 (L.map stF) (b : Int) (n : Int) ((k + 1 : Nat) : Int) = some r → Z5Z (L.map stF) (b : Int) (n : Int) (k : Int) = some r := by
   intro b hb
   unfold Z5Z
   rw [wrap_i64 (by omega) (by omega)]
   exact hb
  apply ZdS
  unfold Z7s Z9F
  rw [q8_, if_pos (Z12 (by omega))]
  by_cases c1 : n ≤ L[k].Log.length
  ·have key := Zr6 L hL hok best n k hn hk c1 L.length 0 (by omega) r
   rw [List.take_zero] at key
   refine key ?_
   unfold Z4f
   rw [q8_, wrap_i64 (by omega) (by omega)]
   by_cases c2 : L.length < 2 * L.countP (hasF L[k] n)
   ·have hm : majF L L[k] n = true := decide_eq_true c2
    rw [if_pos (Z12 (by omega))]
    refine nxt n (ih (k + 1) n (by omega) r ?_)
    rw [hh, decide_eq_true c1, hm, if_pos (by rfl)] at hr
    rw [ite_self]
    exact hr
   ·have hm : majF L L[k] n = false := decide_eq_false c2
    rw [if_neg (Z10 (by omega))]
    refine nxt best (ih (k + 1) best (by omega) r ?_)
    rw [hh, hm, Bool.and_false, ZqK] at hr
    exact hr
  ·refine Zun L hL best n k hk c1 L.length 0 (by omega) r ?_
   unfold Z4f
   rw [q8_, wrap_i64 (by omega) (by omega), if_neg (Z10 (by omega))]
   refine nxt best (ih (k + 1) best (by omega) r ?_)
   rw [hh, decide_eq_false c1, ZnZ, ZqK] at hr
   exact hr
noncomputable def refF (L : List Z0) : Nat → Nat → Nat → Nat
 | 0, _, best => best
 | d + 1, n, best => refF L d (n + 1) (if hitF L L n = true then n else best)
theorem ZAN (L : List Z0) (hL : L.length ≤ 1000) (hok : ∀ s ∈ L, OkS s) : ∀ (d n best : Nat), n + d = 65 → Z7B (L.map stF) (best : Int) (n : Int) = some ((refF L d n best : Nat) : Int) := by
 intro d
 induction d with
 | zero =>
  intro n best h
  apply ZdQ
  unfold Z7r Z98
  rw [if_neg (Z10 (by omega))]
  rfl
 | succ d ih =>
  intro n best h
  apply ZdQ
  unfold Z7r Z9E
  rw [if_pos (Z12 (by omega))]
  refine ZAM L hL hok n (by omega) L.length 0 best (by omega) _ ?_
  unfold Z7t
  rw [wrap_i64 (by omega) (by omega), Zkr]
  exact ih (n + 1) _ (by omega)
theorem Zmp (L : List Z0) : ∀ (d n best : Nat), n + d = 65 → best < n → (best = 0 ∨ PF L best) → (∀ m, best < m → m < n → ¬ PF L m) → (∀ m, 64 < m → ¬ PF L m) → Great L (refF L d n best)
 | 0, n, best, h, h1, h2, h3, h4 => ⟨by show best ≤ 64; omega, h2, fun m hm => by
   have hm : best < m := hm
   by_cases c : m < n
   ·exact h3 m hm c
   ·exact h4 m (by omega)⟩
 | d + 1, n, best, h, h1, h2, h3, h4 => by
  unfold refF
  by_cases c : hitF L L n = true
  ·rw [if_pos c]
   exact Zmp L d (n + 1) n (by omega) (by omega) (.inr (Zvn.1 c)) (fun m a b => by omega) h4
  ·rw [if_neg c]
   refine Zmp L d (n + 1) best (by omega) (by omega) h2 (fun m a b => ?_) h4
   by_cases e : m = n
   ·rw [e]; exact fun k => c (Zvn.2 k)
   ·exact h3 m a (by omega)
theorem Zr5 (L : List Z0) (hL : L.length ≤ 1000) (hok : ∀ s ∈ L, OkS s) : Z3f (L.map stF) = some ((refF L 64 1 0 : Nat) : Int) := by
 apply Zn6
 unfold Zbk
 exact ZAN L hL hok 64 1 0 (by omega)
theorem ZuO (l : List Z0) (h1 : l.length ≤ 9) (h2 : ∀ s ∈ l, SmL s.Log) : ∃ r m, Z2b l = some r ∧ Z1B l = some m ∧ Z3f m = some r := by
 refine ⟨_, _, ZjI l (by omega), Zkz l (by omega) (fun s hs => ⟨(h2 s hs).sh, by have := (h2 s hs).1; omega⟩), ?_⟩
 rw [Zr5 (Z2r l) (by rw [Zby]; omega) Zba]
 have hg : Great (Z2r l) (refF (Z2r l) 64 1 0) := Zmp (Z2r l) 64 1 0 (by omega) (by omega) (.inl rfl) (fun m a b => by omega) (by
  rintro m hm ⟨s, hs, hl, _⟩
  have := (Zba s hs).len
  omega)
 rw [hg.uniq (Zog Zba)]
def inF (L : List Z0) (up : List Bool) (v : Int) (i : Nat) : Bool := (up[i]?).getD false && (match L[i]? with | some s => decide (s.View = v ∧ s.Normal = v) | none => false)
def numF (L : List Z0) (up : List Bool) (v : Int) : Nat := (List.range L.length).countP (inF L up v)
def Zkx (L : List Z0) (up : List Bool) (v : Int) : Bool := decide (L.length < 2 * numF L up v) && inF L up v (v.tmod L.length).toNat
theorem ZAj (L : List Z0) (up : List Bool) (v : Int) (i : Nat) (hi : i < L.length) : ZdZ (L.map stF) up (i : Int) v = some (inF L up v i) := by
 apply Zr4
 unfold Zgy inF
 rw [q2_ hi]
 by_cases c1 : i < up.length
 ·rw [if_pos (Z12 (by omega)), Z1o, q2_ c1, ZY, Zuh]
  cases hu : up[i] with
  | false => rfl
  | true =>
   rw [if_pos rfl, Zm1 hi, ZY]
   show (if (L[i].View == v) = true then some (L[i].Normal == v) else some false) = some (true && decide (L[i].View = v ∧ L[i].Normal = v))
   by_cases c2 : L[i].View = v
   ·rw [if_pos (Z61 c2)]
    by_cases c3 : L[i].Normal = v
    ·rw [Z61 c3]; simp [c2, c3]
    ·rw [ZqI.2 (Z60 c3)]; simp [c2, c3]
   ·rw [if_neg (Z60 c2)]; simp [c2]
 ·rw [if_neg (Z10 (by omega)), Zf2 (by omega)]
  rfl
def Zcx (L : List Z0) (up : List Bool) : List Z0 → Int → Bool → Int × Bool
 | [], v, ok => (v, ok)
 | s :: R, v, ok => if Zkx L up s.View = true ∧ (ok = false ∨ v < s.View) then Zcx L up R s.View true else Zcx L up R v ok
theorem ZuA (L : List Z0) (hL : L.length ≤ 1000) (up : List Bool) (best : Int) (ok : Bool) (k : Nat) (v : Int) : ∀ (d i : Nat), i + d = L.length → ∀ r, Z70 (L.map stF) up best ok (k : Int) v ((numF L up v : Nat) : Int) = some r →
  Z7D (L.map stF) up best ok (k : Int) v (((List.range i).countP (inF L up v) : Nat) : Int) (i : Int) = some r := by
 intro d
 induction d with
 | zero =>
  intro i h r hr
  apply ZdX
  unfold Z7v
  rw [q8_, if_neg (Z10 (by omega))]
  unfold numF at hr
  rw [show i = L.length by omega]
  exact hr
 | succ d ih =>
  intro i h r hr
  have hi : i < L.length := by omega
  have key := ih (i + 1) (by omega) r hr
  have hc : (List.range (i + 1)).countP (inF L up v) = (List.range i).countP (inF L up v) + (if inF L up v i = true then 1 else 0) := by
   rw [List.range_succ, List.countP_append, Zxc]
  have hcl : (List.range i).countP (inF L up v) ≤ i := Zgr ZnX (by simp)
  rw [hc] at key
  apply ZdX
  unfold Z7v Z99 Z6Z
  rw [q8_, if_pos (Z12 (by omega)), ZAj _ _ _ _ hi, ZY, wrap_i64 (n := (i : Int) + 1) (by omega) (by omega)]
  cases hq : inF L up v i with
  | true =>
   rw [if_pos rfl, wrap_i64 (by omega) (by omega)]
   rw [hq, if_pos rfl] at key
   exact key
  | false =>
   rw [if_neg (by simp)]
   rw [hq, if_neg (by simp)] at key
   exact key
theorem ZuB (L : List Z0) (hL : L.length ≤ 1000) (hok : ∀ s ∈ L, OkS s) (up : List Bool) : ∀ (d k : Nat) (best : Int) (ok : Bool), k + d = L.length → Z7C (L.map stF) up best ok (k : Int) = some (Zcx L up (L.drop k) best ok) := by
 intro d
 induction d with
 | zero =>
  intro k best ok h
  apply ZdV
  unfold Z7u Z9a
  rw [q8_, if_neg (Z10 (by omega)), q5_ (by omega)]
  rfl
 | succ d ih =>
  intro k best ok h
  have hk : k < L.length := by omega
  have hs := hok _ (Z8S hk)
  have hv := hs.view
  have hnum : numF L up L[k].View ≤ L.length := by
   unfold numF
   exact Zgr ZnX (by simp)
  have nxt : ∀ (b : Int) (o : Bool), Z3J (L.map stF) up b o (k : Int) = some (Zcx L up (L.drop (k + 1)) b o) := by
   intro b o
   unfold Z3J
   rw [wrap_i64 (by omega) (by omega)]
   exact ih (k + 1) b o (by omega)
  apply ZdV
  unfold Z7u Z9G
  rw [q8_, if_pos (Z12 (by omega)), Zm1 hk, ZY, Z6w hk]
  refine ZuA L hL up best ok k L[k].View L.length 0 (by omega) _ ?_
  unfold Z70 Zcx
  rw [q8_, wrap_i64 (by omega) (by omega)]
  have hm0 := Int.tmod_nonneg (a := L[k].View) (L.length : Int) hv.1
  have hm1 := Int.tmod_lt_of_pos L[k].View (b := (L.length : Int)) (by omega)
  by_cases c1 : L.length < 2 * numF L up L[k].View
  ·have hst : Zkx L up L[k].View = inF L up L[k].View (L[k].View.tmod L.length).toNat := by unfold Zkx; rw [decide_eq_true c1, Z85]
   rw [if_pos (Z12 (by omega))]
   unfold irem
   rw [if_neg (by omega), ZY, show L[k].View.tmod (L.length : Int) = (((L[k].View.tmod (L.length : Int)).toNat : Nat) : Int) by omega, ZAj _ _ _ _ (by omega), ZY, hst]
   cases hq : inF L up L[k].View (L[k].View.tmod L.length).toNat with
   | false =>
    rw [if_neg (by simp), if_neg (by simp)]
    exact nxt best ok
   | true =>
    rw [if_pos rfl]
    unfold Z71
    cases ok with
    | false =>
     rw [if_pos (by rfl), if_pos (by simp)]
     exact nxt _ _
    | true =>
     rw [if_neg (by simp)]
     by_cases c2 : best < L[k].View
     ·rw [if_pos (Z12 c2), if_pos (by simp [c2])]
      exact nxt _ _
     ·rw [if_neg (Z10 c2), if_neg (by simp; omega)]
      exact nxt _ _
  ·have hst : Zkx L up L[k].View = false := by unfold Zkx; rw [decide_eq_false c1, ZnZ]
   rw [if_neg (Z10 (by omega)), if_neg (by simp [hst])]
   exact nxt best ok
theorem Zr8 (L : List Z0) (hL : L.length ≤ 1000) (hok : ∀ s ∈ L, OkS s) (up : List Bool) : Z3g (L.map stF) up = some (Zcx L up L 0 false) := by
 apply Zn8
 unfold Zbl
 exact ZuB L hL hok up L.length 0 0 false (by omega)
theorem Znd (a : List Z3) : Z7h a a = true := Z2k rfl
theorem Zni {ap : Nat → Nat → Bool} (h : ∀ i k, ap i k = false) (k : Nat) : ∀ d i, Zju ap k d i = none
 | 0, _ => rfl
 | d + 1, i => by unfold Zju; rw [h i k, if_neg (by simp)]; exact Zni h k d (i + 1)
theorem Znn {ap : Nat → Nat → Bool} (h : ∀ i k, ap i k = false) : ∀ d k, Zhs ap d k = (0, 0, true)
 | 0, _ => rfl
 | d + 1, k => by unfold Zhs; rw [Zni h k k 0]; exact Znn h d (k + 1)
theorem ZpM (n : Nat) (s : Z0) : Z2r (List.replicate n s) = List.replicate n (Z1b s) := List.map_replicate
theorem ZvI (n : Nat) (hn : n ≤ 7) (s : Z0) : Z2S (List.replicate n s) = some (0, 0, true) := by
 rw [ZqO _ (by rw [Zxd]; omega), ZpM]
 rw [Znn]
 intro i k
 unfold apF
 rw [List.getElem?_replicate, List.getElem?_replicate]
 by_cases c1 : i < n
 ·by_cases c2 : k < n
  ·rw [if_pos c1, if_pos c2]
   show (!Z7h (Z3C (Z1b s)) (Z3C (Z1b s))) = false
   rw [Znd]
   rfl
  ·rw [if_pos c1, if_neg c2]
 ·rw [if_neg c1]
theorem ZuP (n : Nat) (h0 : 1 ≤ n) (hn : n ≤ 7) (s : Z0) : Z2b (List.replicate n s) = some (((Z1b s).Log.length : Nat) : Int) := by
 have hl := (Zaw s).len
 have hmaj : ∀ m, m ≤ (Z1b s).Log.length → majF (List.replicate n (Z1b s)) (Z1b s) m = true := by
  intro m hm
  unfold majF
  have : hasF (Z1b s) m (Z1b s) = true := by unfold hasF; rw [decide_eq_true hm, Z2k rfl]; rfl
  rw [List.countP_replicate, if_pos this, Zxd]
  exact decide_eq_true (by omega)
 have hg : Great (List.replicate n (Z1b s)) (Z1b s).Log.length := by
  refine ⟨hl, ?_, ?_⟩
  ·exact .inr ⟨Z1b s, List.mem_replicate.2 ⟨by omega, rfl⟩, Z2w _, hmaj _ (Z2w _)⟩
  ·rintro m hm ⟨x, hx, hxl, _⟩
   rw [(List.mem_replicate.1 hx).2] at hxl
   omega
 rw [ZjI _ (by rw [Zxd]; omega), ZpM]
 have hok : ∀ x ∈ List.replicate n (Z1b s), OkS x := by
  intro x hx
  rw [(List.mem_replicate.1 hx).2]
  exact Zaw s
 rw [(Zog hok).uniq hg]
theorem ZqV (s : Z0) : Z1P s s = some true := by
 rw [Zkg, Znd]
 simp
theorem ZxA (l : List Z9) (h : l.length ≤ 1048576) : ZaB l = some l := by
 apply ZR (fun _ _ ha hb => RRun.uniq ZiR (ha .sh) (hb .sh))
 intro o
 have e : EE 56 [(.p (.lst o (l.map Z8)))] [] = some ((.p (.lst .sh (l.map Z8))), []) := by
  rw [show EE 56 = E PP XX HH 56 from rfl, ZvE (P := PP) (X := XX) (H := HH) (f := 56) (m := Zmy) (by kernel_rfl)]
  have : Zmy [(.p (.lst o (l.map Z8)))] [] = if (l.map Z8).length ≤ 1048576 ∧ ((l.map Z8).all fun e => (Z1j e).length == 5 && (Z1j e).all Zkf) = true then some (.p (.lst .sh (l.map Z8)), []) else none := rfl
  rw [this, if_pos]
  refine ⟨by simpa using h, ?_⟩
  rw [Z5a]
  intro x hx
  obtain ⟨r, _, rfl⟩ := Z5l.1 hx
  rfl
 exact ⟨_, e, [], rfl⟩
abbrev first : ZJ := ⟨0, 255, 10000, 500, []⟩
theorem ZCR : Zcy = some ([], [first], 0) := by
 apply Znx
 unfold Zcr
 rw [show Ze0 = some first from Zpo rfl, ZY]
theorem ZAP : Z56 zSt = some [first] := by
 have hset : Z5B 0 [first] = some (first, true) := by
  apply ZeT
  unfold Z5x Z4t
  rw [if_neg (Z10 (by decide)), if_neg (Z10 (by simp))]
  rw [show lget [first] 0 = some first from rfl, ZY, ZxA _ (by simp), ZY]
 have hver : Z4a [first] = some 0 := by
  apply ZcM
  unfold Z46
  rw [wrap_i64 (by simp) (by simp)]
  rfl
 have h9b : Z7i [first] 1 1 [first] = some [first] := by
  apply Zfy
  unfold Z90 Za7
  rw [if_neg (Z10 (by decide))]
 have h9 : Z7i [] 1 0 [first] = some [first] := by
  apply Zfy
  unfold Z90 Za6
  rw [if_pos (Z12 (by decide)), hset, ZY, Z5k _ _ (by simp), ZY, wrap_i64 (by omega) (by omega)]
  exact h9b
 have h3 : Z9f [] 0 0 [] [first] 0 = some [first] := by
  apply ZlV
  unfold ZaG ZaH
  rw [if_neg (Z10 (by decide)), hver, ZY, wrap_i64 (by omega) (by omega)]
  exact h9
 apply Zpj
 unfold Zdq
 rw [ZCR, ZY, ZfV _ (by simp), ZY, show Z2r [zSt] = [zSt] from rfl, show lget [zSt] 0 = some zSt from rfl, ZY, Zh3 (Zme (by decide)), ZY]
 exact h3
theorem Zxu : Z2S [] = some (0, 0, true) := by
 rw [ZqO [] (by simp)]
 rfl
theorem ZvP : Z2b [] = some 0 := by
 rw [ZjI [] (by simp)]
 rfl
end Go.Proofs.YtiigbcahdaoedaaGreatDoor.N2
end
