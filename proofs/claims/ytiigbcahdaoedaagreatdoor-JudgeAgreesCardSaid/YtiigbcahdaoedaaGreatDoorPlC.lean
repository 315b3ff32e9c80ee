/- What more than half have in common; the stable view; the anchor. No condition. -/
import Derived.Test.YtiigbcahdaoedaaGreatDoorPlB

set_option linter.unusedSimpArgs false
set_option linter.unusedVariables false
set_option linter.defProp false
section
namespace Go.Proofs.YtiigbcahdaoedaaGreatDoor.N2
open Go Go.Abs
set_option maxRecDepth 100000
noncomputable def hasF (s : Z0) (n : Nat) (o : Z0) : Bool := decide (n ≤ o.Log.length) && eqv (o.Log.take n) (s.Log.take n)
noncomputable def majF (L : List Z0) (s : Z0) (n : Nat) : Bool := decide (L.length < 2 * L.countP (hasF s n))
def Z6D (mj : Nat → Bool) : Nat → Nat → Nat
 | 0, best => best
 | n + 1, best => if best < n + 1 then (if mj (n + 1) = true then n + 1 else Z6D mj n best) else best
noncomputable def comF (L : List Z0) : List Z0 → Nat → Nat
 | [], best => best
 | s :: r, best => comF L r (Z6D (majF L s) s.Log.length best)
theorem Zpj (L : List Z0) (hL : L.length ≤ 1000) (hok : ∀ s ∈ L, OkS s) (s : Z0) (hs : OkS s) (best n : Nat) (hn : n ≤ s.Log.length) (x12 : List Z0) (x13 x14 : Int) : ∀ (d i : Nat) (r : Option Int), i + d = L.length →
  (∀ r', Z3f L (best : Int) (n : Int) ((L.countP (hasF s n) : Nat) : Int) x12 x13 x14 s = some r' → r = some r') → ∀ r', Z3f L (best : Int) (n : Int) ((L.countP (hasF s n) : Nat) : Int) x12 x13 x14 s = some r' →
  Z3Z L (best : Int) (n : Int) (((L.take i).countP (hasF s n) : Nat) : Int) x12 x13 x14 L (L.length : Int) (i : Int) s = some r' := by
 intro d
 induction d with
 | zero =>
  intro i r h _ r' hr
  apply Z9X
  unfold Z57
  rw [if_neg (ZX (by omega)), ZkM (by omega)]
  exact hr
 | succ d ih =>
  intro i r h hx r' hr
  have hi : i < L.length := by omega
  have ho := hok _ (Z7Y hi)
  have key := ih (i + 1) r (by omega) hx r' hr
  have hc : (L.take (i + 1)).countP (hasF s n) = (L.take i).countP (hasF s n) + (if hasF s n L[i] = true then 1 else 0) := by
   rw [← ZkN hi, List.countP_append, ZwX]
  have hcl : (L.take i).countP (hasF s n) ≤ i := ZiJ ZtX (by rw [Z99]; omega)
  have same15 : ∀ c : Nat, c ≤ 1000 → Z3Z L (best : Int) (n : Int) (c : Int) x12 x13 x14 L (L.length : Int) ((i + 1 : Nat) : Int) s = some r' → Z3e L (best : Int) (n : Int) (c : Int) x12 x13 x14 L (L.length : Int) (i : Int) s = some r' := by
   intro c _ hk
   unfold Z3e
   rw [wrap_i64 (by omega) (by omega)]
   exact hk
  apply Z9X
  unfold Z57 Z6s
  rw [if_pos (ZZ (by omega)), Z18, q2_ hi, ZV]
  by_cases c1 : n ≤ L[i].Log.length
  ·rw [if_pos (ZZ (by omega)), Zbw _ _ (by omega) (by omega), ZV, Zbw _ _ (by omega) (by omega), ZV, ZkO, Zla _ _ (fun e he => ho.sh e (ZiI he)) (by rw [Z99]; have := ho.len; omega), ZV]
   by_cases c2 : L[i].Log.take n = s.Log.take n
   ·have hh : hasF s n L[i] = true := by unfold hasF; rw [decide_eq_true c1, Z2q c2]; rfl
    rw [Z2q c2, if_pos rfl]
    unfold Z6t
    rw [wrap_i64 (by omega) (by omega), show (((L.take i).countP (hasF s n) : Nat) : Int) + 1 = (((L.take i).countP (hasF s n) + 1 : Nat) : Int) by omega]
    rw [hc, if_pos hh] at key
    exact same15 _ (by omega) key
   ·have hh : hasF s n L[i] = false := by unfold hasF; rw [Z1w c2, Bool.and_false]
    rw [Z1w c2, if_neg (by simp)]
    rw [hc, if_neg (by simp [hh])] at key
    exact same15 _ (by omega) key
  ·have hh : hasF s n L[i] = false := by unfold hasF; rw [decide_eq_false c1, Zq3]
   rw [if_neg (ZX (by omega))]
   rw [hc, if_neg (by simp [hh])] at key
   exact same15 _ (by omega) key
theorem ZqA (L : List Z0) (hL : L.length ≤ 1000) (hok : ∀ s ∈ L, OkS s) (s : Z0) (hs : OkS s) (x14 : Int) : ∀ (n best : Nat), n ≤ s.Log.length → best ≤ 64 → ∀ r, Z58 L (Z6D (majF L s) n best : Nat) L (L.length : Int) x14 = some r →
  Z5q L (best : Int) (n : Int) L (L.length : Int) x14 s = some r := by
 intro n
 induction n with
 | zero =>
  intro best _ _ r hr
  apply Zav
  unfold Z5o
  rw [if_neg (ZX (by omega))]
  exact hr
 | succ n ih =>
  intro best hn hb r hr
  have hlen := hs.len
  unfold Z6D at hr
  apply Zav
  unfold Z5o
  by_cases c1 : best < n + 1
  ·rw [if_pos c1] at hr
   rw [if_pos (ZZ (by omega))]
   unfold Z70
   have hcl : L.countP (hasF s (n + 1)) ≤ L.length := ZtX
   have key := Zpj L hL hok s hs best (n + 1) hn L (L.length : Int) x14 L.length 0 (some r) (by omega)
   rw [List.take_zero] at key
   refine key ?_ r ?_
   ·intro r' hr'
    rw [← hr']
    unfold Z3f Z4p
    rw [wrap_i64 (n := 2 * ((L.countP (hasF s (n + 1)) : Nat) : Int)) (by omega) (by omega), wrap_i64 (by omega) (by omega), show ((n + 1 : Nat) : Int) - 1 = (n : Int) by omega]
    by_cases c2 : L.length < 2 * L.countP (hasF s (n + 1))
    ·rw [if_pos (show majF L s (n + 1) = true from decide_eq_true c2)] at hr
     rw [if_pos (ZZ (by omega))]
     have : Z6D (majF L s) n (n + 1) = n + 1 := by
      cases n with
      | zero => rfl
      | succ n => unfold Z6D; rw [if_neg (by omega)]
     exact (ih (n + 1) (by omega) (by omega) r (by rw [this]; exact hr)).symm
    ·rw [if_neg (by show ¬ majF L s (n + 1) = true; unfold majF; simpa using c2)] at hr
     rw [if_neg (ZX (by omega))]
     exact (ih best (by omega) hb r hr).symm
   ·unfold Z3f Z4p
    rw [wrap_i64 (n := 2 * ((L.countP (hasF s (n + 1)) : Nat) : Int)) (by omega) (by omega), wrap_i64 (by omega) (by omega), show ((n + 1 : Nat) : Int) - 1 = (n : Int) by omega]
    by_cases c2 : L.length < 2 * L.countP (hasF s (n + 1))
    ·rw [if_pos (show majF L s (n + 1) = true from decide_eq_true c2)] at hr
     rw [if_pos (ZZ (by omega))]
     have : Z6D (majF L s) n (n + 1) = n + 1 := by
      cases n with
      | zero => rfl
      | succ n => unfold Z6D; rw [if_neg (by omega)]
     exact ih (n + 1) (by omega) (by omega) r (by rw [this]; exact hr)
    ·rw [if_neg (by show ¬ majF L s (n + 1) = true; unfold majF; simpa using c2)] at hr
     rw [if_neg (ZX (by omega))]
     exact ih best (by omega) hb r hr
  ·rw [if_neg c1] at hr
   rw [if_neg (ZX (by omega))]
   exact hr
theorem ZiW (mj : Nat → Bool) : ∀ (n best : Nat), best ≤ Z6D mj n best ∧ (Z6D mj n best = best ∨ (Z6D mj n best ≤ n ∧ 1 ≤ Z6D mj n best ∧ mj (Z6D mj n best) = true)) ∧ ∀ m, Z6D mj n best < m → m ≤ n → mj m = false
 | 0, best => ⟨Z25 _, .inl rfl, fun m h1 h2 => by have : Z6D mj 0 best = best := rfl; omega⟩
 | n + 1, best => by
  unfold Z6D
  by_cases c1 : best < n + 1
  ·rw [if_pos c1]
   by_cases c2 : mj (n + 1) = true
   ·rw [if_pos c2]
    exact ⟨by omega, .inr ⟨by omega, by omega, c2⟩, fun m h1 h2 => by omega⟩
   ·rw [if_neg c2]
    obtain ⟨h1, h2, h3⟩ := ZiW mj n best
    refine ⟨h1, ?_, fun m hm hm2 => ?_⟩
    ·rcases h2 with h2 | ⟨a, b, c⟩
     ·exact .inl h2
     ·exact .inr ⟨by omega, b, c⟩
    ·by_cases e : m = n + 1
     ·rw [e]; simpa using c2
     ·exact h3 m hm (by omega)
  ·rw [if_neg c1]
   exact ⟨Z25 _, .inl rfl, fun m h1 h2 => by omega⟩
def PF (L : List Z0) (n : Nat) : Prop := ∃ s ∈ L, n ≤ s.Log.length ∧ majF L s n = true
theorem Zlo (L : List Z0) (hL : L.length ≤ 1000) (hok : ∀ s ∈ L, OkS s) : ∀ (d i best : Nat), i + d = L.length → best ≤ 64 → Z5p L (best : Int) L (L.length : Int) (i : Int) = some ((comF L (L.drop i) best : Nat) : Int) := by
 intro d
 induction d with
 | zero =>
  intro i best h _
  apply Zat
  unfold Z5n Z6u
  rw [if_neg (ZX (by omega)), q5_ (by omega)]
  rfl
 | succ d ih =>
  intro i best h hb
  have hi : i < L.length := by omega
  have ho := hok _ (Z7Y hi)
  have hl := ho.len
  have hd : Z6D (majF L L[i]) L[i].Log.length best ≤ 64 := by rcases (ZiW (majF L L[i]) L[i].Log.length best).2.1 with d2 | d2 <;> omega
  apply Zat
  unfold Z5n Z6Z
  rw [if_pos (ZZ (by omega)), Z18, q2_ hi, ZV, Z6c hi]
  refine ZqA L hL hok L[i] ho (i : Int) L[i].Log.length best (Z25 _) hb _ ?_
  unfold Z58
  rw [wrap_i64 (by omega) (by omega)]
  exact ih (i + 1) _ (by omega) hd
theorem Zpi (l : List Z0) (hl : l.length ≤ 1000) : Z2w l = some ((comF (Z2L l) (Z2L l) 0 : Nat) : Int) := by
 apply ZhV
 unfold Z8z
 rw [Ze6 l (by omega), ZV]
 have := Zlo (Z2L l) (by rw [Z8Q]; exact hl) Ze3 (Z2L l).length 0 0 (by omega) (by omega)
 rw [ZkR] at this
 exact this
def Great (L : List Z0) (n : Nat) : Prop := n ≤ 64 ∧ (n = 0 ∨ PF L n) ∧ ∀ m, n < m → ¬ PF L m
theorem Great.uniq {L : List Z0} {a b : Nat} (ha : Great L a) (hb : Great L b) : a = b := by
 rcases Nat.lt_trichotomy a b with h | h | h
 ·rcases hb.2.1 with k | k
  ·omega
  ·exact absurd k (ha.2.2 b h)
 ·exact h
 ·rcases ha.2.1 with k | k
  ·omega
  ·exact absurd k (hb.2.2 a h)

def inF (L : List Z0) (up : List Bool) (v : Int) (i : Nat) : Bool := (up[i]?).getD false && (match L[i]? with | some s => decide (s.View = v ∧ s.Normal = v) | none => false)
def numF (L : List Z0) (up : List Bool) (v : Int) : Nat := (List.range L.length).countP (inF L up v)
def Zqh (L : List Z0) (up : List Bool) (v : Int) : Bool := decide (L.length < 2 * numF L up v) && inF L up v (v.tmod L.length).toNat
def ZdW (L : List Z0) (up : List Bool) : List Z0 → Int → Bool → Int × Bool
 | [], v, ok => (v, ok)
 | s :: R, v, ok => if Zqh L up s.View = true ∧ (ok = false ∨ v < s.View) then ZdW L up R s.View true else ZdW L up R v ok

theorem Zqx (l : List Z4) (h : l.length ≤ 1048576) : Z7X l = some l := by
 apply ZN (fun _ _ ha hb => RRun.uniq ZeC (ha .sh) (hb .sh))
 intro o
 have e : EE 56 [(.p (.lst o (l.map Z2)))] [] = some ((.p (.lst .sh (l.map Z2))), []) := by
  rw [show EE 56 = E PP XX HH 56 from rfl, Zp5 (P := PP) (X := XX) (H := HH) (f := 56) (m := ZhE) (by kernel_rfl)]
  have : ZhE [(.p (.lst o (l.map Z2)))] [] = if (l.map Z2).length ≤ 1048576 ∧ ((l.map Z2).all fun e => (Z11 e).length == 5 && (Z11 e).all ZfO) = true then some (.p (.lst .sh (l.map Z2)), []) else none := rfl
  rw [this, if_pos]
  refine ⟨by simpa using h, ?_⟩
  rw [Z4t]
  intro x hx
  obtain ⟨r, _, rfl⟩ := Z4e.1 hx
  rfl
 exact ⟨_, e, [], rfl⟩
abbrev first : Zp := ⟨0, 255, 10000, 500, []⟩
theorem ZuO : Z9y = some ([], [first], 0) := by
 apply Zip
 unfold Z9r
 rw [show ZaB = some first from ZjL rfl, ZV]
theorem Ztc : Z3M zSt = some [first] := by
 have hset : Z4a 0 [first] = some (first, true) := by
  apply Zbp
  unfold Z47 Z3n
  rw [if_neg (ZX (by decide)), if_neg (ZX (by simp))]
  rw [show lget [first] 0 = some first from rfl, ZV, Zqx _ (by simp), ZV]
 have hver : Z3c [first] = some 0 := by
  apply Z9G
  unfold Z38
  rw [wrap_i64 (by simp) (by simp)]
  rfl
 have h9b : Z5l [first] 1 1 [first] = some [first] := by
  apply ZbX
  unfold Z6v Z7t
  rw [if_neg (ZX (by decide))]
 have h9 : Z5l [] 1 0 [first] = some [first] := by
  apply ZbX
  unfold Z6v Z7s
  rw [if_pos (ZZ (by decide)), hset, ZV, Z8q _ _ (by simp), ZV, wrap_i64 (by omega) (by omega)]
  exact h9b
 have h3 : Z6F [] 0 0 [] [first] 0 = some [first] := by
  apply Zhd
  unfold Z81 Z82
  rw [if_neg (ZX (by decide)), hver, ZV, wrap_i64 (by omega) (by omega)]
  exact h9
 apply ZjF
 unfold Zae
 rw [ZuO, ZV, Ze6 _ (by simp), ZV, show Z2L [zSt] = [zSt] from rfl, show lget [zSt] 0 = some zSt from rfl, ZV, Zil (ZnE (by decide)), ZV]
 exact h3
theorem Zqr : Z2f [] = some (0, 0, true) := by
 rw [Zl0 [] (by simp)]
 rfl
theorem Zph : Z2w [] = some 0 := by
 rw [Zpi [] (by simp)]
 rfl
end Go.Proofs.YtiigbcahdaoedaaGreatDoor.N2
end
