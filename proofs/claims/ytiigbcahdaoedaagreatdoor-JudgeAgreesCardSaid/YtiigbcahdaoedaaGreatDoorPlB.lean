/- The reference's answer is the program's. No condition. -/
import Derived.Test.YtiigbcahdaoedaaGreatDoorPlA

set_option linter.unusedSimpArgs false
set_option linter.unusedVariables false
set_option linter.defProp false
section
namespace Go.Proofs.YtiigbcahdaoedaaGreatDoor.N2
open Go Go.Abs
set_option maxRecDepth 100000
theorem Zoz (a b : Z5) (hl : a.Drop.length ≤ 1000000) (he : a.Drop.length = b.Drop.length) : ∀ (d i : Nat), i + d = a.Drop.length → Z4k (i : Int) a b = some (eqv (a.Drop.drop i) (b.Drop.drop i)) := by
 intro d
 induction d with
 | zero =>
  intro i h
  apply Z8Y
  unfold Z4h Z5g
  rw [if_neg (ZX (by omega)), q5_ (by omega), q5_ (by omega), Z2q rfl]
 | succ d ih =>
  intro i h
  have hi : i < a.Drop.length := by omega
  have hj : i < b.Drop.length := by omega
  apply Z8Y
  unfold Z4h Z5f Z5e
  rw [if_pos (ZZ (by omega)), Z18, Z18, q2_ hi, q2_ hj, ZV, ZV, Z6c hi, Z6c hj, Z9E]
  by_cases e : a.Drop[i] = b.Drop[i]
  ·rw [if_neg (Z4H e), Z2q e, Z6d, wrap_i64 (by omega) (by omega)]
   exact ih (i + 1) (by omega)
  ·rw [if_pos (Z4I e), Z1w e]
   rfl
theorem Zqe (a b : Z5) (hp : a.Put.length ≤ 1000000) (hl : a.Drop.length ≤ 1000000) (hpe : a.Put.length = b.Put.length) (he : a.Drop.length = b.Drop.length) : ∀ (d i : Nat), i + d = a.Put.length →
  Z3r (i : Int) a b = some (eqv (a.Put.drop i) (b.Put.drop i) && eqv a.Drop b.Drop) := by
 intro d
 induction d with
 | zero =>
  intro i h
  apply Z8W
  unfold Z4g Z5F
  rw [if_neg (ZX (by omega)), q5_ (by omega), q5_ (by omega), Z2q rfl, Z6d]
  exact Zoz a b hl he a.Drop.length 0 (by omega)
 | succ d ih =>
  intro i h
  have hi : i < a.Put.length := by omega
  have hj : i < b.Put.length := by omega
  have hq := ZoH a.Put[i] b.Put[i]
  unfold eqR at hq
  apply Z8W
  unfold Z4g Z5E Z5D
  rw [if_pos (ZZ (by omega)), Z18, Z18, q2_ hi, q2_ hj, ZV, ZV, Z6c hi, Z6c hj, Z9E, hq]
  by_cases e : a.Put[i] = b.Put[i]
  ·rw [Z2q e, if_neg (by simp), Z6d, wrap_i64 (by omega) (by omega)]
   exact ih (i + 1) (by omega)
  ·rw [Z1w e, if_pos (by rfl)]
   rfl
theorem ZwZ (a b : Z5) (hp : a.Put.length ≤ 1000000) (hl : a.Drop.length ≤ 1000000) : Z5r a b = some (eqv a b) := by
 have hab : a = b ↔ a.Default = b.Default ∧ a.Closed = b.Closed ∧ a.Fuel = b.Fuel ∧ a.Stack = b.Stack ∧ a.Put = b.Put ∧ a.Drop = b.Drop := by
  cases a; cases b; simp
 apply Zfv
 unfold Z71 Z1V Z5C
 by_cases c1 : a.Default = b.Default
 case neg => rw [if_pos (Z4I c1), Z1w fun k => c1 (hab.1 k).1]
 rw [if_neg (Z4H c1)]
 by_cases c2 : a.Closed = b.Closed
 case neg => rw [if_pos (Z4I c2), Z1w fun k => c2 (hab.1 k).2.1]
 rw [if_neg (Z4H c2)]
 by_cases c3 : a.Fuel = b.Fuel
 case neg => rw [if_pos (Z4I c3), Z1w fun k => c3 (hab.1 k).2.2.1]
 rw [if_neg (Z4H c3)]
 by_cases c4 : a.Stack = b.Stack
 case neg => rw [if_pos (Z4I c4), Z1w fun k => c4 (hab.1 k).2.2.2.1]
 rw [if_neg (Z4H c4)]
 by_cases c5 : a.Put.length = b.Put.length
 case neg => rw [if_pos (Z4I (by omega)), Z1w fun k => c5 (congrArg List.length (hab.1 k).2.2.2.2.1)]
 rw [if_neg (Z4H (by omega))]
 by_cases c6 : a.Drop.length = b.Drop.length
 case neg => rw [if_pos (Z4I (by omega)), Z1w fun k => c6 (congrArg List.length (hab.1 k).2.2.2.2.2)]
 rw [if_neg (Z4H (by omega))]
 have key := Zqe a b hp hl c5 c6 a.Put.length 0 (by omega)
 have key : Z3r 0 a b = some (eqv a.Put b.Put && eqv a.Drop b.Drop) := key
 rw [key]
 congr 1
 by_cases c7 : a.Put = b.Put
 case neg => rw [Z1w c7, Z1w fun k => c7 (hab.1 k).2.2.2.2.1]; rfl
 rw [Z2q c7, Z6d]
 exact Zlq ⟨fun h => hab.2 ⟨c1, c2, c3, c4, c7, h⟩, fun h => (hab.1 h).2.2.2.2.2⟩
theorem ZnT (L M : List Z8) (hs : Sh L) (hl : L.length ≤ 1000000) (he : L.length = M.length) : ∀ (d i : Nat), i + d = L.length → Z6I (L.map entF) (M.map entF) (i : Int) = some (eqv (L.drop i) (M.drop i)) := by
 intro d
 induction d with
 | zero =>
  intro i h
  apply Zc4
  unfold Z6z Z86
  rw [q8_, if_neg (ZX (by omega)), q5_ (by omega), q5_ (by omega), Z2q rfl]
 | succ d ih =>
  intro i h
  have hi : i < L.length := by omega
  have hj : i < M.length := by omega
  obtain ⟨s1, s2⟩ := hs L[i] (Z7Y hi)
  have g1 : lget (L.map entF) (i : Int) = some (entF L[i]) := by rw [Z18, q7_, q2_ hi]; rfl
  have g2 : lget (M.map entF) (i : Int) = some (entF M[i]) := by rw [Z18, q7_, q2_ hj]; rfl
  have hab : L[i] = M[i] ↔ L[i].View = M[i].View ∧ L[i].Client = M[i].Client ∧ L[i].Request = M[i].Request ∧ dltF L[i].Delta = dltF M[i].Delta := by
   constructor
   ·intro h; rw [h]; exact ⟨rfl, rfl, rfl, rfl⟩
   ·rintro ⟨h1, h2, h3, h4⟩
    refine Ztu ?_
    unfold entF
    rw [h1, h2, h3, h4]
  have hsd : Z5r (Z5.mk (entF L[i]).Delta.Default (entF L[i]).Delta.Closed (entF L[i]).Delta.Fuel (entF L[i]).Delta.Stack (entF L[i]).Delta.Put (entF L[i]).Delta.Drop) (Z5.mk (entF M[i]).Delta.Default (entF M[i]).Delta.Closed (entF M[i]).Delta.Fuel (entF M[i]).Delta.Stack (entF M[i]).Delta.Put (entF M[i]).Delta.Drop) = some (eqv (dltF L[i].Delta) (dltF M[i].Delta)) :=
   ZwZ (dltF L[i].Delta) (dltF M[i].Delta) s1 s2
  apply Zc4
  unfold Z6z Z85 Z84 Z4i
  rw [q8_, if_pos (ZZ (by omega)), g1, g2, Z6c hi, Z6c hj, Z9E]
  simp only [ZV]
  show (if (L[i].View != M[i].View) = true then some false else if (L[i].Client != M[i].Client) = true then some false else if (L[i].Request != M[i].Request) = true then some false else _) = _
  by_cases c1 : L[i].View = M[i].View
  case neg => rw [if_pos (Z4I c1), Z1w fun k => c1 (hab.1 k).1]; rfl
  rw [if_neg (Z4H c1)]
  by_cases c2 : L[i].Client = M[i].Client
  case neg => rw [if_pos (Z4I c2), Z1w fun k => c2 (hab.1 k).2.1]; rfl
  rw [if_neg (Z4H c2)]
  by_cases c3 : L[i].Request = M[i].Request
  case neg => rw [if_pos (Z4I c3), Z1w fun k => c3 (hab.1 k).2.2.1]; rfl
  rw [if_neg (Z4H c3), hsd, ZV]
  by_cases c4 : dltF L[i].Delta = dltF M[i].Delta
  case neg => rw [Z1w c4, if_pos (by rfl), Z1w fun k => c4 (hab.1 k).2.2.2]; rfl
  rw [Z2q c4, if_neg (by simp), Z2q (hab.2 ⟨c1, c2, c3, c4⟩), Z6d, wrap_i64 (by omega) (by omega)]
  exact ih (i + 1) (by omega)
theorem Zow (L M : List Z8) (hs : Sh L) (hl : L.length ≤ 1000000) : Z7c (L.map entF) (M.map entF) = some (eqv L M) := by
 apply ZjJ
 unfold Zah Z83
 rw [q8_, q8_]
 by_cases he : L.length = M.length
 ·rw [if_neg (Z4H (by omega))]
  exact ZnT L M hs hl he L.length 0 (by omega)
 ·rw [if_pos (Z4I (by omega)), Z1w fun k => he (congrArg List.length k)]
theorem ZoQ {α β : Type} (f : α → β) (l : List α) (i : Nat) (h : i < l.length) : lsl (l.map f) (i : Int) ((i + 1 : Nat) : Int) = some [f l[i]] := by
 unfold lsl
 rw [if_pos (by rw [q8_]; omega), ZkO, ZkO, List.take_succ_eq_append_getElem (by rw [q8_]; exact h), List.drop_append_of_le_length (by rw [Z99, q8_]; omega), q5_ (by rw [Z99]; omega), List.getElem_map]
 rfl
theorem Zl1 {s : Z0} (h : OkS s) {i : Nat} (hi : i < s.Commit.toNat) : ∃ hj : i < (Z3T s).length, ∃ hl : i < s.Log.length, (Z3T s)[i] = s.Log[i] := by
 have := h.commit
 refine ⟨by rw [Zff h]; exact hi, by omega, ?_⟩
 unfold Z3T
 exact List.getElem_take
theorem Zpb {x y : Z0} (hx : OkS x) (hy : OkS y) : ∀ (d i : Nat), i + d = min x.Commit.toNat y.Commit.toNat →
  Z4J (i : Int) (stF x) (stF y) = some (!eqv (((Z3T x).take (min x.Commit.toNat y.Commit.toNat)).drop i) (((Z3T y).take (min x.Commit.toNat y.Commit.toNat)).drop i)) := by
 have hcx := hx.commit
 have hcy := hy.commit
 have hlx := hx.len
 have hly := hy.len
 intro d
 induction d with
 | zero =>
  intro i h
  apply Zbb
  unfold Z5W Z5X
  rw [q5_ (by rw [Z99]; omega), q5_ (by rw [Z99]; omega), Z2q rfl]
  show (if decide ((i : Int) < x.Commit) = true then if decide ((i : Int) < y.Commit) = true then _ else some false else some false) = some false
  by_cases c : (i : Int) < x.Commit
  ·rw [if_pos (ZZ c), if_neg (ZX (by omega))]
  ·rw [if_neg (ZX c)]
 | succ d ih =>
  intro i h
  obtain ⟨jx, kx, ex⟩ := Zl1 hx (i := i) (by omega)
  obtain ⟨jy, ky, ey⟩ := Zl1 hy (i := i) (by omega)
  have dx : ((Z3T x).take (min x.Commit.toNat y.Commit.toNat)).drop i = x.Log[i] :: ((Z3T x).take (min x.Commit.toNat y.Commit.toNat)).drop (i + 1) := by
   rw [Z6c (by rw [Z99]; omega), List.getElem_take, ex]
  have dy : ((Z3T y).take (min x.Commit.toNat y.Commit.toNat)).drop i = y.Log[i] :: ((Z3T y).take (min x.Commit.toNat y.Commit.toNat)).drop (i + 1) := by
   rw [Z6c (by rw [Z99]; omega), List.getElem_take, ey]
  have hsame : Z7c [entF x.Log[i]] [entF y.Log[i]] = some (eqv [x.Log[i]] [y.Log[i]]) := Zow [x.Log[i]] [y.Log[i]] (fun e he => hx.sh e (by rw [Z8t.1 he]; exact Z7Y kx)) (by simp)
  apply Zbb
  unfold Z5W Z7C Z7B
  rw [dx, dy, Z9E, wrap_i64 (by omega) (by omega), show ((i : Int) + 1) = ((i + 1 : Nat) : Int) by omega]
  show (if decide ((i : Int) < x.Commit) = true then if decide ((i : Int) < y.Commit) = true then (lsl (x.Log.map entF) (i : Int) ((i + 1 : Nat) : Int)).bind (fun a1 => (lsl (y.Log.map entF) (i : Int) ((i + 1 : Nat) : Int)).bind fun a2 => (Z7c a1 a2).bind fun r3 => if (!r3) = true then some true else Z4J ((i + 1 : Nat) : Int) (stF x) (stF y)) else _ else _) = _
  rw [if_pos (ZZ (by omega)), if_pos (ZZ (by omega)), ZoQ _ _ _ kx, ZV, ZoQ _ _ _ ky, ZV, hsame, ZV]
  by_cases e : x.Log[i] = y.Log[i]
  ·rw [Z2q (by rw [e]), if_neg (by simp), Z2q e, Z6d]
   exact ih (i + 1) (by omega)
  ·rw [Z1w (a := [x.Log[i]]) (by simpa using e), if_pos (by rfl), Z1w e]
   rfl
theorem Zqs {x y : Z0} (hx : OkS x) (hy : OkS y) : Z6o (stF x) (stF y) = some (!Z8C (Z3T x) (Z3T y)) := by
 apply Ziy
 unfold Z9w
 have key := Zpb hx hy (min x.Commit.toNat y.Commit.toNat) 0 (by omega)
 rw [ZkR, ZkR] at key
 unfold Z8C
 rw [Zff hx, Zff hy]
 exact key
theorem ZkV (L : List Z0) (hL : L.length ≤ 1000000) (hok : ∀ s ∈ L, OkS s) (k : Nat) (hk : k < L.length) {r : Int × Int × Bool} (hr : Z4G (L.map stF) (k : Int) = some r) : ∀ (d i : Nat), i + d = k →
  Z66 (L.map stF) (k : Int) (i : Int) = some (match Zf2 (apF L) k d i with | some j => ((j : Int), (k : Int), false) | none => r) := by
 intro d
 induction d with
 | zero =>
  intro i h
  apply Zb9
  unfold Z5V
  rw [if_neg (ZX (by omega)), hr]
  rfl
 | succ d ih =>
  intro i h
  have hi : i < L.length := by omega
  have g1 : lget (L.map stF) (i : Int) = some (stF L[i]) := by rw [Z18, q7_, q2_ hi]; rfl
  have g2 : lget (L.map stF) (k : Int) = some (stF L[k]) := by rw [Z18, q7_, q2_ hk]; rfl
  have hap : apF L i k = !Z8C (Z3T L[i]) (Z3T L[k]) := by unfold apF; rw [q2_ hi, q2_ hk]
  apply Zb9
  unfold Z5V Z7z Z7y
  rw [if_pos (ZZ (by omega)), g1, ZV, g2, ZV, Zqs (hok _ (Z7Y hi)) (hok _ (Z7Y hk)), ZV]
  unfold Zf2
  rw [hap]
  cases hb : Z8C (Z3T L[i]) (Z3T L[k]) with
  | true =>
   rw [if_neg (by simp), if_neg (by simp), wrap_i64 (by omega) (by omega)]
   exact ih (i + 1) (by omega)
  | false =>
   rw [if_pos (by rfl), if_pos (by rfl)]
theorem ZkW (L : List Z0) (hL : L.length ≤ 1000000) (hok : ∀ s ∈ L, OkS s) : ∀ (d k : Nat), k + d = L.length → Z65 (L.map stF) (k : Int) = some (ZaK (apF L) d k) := by
 intro d
 induction d with
 | zero =>
  intro k h
  apply Zb7
  unfold Z5U Z7A
  rw [q8_, if_neg (ZX (by omega))]
  rfl
 | succ d ih =>
  intro k h
  have hk : k < L.length := by omega
  have hr : Z4G (L.map stF) (k : Int) = some (ZaK (apF L) d (k + 1)) := by
   unfold Z4G
   rw [wrap_i64 (by omega) (by omega)]
   exact ih (k + 1) (by omega)
  apply Zb7
  unfold Z5U Z7x
  rw [q8_, if_pos (ZZ (by omega)), ZaK]
  exact ZkV L hL hok k hk hr k 0 (by omega)
theorem ZnQ (L : List Z0) (hL : L.length ≤ 1000000) (hok : ∀ s ∈ L, OkS s) : Z2J (L.map stF) = some (ZaK (apF L) L.length 0) := by
 apply Zix
 unfold Z9v
 exact ZkW L hL hok L.length 0 (by omega)
theorem Zlf (L : List Z0) (hL : L.length ≤ 1000000) (hs : ∀ s ∈ L, Sh s.Log ∧ s.Log.length ≤ 1000000) : ∀ (d i : Nat), i + d = L.length → Z67 (L.map stF) (((L.take i).map Z52).map stF) (i : Int) = some ((Z2L L).map stF) := by
 intro d
 induction d with
 | zero =>
  intro i h
  apply Zbd
  unfold Z5Y Z7E
  rw [q8_, if_neg (ZX (by omega)), ZkM (by omega)]
  rfl
 | succ d ih =>
  intro i h
  have hi : i < L.length := by omega
  have g1 : lget (L.map stF) (i : Int) = some (stF L[i]) := by rw [Z18, q7_, q2_ hi]; rfl
  obtain ⟨s1, s2⟩ := hs _ (Z7Y hi)
  have key := ih (i + 1) (by omega)
  have e : ((L.take i).map Z52).map stF ++ [stF (Z52 L[i])] = ((L.take (i + 1)).map Z52).map stF := by
   rw [← ZkN hi, Zhw, Zhw]
   rfl
  have hlen : (((L.take i).map Z52).map stF).length ≤ 1000000000 := by rw [q8_, q8_, Z99]; omega
  rw [← e] at key
  apply Zbd
  unfold Z5Y Z7D Z5Z
  rw [q8_, if_pos (ZZ (by omega)), g1, ZV, ZnU _ s1 s2, ZV]
  cases hr : okSt L[i] with
  | true =>
   have hf : Z52 L[i] = L[i] := by unfold Z52; rw [if_pos hr]
   rw [hf] at key
   rw [if_pos rfl, ZV, Z8q _ _ hlen, ZV, wrap_i64 (by omega) (by omega)]
   exact key
  | false =>
   have hf : Z52 L[i] = zSt := by unfold Z52; rw [if_neg (by simp [hr])]
   rw [hf] at key
   rw [if_neg (by simp), Z8q _ _ hlen, ZV, wrap_i64 (by omega) (by omega)]
   exact key
theorem ZoC (L : List Z0) (hL : L.length ≤ 1000000) (hs : ∀ s ∈ L, Sh s.Log ∧ s.Log.length ≤ 1000000) : ∀ (d i : Nat), i + d = L.length → Z34 ((L.take i).map stF) L (L.length : Int) (i : Int) = some ((Z2L L).map stF) := by
 intro d
 induction d with
 | zero =>
  intro i h
  have hr : Z9z (L.map stF) = some ((Z2L L).map stF) := by
   apply Ziz
   unfold Z9x
   exact Zlf L hL hs L.length 0 (by omega)
  apply Z77
  unfold Z2Z Z43
  rw [if_neg (ZX (by omega)), ZkM (by omega), hr, ZV]
 | succ d ih =>
  intro i h
  have hi : i < L.length := by omega
  obtain ⟨s1, s2⟩ := hs _ (Z7Y hi)
  have e : (L.take i).map stF ++ [stF L[i]] = (L.take (i + 1)).map stF := by
   rw [← ZkN hi, Zhw]
   rfl
  apply Z77
  unfold Z2Z Z42
  rw [if_pos (ZZ (by omega)), Z18, q2_ hi, ZV, Ztf _ s1 s2, ZV, Z8q _ _ (by rw [q8_, Z99]; omega), ZV, wrap_i64 (by omega) (by omega), e]
  exact ih (i + 1) (by omega)
theorem Zqi (l : List Z0) (hL : l.length ≤ 1000000) (hs : ∀ s ∈ l, Sh s.Log ∧ s.Log.length ≤ 1000000) : Z1p l = some ((Z2L l).map stF) := by
 apply ZcX
 unfold Z4N
 exact ZoC l hL hs l.length 0 (by omega)
def SmL (l : List Z8) : Prop := l.length ≤ 70 ∧ ∀ e ∈ l, e.Delta.Put.length ≤ 20 ∧ e.Delta.Drop.length ≤ 20
theorem SmL.sh {l : List Z8} (h : SmL l) : Sh l := fun e he => by have := h.2 e he; omega
theorem Zx2 (l L : List Z8) (n k : Int) (R : List Z4) (hl : R.length ≤ 20) {r : Bool} (hr : Z2e l L n (IntKind.i64.wrap (k + 1)) = some r) : ∀ (m i : Nat), i + m = R.length →
  ∃ r', Z2G l L n k R (R.length : Int) (i : Int) = some r' ∧ (r' = true → r = true) := by
 intro m
 induction m with
 | zero =>
  intro i h
  refine ⟨r, ?_, id⟩
  apply Z4s
  unfold Z2b Z3C
  rw [if_neg (ZX (by omega))]
  exact hr
 | succ m ih =>
  intro i h
  have hi : i < R.length := by omega
  obtain ⟨r', e, he⟩ := ih (i + 1) (by omega)
  by_cases hc : 300 < (R[i].Pattern.size : Int)
  ·refine ⟨false, ?_, by simp⟩
   apply Z4s
   unfold Z2b Z2F
   rw [if_pos (ZZ (by omega)), Z18, q2_ hi, ZV, if_pos (ZZ hc)]
  ·refine ⟨r', ?_, he⟩
   apply Z4s
   unfold Z2b Z2F Z3B
   rw [if_pos (ZZ (by omega)), Z18, q2_ hi, ZV, if_neg (ZX hc), wrap_i64 (by omega) (by omega)]
   exact e
theorem Zx1 (l L : List Z8) (hl : L.length ≤ 9223372036854775807) : ∀ (m i : Nat), i + m = L.length → ∃ r, Z2e l L (L.length : Int) (i : Int) = some r ∧ (r = true → l.length ≤ 70 ∧ ∀ e ∈ L.drop i, e.Delta.Put.length ≤ 20 ∧ e.Delta.Drop.length ≤ 20) := by
 intro m
 induction m with
 | zero =>
  intro i h
  refine ⟨decide ((l.length : Int) ≤ 70), ?_, fun h2 => ⟨by have := of_decide_eq_true h2; omega, by rw [q5_ (by omega)]; simp⟩⟩
  apply Z3b
  unfold Z1Q Z3D
  rw [if_neg (ZX (by omega))]
 | succ m ih =>
  intro i h
  have hi : i < L.length := by omega
  obtain ⟨r, e, he⟩ := ih (i + 1) (by omega)
  by_cases c1 : 20 < (L[i].Delta.Put.length : Int)
  ·refine ⟨false, ?_, by simp⟩
   apply Z3b
   unfold Z1Q Z2c Z2d
   rw [if_pos (ZZ (by omega)), Z18, q2_ hi, ZV, if_pos (ZZ c1)]
  by_cases c2 : 20 < (L[i].Delta.Drop.length : Int)
  ·refine ⟨false, ?_, by simp⟩
   apply Z3b
   unfold Z1Q Z2c Z2d
   rw [if_pos (ZZ (by omega)), Z18, q2_ hi, ZV, if_neg (ZX c1), if_pos (ZZ c2)]
  obtain ⟨r', e', he'⟩ := Zx2 l L L.length i L[i].Delta.Put (by omega) (r := r) (by rw [wrap_i64 (by omega) (by omega)]; exact e) L[i].Delta.Put.length 0 (by omega)
  refine ⟨r', ?_, fun hr => ?_⟩
  ·apply Z3b
   unfold Z1Q Z2c Z3R
   rw [if_pos (ZZ (by omega)), Z18, q2_ hi, ZV, if_neg (ZX c1), if_neg (ZX c2)]
   exact e'
  ·obtain ⟨h1, h2⟩ := he (he' hr)
   refine ⟨h1, fun x hx => ?_⟩
   rw [Z6c hi] at hx
   rcases Z6U.1 hx with rfl | hx
   ·omega
   ·exact h2 x hx
theorem ZkX (s : Z0) (hl : s.Log.length ≤ 9223372036854775807) : ∃ b, Z49 s = some b ∧ (b = true → SmL s.Log) := by
 obtain ⟨r, e, he⟩ := Zx1 s.Log s.Log hl s.Log.length 0 (by omega)
 have h : Z4B s.Log = some r := Zcq _ (by unfold Z4w; exact e)
 refine ⟨r, Zbm _ (by unfold Z46; rw [h, ZV]), fun hr => ?_⟩
 have := he hr
 rw [ZkR] at this
 exact this
theorem Zqf (l L : List Z0) (hl : L.length ≤ 9223372036854775807) (hs : ∀ s ∈ L, s.Log.length ≤ 9223372036854775807) : ∀ (d i : Nat), i + d = L.length → ∃ r, Z3g l L (L.length : Int) (i : Int) = some r ∧ (r = true → l.length ≤ 9 ∧ ∀ s ∈ L.drop i, SmL s.Log) := by
 intro d
 induction d with
 | zero =>
  intro i h
  refine ⟨decide ((l.length : Int) ≤ 9), ?_, fun h2 => ⟨by have := of_decide_eq_true h2; omega, by rw [q5_ (by omega)]; simp⟩⟩
  apply Z2B
  unfold Z1O Z4f
  rw [if_neg (ZX (by omega))]
 | succ d ih =>
  intro i h
  have hi : i < L.length := by omega
  obtain ⟨r, e, he⟩ := ih (i + 1) (by omega)
  obtain ⟨b, hb, hb2⟩ := ZkX L[i] (hs _ (Z7Y hi))
  have r6 : Z2v l L (L.length : Int) (i : Int) = some r := by
   unfold Z2v
   rw [wrap_i64 (by omega) (by omega)]
   exact e
  cases b with
  | false =>
   refine ⟨false, ?_, by simp⟩
   apply Z2B
   unfold Z1O Z22 Z2u
   rw [if_pos (ZZ (by omega)), Z18, q2_ hi, ZV, hb, ZV, if_pos (by rfl)]
  | true =>
   have fin : r = true → l.length ≤ 9 ∧ ∀ s ∈ L.drop i, SmL s.Log := by
    intro hr
    obtain ⟨h1, h2⟩ := he hr
    refine ⟨h1, fun x hx => ?_⟩
    rw [Z6c hi] at hx
    rcases Z6U.1 hx with rfl | hx
    ·exact hb2 rfl
    ·exact h2 x hx
   by_cases c1 : 10 < (L[i].Log.length : Int)
   ·by_cases c2 : (L[i].Log.length : Int) ≤ 64
    ·refine ⟨false, ?_, by simp⟩
     apply Z2B
     unfold Z1O Z22 Z2u
     rw [if_pos (ZZ (by omega)), Z18, q2_ hi, ZV, hb, ZV, if_neg (by simp), if_pos (ZZ c1), if_pos (ZZ c2)]
    ·refine ⟨r, ?_, fin⟩
     apply Z2B
     unfold Z1O Z22
     rw [if_pos (ZZ (by omega)), Z18, q2_ hi, ZV, hb, ZV, if_neg (by simp), if_pos (ZZ c1), if_neg (ZX c2)]
     exact r6
   ·refine ⟨r, ?_, fin⟩
    apply Z2B
    unfold Z1O Z22
    rw [if_pos (ZZ (by omega)), Z18, q2_ hi, ZV, hb, ZV, if_neg (by simp), if_neg (ZX c1)]
    exact r6
theorem Ztd (l : List Z0) (hl : l.length ≤ 9223372036854775807) (hs : ∀ s ∈ l, s.Log.length ≤ 9223372036854775807) : ∃ b, Z1u l = some b ∧ (b = true → l.length ≤ 9 ∧ ∀ s ∈ l, SmL s.Log) := by
 obtain ⟨r, e, he⟩ := Zqf l l hl hs l.length 0 (by omega)
 exact ⟨r, Zdp _ (by unfold Z5d; exact e), fun hr => by have := he hr; rw [ZkR] at this; exact this⟩
theorem Zp9 (l : List Z0) (h1 : l.length ≤ 9) (h2 : ∀ s ∈ l, SmL s.Log) : ∃ r m, Z2f l = some r ∧ Z1p l = some m ∧ Z2J m = some r := by
 refine ⟨_, _, Zl0 l (by omega), Zqi l (by omega) (fun s hs => ⟨(h2 s hs).sh, by have := (h2 s hs).1; omega⟩), ?_⟩
 have := ZnQ (Z2L l) (by rw [Z8Q]; omega) Ze3
 rw [Z8Q] at this
 exact this
end Go.Proofs.YtiigbcahdaoedaaGreatDoor.N2
end
