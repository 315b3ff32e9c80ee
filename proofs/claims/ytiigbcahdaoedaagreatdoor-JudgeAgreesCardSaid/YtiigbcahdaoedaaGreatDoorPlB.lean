/- The reference's answer is the program's. No condition. -/
import Derived.Test.YtiigbcahdaoedaaGreatDoorPlA

set_option linter.unusedSimpArgs false
set_option linter.unusedVariables false
set_option linter.defProp false
section
namespace Go.Proofs.YtiigbcahdaoedaaGreatDoor.N2
open Go Go.Abs
set_option maxRecDepth 100000
theorem ZoC (a b : Z5) (hl : a.Drop.length ≤ 1000000) (he : a.Drop.length = b.Drop.length) : ∀ (d i : Nat), i + d = a.Drop.length → Z4m (i : Int) a b = some (eqv (a.Drop.drop i) (b.Drop.drop i)) := by
 intro d
 induction d with
 | zero =>
  intro i h
  apply Z93
  unfold Z4j Z5j
  rw [if_neg (ZX (by omega)), q5_ (by omega), q5_ (by omega), Z2p rfl]
 | succ d ih =>
  intro i h
  have hi : i < a.Drop.length := by omega
  have hj : i < b.Drop.length := by omega
  apply Z93
  unfold Z4j Z5i Z5h
  rw [if_pos (ZY (by omega)), Z18, Z18, q2_ hi, q2_ hj, ZV, ZV, Z6f hi, Z6f hj, Z9J]
  by_cases e : a.Drop[i] = b.Drop[i]
  ·rw [if_neg (Z4K e), Z2p e, Z6g, wrap_i64 (by omega) (by omega)]
   exact ih (i + 1) (by omega)
  ·rw [if_pos (Z4L e), Z1x e]
   rfl
theorem Zqh (a b : Z5) (hp : a.Put.length ≤ 1000000) (hl : a.Drop.length ≤ 1000000) (hpe : a.Put.length = b.Put.length) (he : a.Drop.length = b.Drop.length) : ∀ (d i : Nat), i + d = a.Put.length →
  Z3s (i : Int) a b = some (eqv (a.Put.drop i) (b.Put.drop i) && eqv a.Drop b.Drop) := by
 intro d
 induction d with
 | zero =>
  intro i h
  apply Z91
  unfold Z4i Z5I
  rw [if_neg (ZX (by omega)), q5_ (by omega), q5_ (by omega), Z2p rfl, Z6g]
  exact ZoC a b hl he a.Drop.length 0 (by omega)
 | succ d ih =>
  intro i h
  have hi : i < a.Put.length := by omega
  have hj : i < b.Put.length := by omega
  have hq := ZoK a.Put[i] b.Put[i]
  unfold eqR at hq
  apply Z91
  unfold Z4i Z5H Z5G
  rw [if_pos (ZY (by omega)), Z18, Z18, q2_ hi, q2_ hj, ZV, ZV, Z6f hi, Z6f hj, Z9J, hq]
  by_cases e : a.Put[i] = b.Put[i]
  ·rw [Z2p e, if_neg (by simp), Z6g, wrap_i64 (by omega) (by omega)]
   exact ih (i + 1) (by omega)
  ·rw [Z1x e, if_pos (by rfl)]
   rfl
theorem Zx2 (a b : Z5) (hp : a.Put.length ≤ 1000000) (hl : a.Drop.length ≤ 1000000) : Z5u a b = some (eqv a b) := by
 have hab : a = b ↔ a.Default = b.Default ∧ a.Closed = b.Closed ∧ a.Fuel = b.Fuel ∧ a.Stack = b.Stack ∧ a.Put = b.Put ∧ a.Drop = b.Drop := by
  cases a; cases b; simp
 apply Zfy
 unfold Z74 Z1V Z5F
 by_cases c1 : a.Default = b.Default
 case neg => rw [if_pos (Z4L c1), Z1x fun k => c1 (hab.1 k).1]
 rw [if_neg (Z4K c1)]
 by_cases c2 : a.Closed = b.Closed
 case neg => rw [if_pos (Z4L c2), Z1x fun k => c2 (hab.1 k).2.1]
 rw [if_neg (Z4K c2)]
 by_cases c3 : a.Fuel = b.Fuel
 case neg => rw [if_pos (Z4L c3), Z1x fun k => c3 (hab.1 k).2.2.1]
 rw [if_neg (Z4K c3)]
 by_cases c4 : a.Stack = b.Stack
 case neg => rw [if_pos (Z4L c4), Z1x fun k => c4 (hab.1 k).2.2.2.1]
 rw [if_neg (Z4K c4)]
 by_cases c5 : a.Put.length = b.Put.length
 case neg => rw [if_pos (Z4L (by omega)), Z1x fun k => c5 (congrArg List.length (hab.1 k).2.2.2.2.1)]
 rw [if_neg (Z4K (by omega))]
 by_cases c6 : a.Drop.length = b.Drop.length
 case neg => rw [if_pos (Z4L (by omega)), Z1x fun k => c6 (congrArg List.length (hab.1 k).2.2.2.2.2)]
 rw [if_neg (Z4K (by omega))]
 have key := Zqh a b hp hl c5 c6 a.Put.length 0 (by omega)
 have key : Z3s 0 a b = some (eqv a.Put b.Put && eqv a.Drop b.Drop) := key
 rw [key]
 congr 1
 by_cases c7 : a.Put = b.Put
 case neg => rw [Z1x c7, Z1x fun k => c7 (hab.1 k).2.2.2.2.1]; rfl
 rw [Z2p c7, Z6g]
 exact Zlt ⟨fun h => hab.2 ⟨c1, c2, c3, c4, c7, h⟩, fun h => (hab.1 h).2.2.2.2.2⟩
theorem ZnW (L M : List Z8) (hs : Sh L) (hl : L.length ≤ 1000000) (he : L.length = M.length) : ∀ (d i : Nat), i + d = L.length → Z6M (L.map entF) (M.map entF) (i : Int) = some (eqv (L.drop i) (M.drop i)) := by
 intro d
 induction d with
 | zero =>
  intro i h
  apply Zcb
  unfold Z6D Z89
  rw [q8_, if_neg (ZX (by omega)), q5_ (by omega), q5_ (by omega), Z2p rfl]
 | succ d ih =>
  intro i h
  have hi : i < L.length := by omega
  have hj : i < M.length := by omega
  obtain ⟨s1, s2⟩ := hs L[i] (Z82 hi)
  have g1 : lget (L.map entF) (i : Int) = some (entF L[i]) := by rw [Z18, q7_, q2_ hi]; rfl
  have g2 : lget (M.map entF) (i : Int) = some (entF M[i]) := by rw [Z18, q7_, q2_ hj]; rfl
  have hab : L[i] = M[i] ↔ L[i].View = M[i].View ∧ L[i].Client = M[i].Client ∧ L[i].Request = M[i].Request ∧ dltF L[i].Delta = dltF M[i].Delta := by
   constructor
   ·intro h; rw [h]; exact ⟨rfl, rfl, rfl, rfl⟩
   ·rintro ⟨h1, h2, h3, h4⟩
    refine Ztx ?_
    unfold entF
    rw [h1, h2, h3, h4]
  have hsd : Z5u (Z5.mk (entF L[i]).Delta.Default (entF L[i]).Delta.Closed (entF L[i]).Delta.Fuel (entF L[i]).Delta.Stack (entF L[i]).Delta.Put (entF L[i]).Delta.Drop) (Z5.mk (entF M[i]).Delta.Default (entF M[i]).Delta.Closed (entF M[i]).Delta.Fuel (entF M[i]).Delta.Stack (entF M[i]).Delta.Put (entF M[i]).Delta.Drop) = some (eqv (dltF L[i].Delta) (dltF M[i].Delta)) :=
   Zx2 (dltF L[i].Delta) (dltF M[i].Delta) s1 s2
  apply Zcb
  unfold Z6D Z88 Z87 Z4k
  rw [q8_, if_pos (ZY (by omega)), g1, g2, Z6f hi, Z6f hj, Z9J]
  simp only [ZV]
  show (if (L[i].View != M[i].View) = true then some false else if (L[i].Client != M[i].Client) = true then some false else if (L[i].Request != M[i].Request) = true then some false else _) = _
  by_cases c1 : L[i].View = M[i].View
  case neg => rw [if_pos (Z4L c1), Z1x fun k => c1 (hab.1 k).1]; rfl
  rw [if_neg (Z4K c1)]
  by_cases c2 : L[i].Client = M[i].Client
  case neg => rw [if_pos (Z4L c2), Z1x fun k => c2 (hab.1 k).2.1]; rfl
  rw [if_neg (Z4K c2)]
  by_cases c3 : L[i].Request = M[i].Request
  case neg => rw [if_pos (Z4L c3), Z1x fun k => c3 (hab.1 k).2.2.1]; rfl
  rw [if_neg (Z4K c3), hsd, ZV]
  by_cases c4 : dltF L[i].Delta = dltF M[i].Delta
  case neg => rw [Z1x c4, if_pos (by rfl), Z1x fun k => c4 (hab.1 k).2.2.2]; rfl
  rw [Z2p c4, if_neg (by simp), Z2p (hab.2 ⟨c1, c2, c3, c4⟩), Z6g, wrap_i64 (by omega) (by omega)]
  exact ih (i + 1) (by omega)
theorem Zoz (L M : List Z8) (hs : Sh L) (hl : L.length ≤ 1000000) : Z7f (L.map entF) (M.map entF) = some (eqv L M) := by
 apply ZjO
 unfold Zam Z86
 rw [q8_, q8_]
 by_cases he : L.length = M.length
 ·rw [if_neg (Z4K (by omega))]
  exact ZnW L M hs hl he L.length 0 (by omega)
 ·rw [if_pos (Z4L (by omega)), Z1x fun k => he (congrArg List.length k)]
theorem ZoT {α β : Type} (f : α → β) (l : List α) (i : Nat) (h : i < l.length) : lsl (l.map f) (i : Int) ((i + 1 : Nat) : Int) = some [f l[i]] := by
 unfold lsl
 rw [if_pos (by rw [q8_]; omega), ZkR, ZkR, List.take_succ_eq_append_getElem (by rw [q8_]; exact h), List.drop_append_of_le_length (by rw [Z9f, q8_]; omega), q5_ (by rw [Z9f]; omega), List.getElem_map]
 rfl
theorem Zl4 {s : Z0} (h : OkS s) {i : Nat} (hi : i < s.Commit.toNat) : ∃ hj : i < (Z3U s).length, ∃ hl : i < s.Log.length, (Z3U s)[i] = s.Log[i] := by
 have := h.commit
 refine ⟨by rw [Zfi h]; exact hi, by omega, ?_⟩
 unfold Z3U
 exact List.getElem_take
theorem Zpe {x y : Z0} (hx : OkS x) (hy : OkS y) : ∀ (d i : Nat), i + d = min x.Commit.toNat y.Commit.toNat →
  Z4M (i : Int) (stF x) (stF y) = some (!eqv (((Z3U x).take (min x.Commit.toNat y.Commit.toNat)).drop i) (((Z3U y).take (min x.Commit.toNat y.Commit.toNat)).drop i)) := by
 have hcx := hx.commit
 have hcy := hy.commit
 have hlx := hx.len
 have hly := hy.len
 intro d
 induction d with
 | zero =>
  intro i h
  apply Zbh
  unfold Z5Z Z60
  rw [q5_ (by rw [Z9f]; omega), q5_ (by rw [Z9f]; omega), Z2p rfl]
  show (if decide ((i : Int) < x.Commit) = true then if decide ((i : Int) < y.Commit) = true then _ else some false else some false) = some false
  by_cases c : (i : Int) < x.Commit
  ·rw [if_pos (ZY c), if_neg (ZX (by omega))]
  ·rw [if_neg (ZX c)]
 | succ d ih =>
  intro i h
  obtain ⟨jx, kx, ex⟩ := Zl4 hx (i := i) (by omega)
  obtain ⟨jy, ky, ey⟩ := Zl4 hy (i := i) (by omega)
  have dx : ((Z3U x).take (min x.Commit.toNat y.Commit.toNat)).drop i = x.Log[i] :: ((Z3U x).take (min x.Commit.toNat y.Commit.toNat)).drop (i + 1) := by
   rw [Z6f (by rw [Z9f]; omega), List.getElem_take, ex]
  have dy : ((Z3U y).take (min x.Commit.toNat y.Commit.toNat)).drop i = y.Log[i] :: ((Z3U y).take (min x.Commit.toNat y.Commit.toNat)).drop (i + 1) := by
   rw [Z6f (by rw [Z9f]; omega), List.getElem_take, ey]
  have hsame : Z7f [entF x.Log[i]] [entF y.Log[i]] = some (eqv [x.Log[i]] [y.Log[i]]) := Zoz [x.Log[i]] [y.Log[i]] (fun e he => hx.sh e (by rw [Z8v.1 he]; exact Z82 kx)) (by simp)
  apply Zbh
  unfold Z5Z Z7F Z7E
  rw [dx, dy, Z9J, wrap_i64 (by omega) (by omega), show ((i : Int) + 1) = ((i + 1 : Nat) : Int) by omega]
  show (if decide ((i : Int) < x.Commit) = true then if decide ((i : Int) < y.Commit) = true then (lsl (x.Log.map entF) (i : Int) ((i + 1 : Nat) : Int)).bind (fun a1 => (lsl (y.Log.map entF) (i : Int) ((i + 1 : Nat) : Int)).bind fun a2 => (Z7f a1 a2).bind fun r3 => if (!r3) = true then some true else Z4M ((i + 1 : Nat) : Int) (stF x) (stF y)) else _ else _) = _
  rw [if_pos (ZY (by omega)), if_pos (ZY (by omega)), ZoT _ _ _ kx, ZV, ZoT _ _ _ ky, ZV, hsame, ZV]
  by_cases e : x.Log[i] = y.Log[i]
  ·rw [Z2p (by rw [e]), if_neg (by simp), Z2p e, Z6g]
   exact ih (i + 1) (by omega)
  ·rw [Z1x (a := [x.Log[i]]) (by simpa using e), if_pos (by rfl), Z1x e]
   rfl
theorem Zqv {x y : Z0} (hx : OkS x) (hy : OkS y) : Z6r (stF x) (stF y) = some (!Z8G (Z3U x) (Z3U y)) := by
 apply ZiD
 unfold Z9C
 have key := Zpe hx hy (min x.Commit.toNat y.Commit.toNat) 0 (by omega)
 rw [ZkU, ZkU] at key
 unfold Z8G
 rw [Zfi hx, Zfi hy]
 exact key
theorem ZkY (L : List Z0) (hL : L.length ≤ 1000000) (hok : ∀ s ∈ L, OkS s) (k : Nat) (hk : k < L.length) {r : Int × Int × Bool} (hr : Z4J (L.map stF) (k : Int) = some r) : ∀ (d i : Nat), i + d = k →
  Z69 (L.map stF) (k : Int) (i : Int) = some (match Zf5 (apF L) k d i with | some j => ((j : Int), (k : Int), false) | none => r) := by
 intro d
 induction d with
 | zero =>
  intro i h
  apply Zbf
  unfold Z5Y
  rw [if_neg (ZX (by omega)), hr]
  rfl
 | succ d ih =>
  intro i h
  have hi : i < L.length := by omega
  have g1 : lget (L.map stF) (i : Int) = some (stF L[i]) := by rw [Z18, q7_, q2_ hi]; rfl
  have g2 : lget (L.map stF) (k : Int) = some (stF L[k]) := by rw [Z18, q7_, q2_ hk]; rfl
  have hap : apF L i k = !Z8G (Z3U L[i]) (Z3U L[k]) := by unfold apF; rw [q2_ hi, q2_ hk]
  apply Zbf
  unfold Z5Y Z7C Z7B
  rw [if_pos (ZY (by omega)), g1, ZV, g2, ZV, Zqv (hok _ (Z82 hi)) (hok _ (Z82 hk)), ZV]
  unfold Zf5
  rw [hap]
  cases hb : Z8G (Z3U L[i]) (Z3U L[k]) with
  | true =>
   rw [if_neg (by simp), if_neg (by simp), wrap_i64 (by omega) (by omega)]
   exact ih (i + 1) (by omega)
  | false =>
   rw [if_pos (by rfl), if_pos (by rfl)]
theorem ZkZ (L : List Z0) (hL : L.length ≤ 1000000) (hok : ∀ s ∈ L, OkS s) : ∀ (d k : Nat), k + d = L.length → Z68 (L.map stF) (k : Int) = some (ZaQ (apF L) d k) := by
 intro d
 induction d with
 | zero =>
  intro k h
  apply Zbd
  unfold Z5X Z7D
  rw [q8_, if_neg (ZX (by omega))]
  rfl
 | succ d ih =>
  intro k h
  have hk : k < L.length := by omega
  have hr : Z4J (L.map stF) (k : Int) = some (ZaQ (apF L) d (k + 1)) := by
   unfold Z4J
   rw [wrap_i64 (by omega) (by omega)]
   exact ih (k + 1) (by omega)
  apply Zbd
  unfold Z5X Z7A
  rw [q8_, if_pos (ZY (by omega)), ZaQ]
  exact ZkY L hL hok k hk hr k 0 (by omega)
theorem ZnT (L : List Z0) (hL : L.length ≤ 1000000) (hok : ∀ s ∈ L, OkS s) : Z2I (L.map stF) = some (ZaQ (apF L) L.length 0) := by
 apply ZiC
 unfold Z9B
 exact ZkZ L hL hok L.length 0 (by omega)
theorem Zli (L : List Z0) (hL : L.length ≤ 1000000) (hs : ∀ s ∈ L, Sh s.Log ∧ s.Log.length ≤ 1000000) : ∀ (d i : Nat), i + d = L.length → Z6a (L.map stF) (((L.take i).map Z55).map stF) (i : Int) = some ((Z2K L).map stF) := by
 intro d
 induction d with
 | zero =>
  intro i h
  apply Zbj
  unfold Z61 Z7H
  rw [q8_, if_neg (ZX (by omega)), ZkP (by omega)]
  rfl
 | succ d ih =>
  intro i h
  have hi : i < L.length := by omega
  have g1 : lget (L.map stF) (i : Int) = some (stF L[i]) := by rw [Z18, q7_, q2_ hi]; rfl
  obtain ⟨s1, s2⟩ := hs _ (Z82 hi)
  have key := ih (i + 1) (by omega)
  have e : ((L.take i).map Z55).map stF ++ [stF (Z55 L[i])] = ((L.take (i + 1)).map Z55).map stF := by
   rw [← ZkQ hi, ZhA, ZhA]
   rfl
  have hlen : (((L.take i).map Z55).map stF).length ≤ 1000000000 := by rw [q8_, q8_, Z9f]; omega
  rw [← e] at key
  apply Zbj
  unfold Z61 Z7G Z62
  rw [q8_, if_pos (ZY (by omega)), g1, ZV, ZnX _ s1 s2, ZV]
  cases hr : okSt L[i] with
  | true =>
   have hf : Z55 L[i] = L[i] := by unfold Z55; rw [if_pos hr]
   rw [hf] at key
   rw [if_pos rfl, ZV, Z8s _ _ hlen, ZV, wrap_i64 (by omega) (by omega)]
   exact key
  | false =>
   have hf : Z55 L[i] = zSt := by unfold Z55; rw [if_neg (by simp [hr])]
   rw [hf] at key
   rw [if_neg (by simp), Z8s _ _ hlen, ZV, wrap_i64 (by omega) (by omega)]
   exact key
theorem ZoF (L : List Z0) (hL : L.length ≤ 1000000) (hs : ∀ s ∈ L, Sh s.Log ∧ s.Log.length ≤ 1000000) : ∀ (d i : Nat), i + d = L.length → Z33 ((L.take i).map stF) L (L.length : Int) (i : Int) = some ((Z2K L).map stF) := by
 intro d
 induction d with
 | zero =>
  intro i h
  have hr : Z9F (L.map stF) = some ((Z2K L).map stF) := by
   apply ZiE
   unfold Z9D
   exact Zli L hL hs L.length 0 (by omega)
  apply Z7a
  unfold Z2Y Z45
  rw [if_neg (ZX (by omega)), ZkP (by omega), hr, ZV]
 | succ d ih =>
  intro i h
  have hi : i < L.length := by omega
  obtain ⟨s1, s2⟩ := hs _ (Z82 hi)
  have e : (L.take i).map stF ++ [stF L[i]] = (L.take (i + 1)).map stF := by
   rw [← ZkQ hi, ZhA]
   rfl
  apply Z7a
  unfold Z2Y Z44
  rw [if_pos (ZY (by omega)), Z18, q2_ hi, ZV, Zti _ s1 s2, ZV, Z8s _ _ (by rw [q8_, Z9f]; omega), ZV, wrap_i64 (by omega) (by omega), e]
  exact ih (i + 1) (by omega)
theorem Zql (l : List Z0) (hL : l.length ≤ 1000000) (hs : ∀ s ∈ l, Sh s.Log ∧ s.Log.length ≤ 1000000) : Z1p l = some ((Z2K l).map stF) := by
 apply Zd2
 unfold Z4Q
 exact ZoF l hL hs l.length 0 (by omega)
def SmL (l : List Z8) : Prop := l.length ≤ 70 ∧ ∀ e ∈ l, e.Delta.Put.length ≤ 20 ∧ e.Delta.Drop.length ≤ 20
theorem SmL.sh {l : List Z8} (h : SmL l) : Sh l := fun e he => by have := h.2 e he; omega
theorem Zx5 (l L : List Z8) (n k : Int) (R : List Z4) (hl : R.length ≤ 20) {r : Bool} (hr : Z2e l L n (IntKind.i64.wrap (k + 1)) = some r) : ∀ (m i : Nat), i + m = R.length →
  ∃ r', Z2F l L n k R (R.length : Int) (i : Int) = some r' ∧ (r' = true → r = true) := by
 intro m
 induction m with
 | zero =>
  intro i h
  refine ⟨r, ?_, id⟩
  apply Z4v
  unfold Z2b Z3E
  rw [if_neg (ZX (by omega))]
  exact hr
 | succ m ih =>
  intro i h
  have hi : i < R.length := by omega
  obtain ⟨r', e, he⟩ := ih (i + 1) (by omega)
  by_cases hc : 300 < (R[i].Pattern.size : Int)
  ·refine ⟨false, ?_, by simp⟩
   apply Z4v
   unfold Z2b Z2E
   rw [if_pos (ZY (by omega)), Z18, q2_ hi, ZV, if_pos (ZY hc)]
  ·refine ⟨r', ?_, he⟩
   apply Z4v
   unfold Z2b Z2E Z3D
   rw [if_pos (ZY (by omega)), Z18, q2_ hi, ZV, if_neg (ZX hc), wrap_i64 (by omega) (by omega)]
   exact e
theorem Zx4 (l L : List Z8) (hl : L.length ≤ 9223372036854775807) : ∀ (m i : Nat), i + m = L.length → ∃ r, Z2e l L (L.length : Int) (i : Int) = some r ∧ (r = true → l.length ≤ 70 ∧ ∀ e ∈ L.drop i, e.Delta.Put.length ≤ 20 ∧ e.Delta.Drop.length ≤ 20) := by
 intro m
 induction m with
 | zero =>
  intro i h
  refine ⟨decide ((l.length : Int) ≤ 70), ?_, fun h2 => ⟨by have := of_decide_eq_true h2; omega, by rw [q5_ (by omega)]; simp⟩⟩
  apply Z3a
  unfold Z1Q Z3F
  rw [if_neg (ZX (by omega))]
 | succ m ih =>
  intro i h
  have hi : i < L.length := by omega
  obtain ⟨r, e, he⟩ := ih (i + 1) (by omega)
  by_cases c1 : 20 < (L[i].Delta.Put.length : Int)
  ·refine ⟨false, ?_, by simp⟩
   apply Z3a
   unfold Z1Q Z2c Z2d
   rw [if_pos (ZY (by omega)), Z18, q2_ hi, ZV, if_pos (ZY c1)]
  by_cases c2 : 20 < (L[i].Delta.Drop.length : Int)
  ·refine ⟨false, ?_, by simp⟩
   apply Z3a
   unfold Z1Q Z2c Z2d
   rw [if_pos (ZY (by omega)), Z18, q2_ hi, ZV, if_neg (ZX c1), if_pos (ZY c2)]
  obtain ⟨r', e', he'⟩ := Zx5 l L L.length i L[i].Delta.Put (by omega) (r := r) (by rw [wrap_i64 (by omega) (by omega)]; exact e) L[i].Delta.Put.length 0 (by omega)
  refine ⟨r', ?_, fun hr => ?_⟩
  ·apply Z3a
   unfold Z1Q Z2c Z3S
   rw [if_pos (ZY (by omega)), Z18, q2_ hi, ZV, if_neg (ZX c1), if_neg (ZX c2)]
   exact e'
  ·obtain ⟨h1, h2⟩ := he (he' hr)
   refine ⟨h1, fun x hx => ?_⟩
   rw [Z6f hi] at hx
   rcases Z6X.1 hx with rfl | hx
   ·omega
   ·exact h2 x hx
theorem Zl0 (s : Z0) (hl : s.Log.length ≤ 9223372036854775807) : ∃ b, Z4b s = some b ∧ (b = true → SmL s.Log) := by
 obtain ⟨r, e, he⟩ := Zx4 s.Log s.Log hl s.Log.length 0 (by omega)
 have h : Z4E s.Log = some r := Zcw _ (by unfold Z4z; exact e)
 refine ⟨r, Zbr _ (by unfold Z48; rw [h, ZV]), fun hr => ?_⟩
 have := he hr
 rw [ZkU] at this
 exact this
theorem Zqi (l L : List Z0) (hl : L.length ≤ 9223372036854775807) (hs : ∀ s ∈ L, s.Log.length ≤ 9223372036854775807) : ∀ (d i : Nat), i + d = L.length → ∃ r, Z3g l L (L.length : Int) (i : Int) = some r ∧ (r = true → l.length ≤ 9 ∧ ∀ s ∈ L.drop i, SmL s.Log) := by
 intro d
 induction d with
 | zero =>
  intro i h
  refine ⟨decide ((l.length : Int) ≤ 9), ?_, fun h2 => ⟨by have := of_decide_eq_true h2; omega, by rw [q5_ (by omega)]; simp⟩⟩
  apply Z2A
  unfold Z1O Z4h
  rw [if_neg (ZX (by omega))]
 | succ d ih =>
  intro i h
  have hi : i < L.length := by omega
  obtain ⟨r, e, he⟩ := ih (i + 1) (by omega)
  obtain ⟨b, hb, hb2⟩ := Zl0 L[i] (hs _ (Z82 hi))
  have r6 : Z2u l L (L.length : Int) (i : Int) = some r := by
   unfold Z2u
   rw [wrap_i64 (by omega) (by omega)]
   exact e
  cases b with
  | false =>
   refine ⟨false, ?_, by simp⟩
   apply Z2A
   unfold Z1O Z22 Z2t
   rw [if_pos (ZY (by omega)), Z18, q2_ hi, ZV, hb, ZV, if_pos (by rfl)]
  | true =>
   have fin : r = true → l.length ≤ 9 ∧ ∀ s ∈ L.drop i, SmL s.Log := by
    intro hr
    obtain ⟨h1, h2⟩ := he hr
    refine ⟨h1, fun x hx => ?_⟩
    rw [Z6f hi] at hx
    rcases Z6X.1 hx with rfl | hx
    ·exact hb2 rfl
    ·exact h2 x hx
   by_cases c1 : 10 < (L[i].Log.length : Int)
   ·by_cases c2 : (L[i].Log.length : Int) ≤ 64
    ·refine ⟨false, ?_, by simp⟩
     apply Z2A
     unfold Z1O Z22 Z2t
     rw [if_pos (ZY (by omega)), Z18, q2_ hi, ZV, hb, ZV, if_neg (by simp), if_pos (ZY c1), if_pos (ZY c2)]
    ·refine ⟨r, ?_, fin⟩
     apply Z2A
     unfold Z1O Z22
     rw [if_pos (ZY (by omega)), Z18, q2_ hi, ZV, hb, ZV, if_neg (by simp), if_pos (ZY c1), if_neg (ZX c2)]
     exact r6
   ·refine ⟨r, ?_, fin⟩
    apply Z2A
    unfold Z1O Z22
    rw [if_pos (ZY (by omega)), Z18, q2_ hi, ZV, hb, ZV, if_neg (by simp), if_neg (ZX c1)]
    exact r6
theorem Ztg (l : List Z0) (hl : l.length ≤ 9223372036854775807) (hs : ∀ s ∈ l, s.Log.length ≤ 9223372036854775807) : ∃ b, Z1u l = some b ∧ (b = true → l.length ≤ 9 ∧ ∀ s ∈ l, SmL s.Log) := by
 obtain ⟨r, e, he⟩ := Zqi l l hl hs l.length 0 (by omega)
 exact ⟨r, Zdt _ (by unfold Z5g; exact e), fun hr => by have := he hr; rw [ZkU] at this; exact this⟩
theorem Zpc (l : List Z0) (h1 : l.length ≤ 9) (h2 : ∀ s ∈ l, SmL s.Log) : ∃ r m, Z2f l = some r ∧ Z1p l = some m ∧ Z2I m = some r := by
 refine ⟨_, _, Zl3 l (by omega), Zql l (by omega) (fun s hs => ⟨(h2 s hs).sh, by have := (h2 s hs).1; omega⟩), ?_⟩
 have := ZnT (Z2K l) (by rw [Z8V]; omega) Ze6
 rw [Z8V] at this
 exact this
end Go.Proofs.YtiigbcahdaoedaaGreatDoor.N2
end
