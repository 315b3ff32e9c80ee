/- The reference's answer is the program's. No condition. -/
import Derived.Test.YtiigbcahdaoedaaGreatDoorPlA

set_option linter.unusedSimpArgs false
set_option linter.unusedVariables false
set_option linter.defProp false
section
namespace Go.Proofs.YtiigbcahdaoedaaGreatDoor.N2
open Go Go.Abs
set_option maxRecDepth 100000
theorem Zv7 (a b : Za) (hl : a.Drop.length ≤ 1000000) (he : a.Drop.length = b.Drop.length) : ∀ (d i : Nat), i + d = a.Drop.length → Z5Q (i : Int) a b = some (eqv (a.Drop.drop i) (b.Drop.drop i)) := by
 intro d
 induction d with
 | zero =>
  intro i h
  apply ZbK
  unfold Z5L Z7c
  rw [if_neg (Z10 (by omega)), q5_ (by omega), q5_ (by omega), Z2k rfl]
 | succ d ih =>
  intro i h
  have hi : i < a.Drop.length := by omega
  have hj : i < b.Drop.length := by omega
  apply ZbK
  unfold Z5L Z7b Z7a
  rw [if_pos (Z12 (by omega)), Z1o, Z1o, q2_ hi, q2_ hj, ZY, ZY, Z6w hi, Z6w hj, ZcE]
  by_cases e : a.Drop[i] = b.Drop[i]
  ·rw [if_neg (Z4y e), Z2k e, Z85, wrap_i64 (by omega) (by omega)]
   exact ih (i + 1) (by omega)
  ·rw [if_pos (Z4z e), Z1O e]
   rfl
theorem Zxk (a b : Za) (hp : a.Put.length ≤ 1000000) (hl : a.Drop.length ≤ 1000000) (hpe : a.Put.length = b.Put.length) (he : a.Drop.length = b.Drop.length) : ∀ (d i : Nat), i + d = a.Put.length →
  Z4B (i : Int) a b = some (eqv (a.Put.drop i) (b.Put.drop i) && eqv a.Drop b.Drop) := by
 intro d
 induction d with
 | zero =>
  intro i h
  apply ZbI
  unfold Z5K Z7U
  rw [if_neg (Z10 (by omega)), q5_ (by omega), q5_ (by omega), Z2k rfl, Z85]
  exact Zv7 a b hl he a.Drop.length 0 (by omega)
 | succ d ih =>
  intro i h
  have hi : i < a.Put.length := by omega
  have hj : i < b.Put.length := by omega
  have hq := Zvh a.Put[i] b.Put[i]
  unfold eqR at hq
  apply ZbI
  unfold Z5K Z7T Z7S
  rw [if_pos (Z12 (by omega)), Z1o, Z1o, q2_ hi, q2_ hj, ZY, ZY, Z6w hi, Z6w hj, ZcE, hq]
  by_cases e : a.Put[i] = b.Put[i]
  ·rw [Z2k e, if_neg (by simp), Z85, wrap_i64 (by omega) (by omega)]
   exact ih (i + 1) (by omega)
  ·rw [Z1O e, if_pos (by rfl)]
   rfl
theorem ZFp (a b : Za) (hp : a.Put.length ≤ 1000000) (hl : a.Drop.length ≤ 1000000) : Z7A a b = some (eqv a b) := by
 have hab : a = b ↔ a.Default = b.Default ∧ a.Closed = b.Closed ∧ a.Fuel = b.Fuel ∧ a.Stack = b.Stack ∧ a.Put = b.Put ∧ a.Drop = b.Drop := by
  cases a; cases b; simp
 apply Zk3
 unfold Z9D Z2v Z7R
 by_cases c1 : a.Default = b.Default
 case neg => rw [if_pos (Z4z c1), Z1O fun k => c1 (hab.1 k).1]
 rw [if_neg (Z4y c1)]
 by_cases c2 : a.Closed = b.Closed
 case neg => rw [if_pos (Z4z c2), Z1O fun k => c2 (hab.1 k).2.1]
 rw [if_neg (Z4y c2)]
 by_cases c3 : a.Fuel = b.Fuel
 case neg => rw [if_pos (Z4z c3), Z1O fun k => c3 (hab.1 k).2.2.1]
 rw [if_neg (Z4y c3)]
 by_cases c4 : a.Stack = b.Stack
 case neg => rw [if_pos (Z4z c4), Z1O fun k => c4 (hab.1 k).2.2.2.1]
 rw [if_neg (Z4y c4)]
 by_cases c5 : a.Put.length = b.Put.length
 case neg => rw [if_pos (Z4z (by omega)), Z1O fun k => c5 (congrArg List.length (hab.1 k).2.2.2.2.1)]
 rw [if_neg (Z4y (by omega))]
 by_cases c6 : a.Drop.length = b.Drop.length
 case neg => rw [if_pos (Z4z (by omega)), Z1O fun k => c6 (congrArg List.length (hab.1 k).2.2.2.2.2)]
 rw [if_neg (Z4y (by omega))]
 have key := Zxk a b hp hl c5 c6 a.Put.length 0 (by omega)
 have key : Z4B 0 a b = some (eqv a.Put b.Put && eqv a.Drop b.Drop) := key
 rw [key]
 congr 1
 by_cases c7 : a.Put = b.Put
 case neg => rw [Z1O c7, Z1O fun k => c7 (hab.1 k).2.2.2.2.1]; rfl
 rw [Z2k c7, Z85]
 exact Zoh ⟨fun h => hab.2 ⟨c1, c2, c3, c4, c7, h⟩, fun h => (hab.1 h).2.2.2.2.2⟩
theorem Zuo (L M : List Z3) (hs : Sh L) (hl : L.length ≤ 1000000) (he : L.length = M.length) : ∀ (d i : Nat), i + d = L.length → Z9j (L.map entF) (M.map entF) (i : Int) = some (eqv (L.drop i) (M.drop i)) := by
 intro d
 induction d with
 | zero =>
  intro i h
  apply ZfJ
  unfold Z96 ZaM
  rw [q8_, if_neg (Z10 (by omega)), q5_ (by omega), q5_ (by omega), Z2k rfl]
 | succ d ih =>
  intro i h
  have hi : i < L.length := by omega
  have hj : i < M.length := by omega
  obtain ⟨s1, s2⟩ := hs L[i] (Z8S hi)
  have g1 : lget (L.map entF) (i : Int) = some (entF L[i]) := by rw [Z1o, q7_, q2_ hi]; rfl
  have g2 : lget (M.map entF) (i : Int) = some (entF M[i]) := by rw [Z1o, q7_, q2_ hj]; rfl
  have hab : L[i] = M[i] ↔ L[i].View = M[i].View ∧ L[i].Client = M[i].Client ∧ L[i].Request = M[i].Request ∧ dltF L[i].Delta = dltF M[i].Delta := by
   constructor
   ·intro h; rw [h]; exact ⟨rfl, rfl, rfl, rfl⟩
   ·rintro ⟨h1, h2, h3, h4⟩
    refine ZB8 ?_
    unfold entF
    rw [h1, h2, h3, h4]
  have hsd : Z7A (Za.mk (entF L[i]).Delta.Default (entF L[i]).Delta.Closed (entF L[i]).Delta.Fuel (entF L[i]).Delta.Stack (entF L[i]).Delta.Put (entF L[i]).Delta.Drop) (Za.mk (entF M[i]).Delta.Default (entF M[i]).Delta.Closed (entF M[i]).Delta.Fuel (entF M[i]).Delta.Stack (entF M[i]).Delta.Put (entF M[i]).Delta.Drop) = some (eqv (dltF L[i].Delta) (dltF M[i].Delta)) :=
   ZFp (dltF L[i].Delta) (dltF M[i].Delta) s1 s2
  apply ZfJ
  unfold Z96 ZaL ZaK Z5M
  rw [q8_, if_pos (Z12 (by omega)), g1, g2, Z6w hi, Z6w hj, ZcE]
  simp only [ZY]
  show (if (L[i].View != M[i].View) = true then some false else if (L[i].Client != M[i].Client) = true then some false else if (L[i].Request != M[i].Request) = true then some false else _) = _
  by_cases c1 : L[i].View = M[i].View
  case neg => rw [if_pos (Z4z c1), Z1O fun k => c1 (hab.1 k).1]; rfl
  rw [if_neg (Z4y c1)]
  by_cases c2 : L[i].Client = M[i].Client
  case neg => rw [if_pos (Z4z c2), Z1O fun k => c2 (hab.1 k).2.1]; rfl
  rw [if_neg (Z4y c2)]
  by_cases c3 : L[i].Request = M[i].Request
  case neg => rw [if_pos (Z4z c3), Z1O fun k => c3 (hab.1 k).2.2.1]; rfl
  rw [if_neg (Z4y c3), hsd, ZY]
  by_cases c4 : dltF L[i].Delta = dltF M[i].Delta
  case neg => rw [Z1O c4, if_pos (by rfl), Z1O fun k => c4 (hab.1 k).2.2.2]; rfl
  rw [Z2k c4, if_neg (by simp), Z2k (hab.2 ⟨c1, c2, c3, c4⟩), Z85, wrap_i64 (by omega) (by omega)]
  exact ih (i + 1) (by omega)
theorem Zno (L M : List Z3) (hs : Sh L) (hl : L.length ≤ 1000000) : Z8v (L.map entF) (M.map entF) = some (eqv L M) := by
 apply Zpn
 unfold Zdt ZaJ
 rw [q8_, q8_]
 by_cases he : L.length = M.length
 ·rw [if_neg (Z4y (by omega))]
  exact Zuo L M hs hl he L.length 0 (by omega)
 ·rw [if_pos (Z4z (by omega)), Z1O fun k => he (congrArg List.length k)]
theorem ZmR {α β : Type} (f : α → β) (l : List α) (i : Nat) (h : i < l.length) : lsl (l.map f) (i : Int) ((i + 1 : Nat) : Int) = some [f l[i]] := by
 unfold lsl
 rw [if_pos (by rw [q8_]; omega), Zhv, Zhv, Zx9 (by rw [q8_]; exact h), List.drop_append_of_le_length (by rw [ZaD, q8_]; omega), q5_ (by rw [ZaD]; omega), List.getElem_map]
 rfl
theorem ZqQ {s : Z0} (h : OkS s) {i : Nat} (hi : i < s.Commit.toNat) : ∃ hj : i < (Z3C s).length, ∃ hl : i < s.Log.length, (Z3C s)[i] = s.Log[i] := by
 have := h.commit
 refine ⟨by rw [Z9q h]; exact hi, by omega, ?_⟩
 unfold Z3C
 exact List.getElem_take
theorem ZvJ {x y : Z0} (hx : OkS x) (hy : OkS y) : ∀ (d i : Nat), i + d = min x.Commit.toNat y.Commit.toNat →
  Z6u (i : Int) (stF x) (stF y) = some (!eqv (((Z3C x).take (min x.Commit.toNat y.Commit.toNat)).drop i) (((Z3C y).take (min x.Commit.toNat y.Commit.toNat)).drop i)) := by
 have hcx := hx.commit
 have hcy := hy.commit
 have hlx := hx.len
 have hly := hy.len
 intro d
 induction d with
 | zero =>
  intro i h
  apply ZeD
  unfold Z8j Z8k
  rw [q5_ (by rw [ZaD]; omega), q5_ (by rw [ZaD]; omega), Z2k rfl]
  show (if decide ((i : Int) < x.Commit) = true then if decide ((i : Int) < y.Commit) = true then _ else some false else some false) = some false
  by_cases c : (i : Int) < x.Commit
  ·rw [if_pos (Z12 c), if_neg (Z10 (by omega))]
  ·rw [if_neg (Z10 c)]
 | succ d ih =>
  intro i h
  obtain ⟨jx, kx, ex⟩ := ZqQ hx (i := i) (by omega)
  obtain ⟨jy, ky, ey⟩ := ZqQ hy (i := i) (by omega)
  have dx : ((Z3C x).take (min x.Commit.toNat y.Commit.toNat)).drop i = x.Log[i] :: ((Z3C x).take (min x.Commit.toNat y.Commit.toNat)).drop (i + 1) := by
   rw [Z6w (by rw [ZaD]; omega), List.getElem_take, ex]
  have dy : ((Z3C y).take (min x.Commit.toNat y.Commit.toNat)).drop i = y.Log[i] :: ((Z3C y).take (min x.Commit.toNat y.Commit.toNat)).drop (i + 1) := by
   rw [Z6w (by rw [ZaD]; omega), List.getElem_take, ey]
  have hsame : Z8v [entF x.Log[i]] [entF y.Log[i]] = some (eqv [x.Log[i]] [y.Log[i]]) := Zno [x.Log[i]] [y.Log[i]] (fun e he => hx.sh e (by rw [Z9S.1 he]; exact Z8S kx)) (by simp)
  apply ZeD
  unfold Z8j Zac Zab
  rw [dx, dy, ZcE, wrap_i64 (by omega) (by omega), show ((i : Int) + 1) = ((i + 1 : Nat) : Int) by omega]
  show (if decide ((i : Int) < x.Commit) = true then if decide ((i : Int) < y.Commit) = true then (lsl (x.Log.map entF) (i : Int) ((i + 1 : Nat) : Int)).bind (fun a1 => (lsl (y.Log.map entF) (i : Int) ((i + 1 : Nat) : Int)).bind fun a2 => (Z8v a1 a2).bind fun r3 => if (!r3) = true then some true else Z6u ((i + 1 : Nat) : Int) (stF x) (stF y)) else _ else _) = _
  rw [if_pos (Z12 (by omega)), if_pos (Z12 (by omega)), ZmR _ _ _ kx, ZY, ZmR _ _ _ ky, ZY, hsame, ZY]
  by_cases e : x.Log[i] = y.Log[i]
  ·rw [Z2k (by rw [e]), if_neg (by simp), Z2k e, Z85]
   exact ih (i + 1) (by omega)
  ·rw [Z1O (a := [x.Log[i]]) (by simpa using e), if_pos (by rfl), Z1O e]
   rfl
theorem Zxv {x y : Z0} (hx : OkS x) (hy : OkS y) : Z3v (stF x) (stF y) = some (!Z7h (Z3C x) (Z3C y)) := by
 apply ZnH
 unfold Zcv
 have key := ZvJ hx hy (min x.Commit.toNat y.Commit.toNat) 0 (by omega)
 rw [Zkr, Zkr] at key
 unfold Z7h
 rw [Z9q hx, Z9q hy]
 exact key
theorem Zr7 (L : List Z0) (hL : L.length ≤ 1000000) (hs : ∀ s ∈ L, Sh s.Log ∧ s.Log.length ≤ 1000000) : ∀ (d i : Nat), i + d = L.length → Z8w (L.map stF) (((L.take i).map Z1b).map stF) (i : Int) = some ((Z2r L).map stF) := by
 intro d
 induction d with
 | zero =>
  intro i h
  apply ZeF
  unfold Z8l Zae
  rw [q8_, if_neg (Z10 (by omega)), Zmj (by omega)]
  rfl
 | succ d ih =>
  intro i h
  have hi : i < L.length := by omega
  have g1 : lget (L.map stF) (i : Int) = some (stF L[i]) := by rw [Z1o, q7_, q2_ hi]; rfl
  obtain ⟨s1, s2⟩ := hs _ (Z8S hi)
  have key := ih (i + 1) (by omega)
  have e : ((L.take i).map Z1b).map stF ++ [stF (Z1b L[i])] = ((L.take (i + 1)).map Z1b).map stF := by
   rw [← ZnV hi, Zmo, Zmo]
   rfl
  have hlen : (((L.take i).map Z1b).map stF).length ≤ 1000000000 := by rw [q8_, q8_, ZaD]; omega
  rw [← e] at key
  apply ZeF
  unfold Z8l Zad Z8m
  rw [q8_, if_pos (Z12 (by omega)), g1, ZY, Zuq _ s1 s2, ZY]
  cases hr : okSt L[i] with
  | true =>
   have hf : Z1b L[i] = L[i] := by unfold Z1b; rw [if_pos hr]
   rw [hf] at key
   rw [if_pos rfl, ZY, Z5k _ _ hlen, ZY, wrap_i64 (by omega) (by omega)]
   exact key
  | false =>
   have hf : Z1b L[i] = zSt := by unfold Z1b; rw [if_neg (by simp [hr])]
   rw [hf] at key
   rw [if_neg (by simp), Z5k _ _ hlen, ZY, wrap_i64 (by omega) (by omega)]
   exact key
theorem Zvb (L : List Z0) (hL : L.length ≤ 1000000) (hs : ∀ s ∈ L, Sh s.Log ∧ s.Log.length ≤ 1000000) : ∀ (d i : Nat), i + d = L.length → Z3W ((L.take i).map stF) L (L.length : Int) (i : Int) = some ((Z2r L).map stF) := by
 intro d
 induction d with
 | zero =>
  intro i h
  have hr : Zcz (L.map stF) = some ((Z2r L).map stF) := by
   apply ZnI
   unfold Zcw
   exact Zr7 L hL hs L.length 0 (by omega)
  apply Z9M
  unfold Z3R Z5t
  rw [if_neg (Z10 (by omega)), Zmj (by omega), hr, ZY]
 | succ d ih =>
  intro i h
  have hi : i < L.length := by omega
  obtain ⟨s1, s2⟩ := hs _ (Z8S hi)
  have e : (L.take i).map stF ++ [stF L[i]] = (L.take (i + 1)).map stF := by
   rw [← ZnV hi, Zmo]
   rfl
  apply Z9M
  unfold Z3R Z5s
  rw [if_pos (Z12 (by omega)), Z1o, q2_ hi, ZY, ZAS _ s1 s2, ZY, Z5k _ _ (by rw [q8_, ZaD]; omega), ZY, wrap_i64 (by omega) (by omega), e]
  exact ih (i + 1) (by omega)
theorem Zkz (l : List Z0) (hL : l.length ≤ 1000000) (hs : ∀ s ∈ l, Sh s.Log ∧ s.Log.length ≤ 1000000) : Z1B l = some ((Z2r l).map stF) := by
 apply ZgD
 unfold Z6B
 exact Zvb l hL hs l.length 0 (by omega)
def SmL (l : List Z3) : Prop := l.length ≤ 70 ∧ ∀ e ∈ l, e.Delta.Put.length ≤ 20 ∧ e.Delta.Drop.length ≤ 20
theorem SmL.sh {l : List Z3} (h : SmL l) : Sh l := fun e he => by have := h.2 e he; omega
theorem ZFs (l L : List Z3) (n k : Int) (R : List Z9) (hl : R.length ≤ 20) {r : Bool} (hr : Z2R l L n (IntKind.i64.wrap (k + 1)) = some r) : ∀ (m i : Nat), i + m = R.length →
  ∃ r', Z3s l L n k R (R.length : Int) (i : Int) = some r' ∧ (r' = true → r = true) := by
 intro m
 induction m with
 | zero =>
  intro i h
  refine ⟨r, ?_, id⟩
  apply Z65
  unfold Z2O Z4P
  rw [if_neg (Z10 (by omega))]
  exact hr
 | succ m ih =>
  intro i h
  have hi : i < R.length := by omega
  obtain ⟨r', e, he⟩ := ih (i + 1) (by omega)
  by_cases hc : 300 < (R[i].Pattern.size : Int)
  ·refine ⟨false, ?_, by simp⟩
   apply Z65
   unfold Z2O Z3r
   rw [if_pos (Z12 (by omega)), Z1o, q2_ hi, ZY, if_pos (Z12 hc)]
  ·refine ⟨r', ?_, he⟩
   apply Z65
   unfold Z2O Z3r Z4O
   rw [if_pos (Z12 (by omega)), Z1o, q2_ hi, ZY, if_neg (Z10 hc), wrap_i64 (by omega) (by omega)]
   exact e
theorem ZFr (l L : List Z3) (hl : L.length ≤ 9223372036854775807) : ∀ (m i : Nat), i + m = L.length → ∃ r, Z2R l L (L.length : Int) (i : Int) = some r ∧ (r = true → l.length ≤ 70 ∧ ∀ e ∈ L.drop i, e.Delta.Put.length ≤ 20 ∧ e.Delta.Drop.length ≤ 20) := by
 intro m
 induction m with
 | zero =>
  intro i h
  refine ⟨decide ((l.length : Int) ≤ 70), ?_, fun h2 => ⟨by have := of_decide_eq_true h2; omega, by rw [q5_ (by omega)]; simp⟩⟩
  apply Z49
  unfold Z2n Z4Q
  rw [if_neg (Z10 (by omega))]
 | succ m ih =>
  intro i h
  have hi : i < L.length := by omega
  obtain ⟨r, e, he⟩ := ih (i + 1) (by omega)
  by_cases c1 : 20 < (L[i].Delta.Put.length : Int)
  ·refine ⟨false, ?_, by simp⟩
   apply Z49
   unfold Z2n Z2P Z2Q
   rw [if_pos (Z12 (by omega)), Z1o, q2_ hi, ZY, if_pos (Z12 c1)]
  by_cases c2 : 20 < (L[i].Delta.Drop.length : Int)
  ·refine ⟨false, ?_, by simp⟩
   apply Z49
   unfold Z2n Z2P Z2Q
   rw [if_pos (Z12 (by omega)), Z1o, q2_ hi, ZY, if_neg (Z10 c1), if_pos (Z12 c2)]
  obtain ⟨r', e', he'⟩ := ZFs l L L.length i L[i].Delta.Put (by omega) (r := r) (by rw [wrap_i64 (by omega) (by omega)]; exact e) L[i].Delta.Put.length 0 (by omega)
  refine ⟨r', ?_, fun hr => ?_⟩
  ·apply Z49
   unfold Z2n Z2P Z5c
   rw [if_pos (Z12 (by omega)), Z1o, q2_ hi, ZY, if_neg (Z10 c1), if_neg (Z10 c2)]
   exact e'
  ·obtain ⟨h1, h2⟩ := he (he' hr)
   refine ⟨h1, fun x hx => ?_⟩
   rw [Z6w hi] at hx
   rcases Z8T.1 hx with rfl | hx
   ·omega
   ·exact h2 x hx
theorem ZqL (s : Z0) (hl : s.Log.length ≤ 9223372036854775807) : ∃ b, Z5A s = some b ∧ (b = true → SmL s.Log) := by
 obtain ⟨r, e, he⟩ := ZFr s.Log s.Log hl s.Log.length 0 (by omega)
 have h : Z6i s.Log = some r := Zg5 _ (by unfold Z69; exact e)
 refine ⟨r, ZeQ _ (by unfold Z5w; rw [h, ZY]), fun hr => ?_⟩
 have := he hr
 rw [Zkr] at this
 exact this
theorem Zxl (l L : List Z0) (hl : L.length ≤ 9223372036854775807) (hs : ∀ s ∈ L, s.Log.length ≤ 9223372036854775807) : ∀ (d i : Nat), i + d = L.length → ∃ r, Z4g l L (L.length : Int) (i : Int) = some r ∧ (r = true → l.length ≤ 9 ∧ ∀ s ∈ L.drop i, SmL s.Log) := by
 intro d
 induction d with
 | zero =>
  intro i h
  refine ⟨decide ((l.length : Int) ≤ 9), ?_, fun h2 => ⟨by have := of_decide_eq_true h2; omega, by rw [q5_ (by omega)]; simp⟩⟩
  apply Z3l
  unfold Z2i Z5F
  rw [if_neg (Z10 (by omega))]
 | succ d ih =>
  intro i h
  have hi : i < L.length := by omega
  obtain ⟨r, e, he⟩ := ih (i + 1) (by omega)
  obtain ⟨b, hb, hb2⟩ := ZqL L[i] (hs _ (Z8S hi))
  have r6 : Z3a l L (L.length : Int) (i : Int) = some r := by
   unfold Z3a
   rw [wrap_i64 (by omega) (by omega)]
   exact e
  cases b with
  | false =>
   refine ⟨false, ?_, by simp⟩
   apply Z3l
   unfold Z2i Z2D Z39
   rw [if_pos (Z12 (by omega)), Z1o, q2_ hi, ZY, hb, ZY, if_pos (by rfl)]
  | true =>
   have fin : r = true → l.length ≤ 9 ∧ ∀ s ∈ L.drop i, SmL s.Log := by
    intro hr
    obtain ⟨h1, h2⟩ := he hr
    refine ⟨h1, fun x hx => ?_⟩
    rw [Z6w hi] at hx
    rcases Z8T.1 hx with rfl | hx
    ·exact hb2 rfl
    ·exact h2 x hx
   by_cases c1 : 10 < (L[i].Log.length : Int)
   ·by_cases c2 : (L[i].Log.length : Int) ≤ 64
    ·refine ⟨false, ?_, by simp⟩
     apply Z3l
     unfold Z2i Z2D Z39
     rw [if_pos (Z12 (by omega)), Z1o, q2_ hi, ZY, hb, ZY, if_neg (by simp), if_pos (Z12 c1), if_pos (Z12 c2)]
    ·refine ⟨r, ?_, fin⟩
     apply Z3l
     unfold Z2i Z2D
     rw [if_pos (Z12 (by omega)), Z1o, q2_ hi, ZY, hb, ZY, if_neg (by simp), if_pos (Z12 c1), if_neg (Z10 c2)]
     exact r6
   ·refine ⟨r, ?_, fin⟩
    apply Z3l
    unfold Z2i Z2D
    rw [if_pos (Z12 (by omega)), Z1o, q2_ hi, ZY, hb, ZY, if_neg (by simp), if_neg (Z10 c1)]
    exact r6
theorem ZAQ (l : List Z0) (hl : l.length ≤ 9223372036854775807) (hs : ∀ s ∈ l, s.Log.length ≤ 9223372036854775807) : ∃ b, Z1u l = some b ∧ (b = true → l.length ≤ 9 ∧ ∀ s ∈ l, SmL s.Log) := by
 obtain ⟨r, e, he⟩ := Zxl l l hl hs l.length 0 (by omega)
 exact ⟨r, Zh6 _ (by unfold Z79; exact e), fun hr => by have := he hr; rw [Zkr] at this; exact this⟩
theorem Zoc {a b : List Z3} (h : a.length ≤ b.length) : Z7h a b = true ↔ a <+: b := by
 unfold Z7h
 rw [ZpX, Nat.min_eq_left h, List.take_length, List.prefix_iff_eq_take]
theorem ZwY (a b c : Z0) (h1 : Z1P a b = some true) (h2 : Z1P b c = some true) : Z1P a c = some true := by
 rw [Zkg] at h1 h2 ⊢
 simp only [q1_, q9_, decide_eq_true_eq] at h1 h2 ⊢
 obtain ⟨v1, n1, c1, b1⟩ := h1
 obtain ⟨v2, n2, c2, b2⟩ := h2
 have la := Z9q (Zaw a)
 have lb := Z9q (Zaw b)
 have lc := Z9q (Zaw c)
 refine ⟨by omega, by omega, by omega, ?_⟩
 rw [Zoc (by omega)] at b1 b2 ⊢
 exact b1.trans b2
end Go.Proofs.YtiigbcahdaoedaaGreatDoor.N2
end
