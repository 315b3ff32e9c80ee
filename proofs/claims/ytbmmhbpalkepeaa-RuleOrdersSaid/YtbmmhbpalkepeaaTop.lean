/- Both evaluators are sound; the law in plain words. No condition. -/
import Derived.Test.YtbmmhbpalkepeaaExt
import Derived.Test.YtbmmhbpalkepeaaUp
import Derived.Test.YtbmmhbpalkepeaaPlain

set_option linter.unusedSimpArgs false
set_option linter.unusedVariables false
set_option linter.defProp false
section
namespace Go.Proofs.Ytbmmhbpalkepeaa
open Go Go.Abs Go.RowKit
theorem mixed : Try.prog.follows .mixedOrders = true := by kernel_rfl
abbrev Any : Inv := fun _ _ => True
theorem Any.pers : Pers Any := fun _ _ _ _ _ _ => trivial
namespace N2
theorem ZfC : Z8n Try.prog Any XX := by
 intro f m hm args B r h w S β vals _ he
 unfold XX at hm
 split at hm
 ·rename_i hf
  subst hf
  simp only [ZO] at hm
  subst hm
  exact Zds h w S β vals he
 ·split at hm
  ·simp only [ZO] at hm
   subst hm
   simp [ZdZ] at h
  ·simp at hm
theorem progOk : Go.Abs.progOk PP XX HH = true := by kernel_rfl
theorem fspec : Z2n PP Any EE := Zdt Any.pers mixed ZfC progOk
end N2
namespace N3
theorem Zkm : Plain Try.prog 23 := ⟨Try.f23, Try.func23, by kernel_rfl, by kernel_rfl⟩
theorem ZfQ {w W : World} {S : Stay} {β : Nat → Nat} {args : List AV} {B : List Row} {vals : Array Value} (he : Entry w S β args B vals) (hb : Below w.heap.size w W) {x : PV} {u : Value} (hx : PRel w S x u) (hn : isUn (.p x) = false) : Entry W S (fun _ => 0) [.p x] [] #[u] := by
 have hk : Keeps w S W S := ⟨fun _ _ h => h, fun b o hs => cell_of_heap (hb.block b (he.mem.stay b o hs))⟩
 refine ⟨rfl, ?_, ⟨?_, ?_, ?_, ?_, fun b o hs => Z4T (he.mem.stay b o hs) hb.size, ?_⟩, ⟨?_, ?_⟩⟩
 ·intro i y v h1 h2
  cases i with
  | zero =>
   simp only [Z2m, ZO] at h1
   subst h1
   have : u = v := by simpa using h2
   subst this
   exact .p _ _ (hx.keeps hk)
  | succ i => simp at h1
 ·intro id r h; simp at h
 ·intro id r j y h; simp at h
 ·intro i j hi; simp at hi
 ·intro i hi; simp at hi
 ·intro id r es h; simp at h
 ·intro l y v hl hu
  cases l with
  | slot i =>
   cases i with
   | zero => obtain ⟨h1, _⟩ := hl; simp at h1; subst h1; rw [hn] at hu; simp at hu
   | succ i => obtain ⟨h1, _⟩ := hl; simp at h1
  | box id j => obtain ⟨row, h, _⟩ := hl; simp at h
 ·intro l l' y y' v v' hl _ hu
  cases l with
  | slot i =>
   cases i with
   | zero => obtain ⟨h1, _⟩ := hl; simp at h1; subst h1; rw [hn] at hu; simp at hu
   | succ i => obtain ⟨h1, _⟩ := hl; simp at h1
  | box id j => obtain ⟨row, h, _⟩ := hl; simp at h
theorem Zib {w W : World} {S : Stay} {x : PV} {u v : Value} {r : Res} (hn : isUn (.p x) = false) (hp : Z2D w S (fun _ => 0) [.p x] [] #[u] r (.returned v) W) : Below w.heap.size w W ∧ ∃ S' β', ARel W S' β' r.2.length r.1 v := by
 obtain ⟨S', β', he', hst⟩ := hp
 refine ⟨⟨hst.os, hst.tape, hst.output, hst.size, fun k hk => hst.block k hk (fun i hi => by simp at hi) ?_⟩, S', β', he'.rel 0 _ v rfl rfl⟩
 rintro ⟨l, y, z, hl, hu, _⟩
 cases l with
 | slot i =>
  cases i with
  | zero => obtain ⟨h1, _⟩ := hl; simp at h1; subst h1; rw [hn] at hu; simp at hu
  | succ i => obtain ⟨h1, _⟩ := hl; simp at h1
 | box id j => obtain ⟨row, h, _⟩ := hl; simp at h
theorem Z4X : ∀ {ys : List PV} {R : List (Int × Int)}, Z3D ys = some R → ys.length = R.length ∧ ∀ (i : Nat) (x : Int × Int), R[i]? = some x → ∃ (e : PV) (a b : Int) (s : ByteArray), ys[i]? = some e ∧ Z16 e = [.v (.int .i64 a), .v (.int .i64 x.1), .v (.int .i64 b), .v (.int .i64 x.2), .v (.string s)]
 | [], R, h => by simp [Z3D] at h; subst h; simp
 | e :: r, R, h => by
  simp only [Z3D] at h
  split at h
  ·rename_i hc hl
   simp only [ZO] at h
   subst h
   obtain ⟨h1, h2⟩ := Z4X hl
   refine ⟨by simp [h1], ?_⟩
   intro i x hx
   cases i with
   | zero => simp only [Z2m, ZO] at hx; subst hx; exact ⟨e, _, _, _, rfl, hc⟩
   | succ i => exact h2 i x (by simpa using hx)
  ·simp at h
theorem Zdp {ys : List PV} {R : List (Int × Int)} (h : Z3D ys = some R) : szOk 5 ys = true := by
 unfold szOk
 simp only [Z2w, beq_iff_eq]
 intro e he
 obtain ⟨i, hi⟩ := Zcu he
 obtain ⟨h1, h2⟩ := Z4X h
 have hlt := (q1_.1 hi).1
 obtain ⟨e', a, b, s, q1, q2⟩ := h2 i R[i] (q2_ (by omega))
 rw [hi] at q1
 cases q1
 rw [q2]; rfl
theorem Zm1 {w : World} {S : Stay} {o : Go.Abs.Own} {ys : List PV} {R : List (Int × Int)} {v : Value} (hS : ∀ b o, S b o → b < w.heap.size) (h : PRel w S (.lst o ys) v) (hR : Z3D ys = some R) : ∃ a cap, v = .slice a R.length cap ∧ Ord.LiesR w.heap.size w a R := by
 obtain ⟨hl, hc⟩ := Z4X hR
 obtain ⟨a, cap, rfl, h1, h2, h3⟩ := Z6Y (n := 5) h (Zdp hR)
 refine ⟨a, cap, by rw [hl], ?_⟩
 by_cases hn : R = []
 ·exact .inl hn
 obtain ⟨b, off, rfl, h4⟩ := h3 (by rintro rfl; exact hn (Za9 (by simpa using hl.symm)))
 have key : ∀ (i : Nat) (x : Int × Int), R[i]? = some x → ∃ z0 z2 s4, (w.cell? ⟨b, off + i * 5, none⟩ = some (.int .i64 z0) ∧ w.cell? ⟨b, off + i * 5 + 1, none⟩ = some (.int .i64 x.1) ∧
  w.cell? ⟨b, off + i * 5 + 2, none⟩ = some (.int .i64 z2) ∧ w.cell? ⟨b, off + i * 5 + 3, none⟩ = some (.int .i64 x.2) ∧ w.cell? ⟨b, off + i * 5 + 4, none⟩ = some (.string s4)) ∧ S b (off + (i * 5 + 0)) := by
  intro i x hx
  obtain ⟨e, z0, z2, s4, q1, q2⟩ := hc i x hx
  obtain ⟨t0, a0, s0, _, r0⟩ := h4 i e 0 _ q1 (by rw [q2]; rfl)
  obtain ⟨t1, a1, _, _, r1⟩ := h4 i e 1 _ q1 (by rw [q2]; rfl)
  obtain ⟨t2, a2, _, _, r2⟩ := h4 i e 2 _ q1 (by rw [q2]; rfl)
  obtain ⟨t3, a3, _, _, r3⟩ := h4 i e 3 _ q1 (by rw [q2]; rfl)
  obtain ⟨t4, a4, _, _, r4⟩ := h4 i e 4 _ q1 (by rw [q2]; rfl)
  have e0 : t0 = .int .i64 z0 := by cases r0 with | v _ _ => rfl
  have e1 : t1 = .int .i64 x.1 := by cases r1 with | v _ _ => rfl
  have e2 : t2 = .int .i64 z2 := by cases r2 with | v _ _ => rfl
  have e3 : t3 = .int .i64 x.2 := by cases r3 with | v _ _ => rfl
  have e4 : t4 = .string s4 := by cases r4 with | v _ _ => rfl
  subst e0 e1 e2 e3 e4
  rw [← Nat.add_assoc] at a0 a1 a2 a3 a4
  exact ⟨z0, z2, s4, ⟨a0, a1, a2, a3, a4⟩, s0⟩
 refine .inr ⟨b, off, rfl, ?_, fun i x hx => ?_⟩
 ·cases R with
  | nil => exact absurd rfl hn
  | cons x r => obtain ⟨_, _, _, _, hs⟩ := key 0 x rfl; exact hS _ _ hs
 ·obtain ⟨z0, z2, s4, q, _⟩ := key i x hx
  exact ⟨z0, z2, s4, q⟩
theorem Zhq {w : World} {S : Stay} {a0 a1 a2 a3 : Int} {o : Go.Abs.Own} {rs : List PV} {v : Value} (h : PRel w S (.agg [.v (.int .i64 a0), .v (.int .i64 a1), .v (.int .i64 a2), .v (.int .i64 a3), .lst o rs]) v) :
  ∃ u, v = .agg #[.int .i64 a0, .int .i64 a1, .int .i64 a2, .int .i64 a3, u] ∧ PRel w S (.lst o rs) u := by
 cases h with
 | agg _ arr h1 h2 h3 =>
  obtain ⟨l⟩ := arr
  match l, h1 with
  | [t0, t1, t2, t3, t4], _ =>
   have r0 := h3 0 _ t0 rfl rfl
   have r1 := h3 1 _ t1 rfl rfl
   have r2 := h3 2 _ t2 rfl rfl
   have r3 := h3 3 _ t3 rfl rfl
   have r4 := h3 4 _ t4 rfl rfl
   have e0 : t0 = .int .i64 a0 := by cases r0 with | v _ _ => rfl
   have e1 : t1 = .int .i64 a1 := by cases r1 with | v _ _ => rfl
   have e2 : t2 = .int .i64 a2 := by cases r2 with | v _ _ => rfl
   have e3 : t3 = .int .i64 a3 := by cases r3 with | v _ _ => rfl
   subst e0 e1 e2 e3
   exact ⟨t4, rfl, r4⟩
theorem Zku {w : World} {S : Stay} {β : Nat → Nat} {x y : PV} {B : List Row} {vals : Array Value} (he : Entry w S β [.p x, .p y] B vals) : ∃ u v, vals = #[u, v] ∧ PRel w S x u ∧ PRel w S y v := by
 obtain ⟨u, v, rfl⟩ : ∃ u v, vals = #[u, v] := by
  have h1 : vals.size = 2 := by simpa using he.size
  obtain ⟨l⟩ := vals
  match l, h1 with
  | [u, v], _ => exact ⟨u, v, rfl⟩
 have hr := he.rel 0 _ u rfl rfl
 have hs := he.rel 1 _ v rfl rfl
 exact ⟨u, v, rfl, by cases hr with | p _ _ h => exact h, by cases hs with | p _ _ h => exact h⟩
theorem ZhP {w w' : World} {S : Stay} {v : Value} {l : List Int} (h : w'.ownsRow w.heap.size 3 1 v l.length (l.map (Value.int .i64))) :
  PRel w' (fun b o => S b o ∨ (w.heap.size ≤ b ∧ b < w'.heap.size)) (.lst .sh (l.map fun n => .v (.int .i64 n))) v := by
 have hlen : (l.map fun n => PV.v (.int .i64 n)).length = l.length := by simp
 rcases h.2 with ⟨rfl, hz⟩ | ⟨g, cap, cur, rfl, hg, hh, h1, h2, h3, h4⟩
 ·obtain rfl : l = [] := Za9 hz
  exact .lst .sh [] none 0 0 0 0 (fun _ _ => undef) (Z1y _) (by simp) (by simp) (by simp) (fun _ => rfl) (by simp) (by simp) (by simp)
 ·have hlt : g < w'.heap.size := (Z2z.1 hh).1
  have hcell : ∀ (t : Nat) (n : Int), l[t]? = some n → w'.cell? ⟨g, 0 + (t * 1 + 0), none⟩ = some (.int .i64 n) := by
   intro t n ht
   have := h.cells (g := g) rfl t (.int .i64 n) (by rw [q6_, ht]; rfl)
   rwa [show (⟨g, 0, none⟩ : Addr).add t = ⟨g, 0 + (t * 1 + 0), none⟩ by unfold Addr.add; split <;> simp_all] at this
  rw [← hlen]
  have get : ∀ (i : Nat) (e : PV) (j : Nat) (c : PV), (l.map fun n => PV.v (.int .i64 n))[i]? = some e → (Z16 e)[j]? = some c → ∃ n, l[i]? = some n ∧ j = 0 ∧ c = .v (.int .i64 n) := by
   intro i e j c he hj
   rw [q6_] at he
   obtain ⟨n, hn, rfl⟩ := q4_.1 he
   cases j with
   | zero => simp [Z16] at hj; exact ⟨n, hn, rfl, hj.symm⟩
   | succ j => simp [Z16] at hj
  refine PRel.lst (w := w') (S := fun b o => S b o ∨ (w.heap.size ≤ b ∧ b < w'.heap.size)) .sh _ (some ⟨g, 0, none⟩) cap g 0 1 (fun i _ => .int .i64 (l[i]?.getD 0)) (by rw [hlen]; exact h1) (by simp) (by simp) (by simp) (by simp) (fun _ => ⟨rfl, by omega, fun e he => by obtain ⟨n, _, rfl⟩ := Z1B.1 he; rfl⟩) ?_ ?_
  ·intro i e j c he hj
   obtain ⟨n, hn, rfl, rfl⟩ := get i e j c he hj
   refine ⟨?_, .inr ⟨hg, hlt⟩, rfl⟩
   rw [hcell i n hn, hn]; rfl
  ·intro i e j c he hj
   obtain ⟨n, hn, rfl, rfl⟩ := get i e j c he hj
   show PRel w' _ (PV.v (.int .i64 n)) (.int .i64 (l[i]?.getD 0))
   rw [hn]
   exact .v _ rfl
theorem Zfl {args : List AV} {B : List Row} {r : Res} (h : Z5B args B = some r) (w : World) (S : Stay) (β : Nat → Nat) (vals : Array Value) (he : Entry w S β args B vals) :
  Plain Try.prog 23 ∧ Calls Try.prog 23 vals w (Z2D w S β args B vals r) := by
 refine ⟨Zkm, ?_⟩
 unfold Z5B at h
 split at h
 case h_2 => simp at h
 rename_i a0 a1 a2 a3 o rs sc
 split at h
 case h_2 => simp at h
 rename_i ok ex hE
 split at h
 case h_2 => simp at h
 rename_i R hR
 split at h
 case isFalse => simp at h
 rename_i hlen
 simp only [ZO] at h
 subst h
 obtain ⟨sv, cv, rfl, hsv, hcv⟩ := Zku he
 obtain ⟨u, rfl, hu⟩ := Zhq hsv
 obtain ⟨ra, rcap, rfl, hlies⟩ := Zm1 he.mem.stay hu hR
 have ecv : cv = .int .i64 sc := by cases hcv with | v _ _ => rfl
 subst ecv
 have hcall : ∀ W, Below w.heap.size w W → Calls Try.prog 16 #[.agg #[.int .i64 a0, .int .i64 a1, .int .i64 a2, .int .i64 a3, .slice ra R.length rcap]] W fun e W' => e = .returned (.bool ok) ∧ Below W.heap.size W W' := by
  intro W hb
  obtain ⟨_, hc⟩ := N2.fspec _ _ _ _ hE W S (fun _ => 0) #[_] trivial (ZfQ he hb hsv rfl)
  refine hc.mono fun e W' hp => ?_
  cases e with
  | returned v =>
   obtain ⟨hb', S', β', hr⟩ := Zib (x := .agg [.v (.int .i64 a0), .v (.int .i64 a1), .v (.int .i64 a2), .v (.int .i64 a3), .lst o rs]) rfl hp
   have := Z1z hr
   subst this
   exact ⟨rfl, hb'⟩
  | _ => exact hp.elim
 refine (Ord.order_walk R a0 a1 a2 a3 sc ra rcap ok w hlen hlies hcall).mono ?_
 rintro e W ⟨v, rfl, hown, hb⟩
 exact Z9C (S' := fun b o => S b o ∨ (w.heap.size ≤ b ∧ b < _)) he hb (fun _ _ h => h) (fun _ _ h => .inl h) (.p _ _ (ZhP hown)) rfl
theorem ZhT {f : FuncId} {args : List AV} {B : List Row} {r : Res} (h : xLow f args B = some r) (w : World) (S : Stay) (β : Nat → Nat) (vals : Array Value) (he : Entry w S β args B vals) :
  Plain Try.prog f ∧ Calls Try.prog f vals w (Z2D w S β args B vals r) := N2.fspec f args B r h w S β vals trivial he
theorem ZfC : Z8n Try.prog Any XX := by
 intro f m hm args B r h w S β vals _ he
 unfold XX at hm
 have one : ∀ {k : FuncId} {e : Option (List AV → List Row → Option Res)}, (if f = k then some (xLow k) else e) = some m → e = some m ∨ Plain Try.prog f ∧ Calls Try.prog f vals w (Z2D w S β args B vals r) := by
  intro k e hq
  by_cases hf : f = k
  ·rw [if_pos hf, ZO] at hq
   subst hf hq
   exact .inr (ZhT h w S β vals he)
  ·rw [if_neg hf] at hq; exact .inl hq
 have two : ∀ {k : FuncId} {e : Option (List AV → List Row → Option Res)}, k = 23 → (if f = k then some Z5B else e) = some m → e = some m ∨ Plain Try.prog f ∧ Calls Try.prog f vals w (Z2D w S β args B vals r) := by
  intro k e hk hq
  by_cases hf : f = k
  ·rw [if_pos hf, ZO] at hq
   subst hf hq hk
   exact .inr (Zfl h w S β vals he)
  ·rw [if_neg hf] at hq; exact .inl hq
 repeat (first | (refine (one hm).elim (fun hm => ?_) id) | (refine (two rfl hm).elim (fun hm => ?_) id))
 simp at hm
theorem progOk : Go.Abs.progOk PP XX HH = true := by kernel_rfl
theorem fspec : Z2n PP Any EE := Zdt Any.pers mixed ZfC progOk
end N3
end Go.Proofs.Ytbmmhbpalkepeaa
end
section
namespace Go.Proofs.Ytbmmhbpalkepeaa.N3
open N2
open Go Go.Abs
set_option maxRecDepth 100000
theorem low {f : FuncId} (h : XX f = some (xLow f)) : EE f = N2.EE f := by
 funext args B
 rw [show EE f args B = E PP XX HH f args B from rfl, Ze0 h]
 rfl
theorem up10 : g10 = N2.g10 := by
 unfold g10 N2.g10
 rw [low (f := 10) (by kernel_rfl)]
theorem up11 (s : Z8) (d : ZC) : g11 s d = N2.g11 s d := by
 unfold g11 N2.g11
 rw [low (f := 11) (by kernel_rfl)]
theorem up14 (s : Z8) : g14 s = N2.g14 s := by
 unfold g14 N2.g14
 rw [low (f := 14) (by kernel_rfl)]
theorem up19 (s : Zk) : g19 s = N2.g19 s := by
 unfold g19 N2.g19
 rw [low (f := 19) (by kernel_rfl)]
theorem up24 (s : Zk) (n : Int) : g24 s n = N2.g24 s n := by
 unfold g24 N2.g24
 rw [low (f := 24) (by kernel_rfl)]
theorem Z9G : ∀ L : List Z2, Z3D (L.map Z4) = some (psR L)
 | [] => rfl
 | s :: L => by
  have h : Z16 (Z4 s) = [.v (.int .i64 s.ID), .v (.int .i64 s.Priority), .v (.int .i64 s.Action), .v (.int .i64 s.Scope), .v (.string s.Pattern)] := rfl
  rw [Z2p, Z3D, h, Z9G L]
  rfl
theorem Zhf (s : Z8) (sc : Int) : g23 s sc = some (if okS s then Ord.ordO (psR s.Rules) sc else []) := by
 apply Z13 (fun _ _ ha hb => RRun.uniq Zmg (ha .sh) (hb .sh))
 intro o
 obtain ⟨q, hq, ex, rfl⟩ := N2.Zgt s o (okS s) (ZdF s)
 have hk : ZL s o = [.v (.int .i64 s.Default), .v (.int .i64 s.Closed), .v (.int .i64 s.Fuel), .v (.int .i64 s.Stack), .lst o (s.Rules.map Z4)] := rfl
 rw [hk] at hq
 have e : EE 23 [(.p (.agg (ZL s o))), (.p (.v (.int .i64 sc)))] [] = some ((.p (.lst .sh ((if okS s then Ord.ordO (psR s.Rules) sc else []).map fun n => .v (.int .i64 n)))), []) := by
  rw [hk, show EE 23 = E PP XX HH 23 from rfl, Ze0 (P := PP) (X := XX) (H := HH) (f := 23) (m := Z5B) (by kernel_rfl)]
  unfold Z5B
  simp only []
  rw [hq]
  simp only [Z9G, bv]
  have hlen : okS s = true → (psR s.Rules).length < 20 := by
   intro ho
   unfold psR
   rw [Z39]
   unfold okS at ho
   simp only [q5_, decide_eq_true_eq] at ho
   omega
  rw [if_pos hlen]
 exact ⟨_, e, [], rfl⟩
theorem Zko {s : Z8} (h : okS s = true) : ∀ x ∈ psR s.Rules, 0 ≤ x.1 ∧ x.1 ≤ 1000 := by
 intro x hx
 obtain ⟨r, hr, rfl⟩ := Z1B.1 hx
 have := Z2w.1 (ZdP h) r hr
 unfold okR at this
 have := of_decide_eq_true this
 exact ⟨by show 0 ≤ r.Priority; omega, by show r.Priority ≤ 1000; omega⟩
theorem Zhl (L : List Int) (hl : L.length ≤ 1000000) : ∀ (d i : Nat), i + d = L.length → Z6R L L (L.length : Int) (i : Int) = some true := by
 intro d
 induction d with
 | zero =>
  intro i h
  apply ZaH
  unfold Z6v Z8F
  rw [if_neg (by simp; omega)]
 | succ d ih =>
  intro i h
  have hi : i < L.length := by omega
  apply ZaH
  unfold Z6v Z8D Z8E
  rw [if_pos (by simp; omega), Z1L, q2_ hi, q3_, q3_, if_neg (by simp), Z3m (by omega) (by omega)]
  exact ih (i + 1) (by omega)
theorem g9_val (s : Z8) (sc : Int) : g9 s sc = some true := by
 apply Zmu
 unfold b9 ZaZ
 rw [up10, Zjs, q3_, if_neg (by simp), up11, Zju, q3_]
 by_cases hsm : s.Rules.length ≤ 40
 ·rw [if_neg (by simp [hsm])]
  unfold Zb0
  rw [Zhf, q3_, up14, ZdE s (by omega), q3_, up19, Zjz, q3_]
  cases hok : okS s with
  | false => rfl
  | true =>
   rw [if_neg (by simp)]
   unfold Zb1 Z8C
   have e := Zfk (psR s.Rules) sc (Zko hok)
   have hll : (Ord.ordO (psR s.Rules) sc).length ≤ 1000000 := by
    have := (Go.Abs.Ord.sort_spec (pr := Ord.prO (psR s.Rules)) (Ord.plc_rising (psR s.Rules) sc (psR s.Rules).length)).1.length_eq
    have h2 := Ord.plc_len (psR s.Rules) sc (psR s.Rules).length
    have h3 : (psR s.Rules).length = s.Rules.length := Z39 _
    unfold Ord.ordO
    omega
   rw [up14, ZdE s (by omega), q3_, up24, ZjC s sc (by omega), q3_, if_pos rfl, ← e, if_neg (by simp)]
   exact Zhl _ hll (Ord.ordO (psR s.Rules) sc).length 0 (by omega)
 ·rw [if_pos (by simp [hsm])]
end Go.Proofs.Ytbmmhbpalkepeaa.N3
end
