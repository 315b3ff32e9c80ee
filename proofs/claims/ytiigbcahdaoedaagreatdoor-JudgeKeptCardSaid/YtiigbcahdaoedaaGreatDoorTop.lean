/- Both evaluators are sound; the anchor holds. No condition. -/
import Derived.Test.YtiigbcahdaoedaaGreatDoorExt
import Derived.Test.YtiigbcahdaoedaaGreatDoorUp
import Derived.Test.YtiigbcahdaoedaaGreatDoorPlC

set_option linter.unusedSimpArgs false
set_option linter.unusedVariables false
set_option linter.defProp false
section
namespace Go.Proofs.YtiigbcahdaoedaaGreatDoor
open Go Go.Abs Go.RowKit
theorem mixed : Tryz.prog.follows .mixedOrders = true := by kernel_rfl
abbrev Any : Inv := fun _ _ => True
theorem Any.pers : Pers Any := fun _ _ _ _ _ _ => trivial
namespace N2
theorem Zxr : Zoa Tryz.prog Any XX := by
 intro f m hm args B r h w S β vals _ he
 unfold XX at hm
 split at hm
 ·simp only [q1_] at hm
  subst hm
  simp [ZCu] at h
 split at hm
 ·rename_i hf
  subst hf
  simp only [q1_] at hm
  subst hm
  exact ZvN h w S β vals he
 ·simp at hm
theorem progOk : Go.Abs.progOk PP XX HH = true := by kernel_rfl
theorem fspec : Z8B PP Any EE := Zvc Any.pers mixed Zxr progOk
end N2
namespace N3
theorem ZD4 : Plain Tryz.prog 15 := ⟨Tryz.f15, Tryz.func15, by kernel_rfl, by kernel_rfl⟩
theorem ZDa {w : World} {S : Stay} {β : Nat → Nat} {x y : PV} {B : List Row} {vals : Array Value} (he : Entry w S β [.p x, .p y] B vals) : ∃ u v, vals = #[u, v] ∧ PRel w S x u ∧ PRel w S y v := by
 obtain ⟨u, v, rfl⟩ : ∃ u v, vals = #[u, v] := by
  have h1 : vals.size = 2 := by simpa using he.size
  obtain ⟨l⟩ := vals
  match l, h1 with
  | [u, v], _ => exact ⟨u, v, rfl⟩
 have hr := he.rel 0 _ u rfl rfl
 have hs := he.rel 1 _ v rfl rfl
 exact ⟨u, v, rfl, by cases hr with | p _ _ h => exact h, by cases hs with | p _ _ h => exact h⟩
theorem ZxF {w : World} {S : Stay} {β : Nat → Nat} {args : List AV} {B : List Row} {vals : Array Value} (he : Entry w S β args B vals) {xs : List PV} {u : Value} (hx : PRel w S (.lst .sh xs) u) : Entry w S (fun _ => 0) [.p (.lst .sh xs)] [] #[u] := by
 refine ⟨rfl, ?_, ⟨?_, ?_, ?_, ?_, he.mem.stay, ?_⟩, ⟨?_, ?_⟩⟩
 ·intro i x v h1 h2
  cases i with
  | zero =>
   simp only [Z5U, q1_] at h1
   subst h1
   have : u = v := by simpa using h2
   subst this
   exact .p _ _ hx
  | succ i => simp at h1
 ·intro id r h; simp at h
 ·intro id r j y h; simp at h
 ·intro i j hi; simp at hi
 ·intro i hi; simp at hi
 ·intro id r es h; simp at h
 ·intro l x v hl hu
  cases l with
  | slot i =>
   cases i with
   | zero => obtain ⟨h1, _⟩ := hl; simp at h1; subst h1; simp [isUn] at hu
   | succ i => obtain ⟨h1, _⟩ := hl; simp at h1
  | box id j => obtain ⟨row, h, _⟩ := hl; simp at h
 ·intro l l' x x' v v' hl _ hu
  cases l with
  | slot i =>
   cases i with
   | zero => obtain ⟨h1, _⟩ := hl; simp at h1; subst h1; simp [isUn] at hu
   | succ i => obtain ⟨h1, _⟩ := hl; simp at h1
  | box id j => obtain ⟨row, h, _⟩ := hl; simp at h
theorem ZiL : ∀ {ys : List PV} {P : List (Int × Int)}, Ze9 ys = some P → ys.length = P.length ∧ ∀ (i : Nat) (x : Int × Int), P[i]? = some x → ∃ (e : PV) (a b : Int) (o : Go.Abs.Own) (l : List PV), ys[i]? = some e ∧ Z1j e = [.v (.int .i64 x.1), .v (.int .i64 x.2), .v (.int .i64 a), .v (.int .i64 b), .lst o l]
 | [], P, h => by simp [Ze9] at h; subst h; simp
 | e :: r, P, h => by
  simp only [Ze9] at h
  split at h
  ·rename_i hc hl
   simp only [q1_] at h
   subst h
   obtain ⟨h1, h2⟩ := ZiL hl
   refine ⟨by simp [h1], ?_⟩
   intro i x hx
   cases i with
   | zero => simp only [Z5U, q1_] at hx; subst hx; exact ⟨e, _, _, _, _, rfl, hc⟩
   | succ i => exact h2 i x (by simpa using hx)
  ·simp at h
theorem ZuY {ys : List PV} {P : List (Int × Int)} (h : Ze9 ys = some P) : szOk 5 ys = true := by
 unfold szOk
 simp only [Z5a, beq_iff_eq]
 intro e he
 obtain ⟨i, hi⟩ := Zxg he
 obtain ⟨h1, h2⟩ := ZiL h
 have hlt := (q3_.1 hi).1
 obtain ⟨e', a, b, o, l, q1, q2⟩ := h2 i P[i] (q2_ (by omega))
 rw [hi] at q1
 cases q1
 rw [q2]; rfl
theorem Zne : ∀ {us : List PV} {U : List Bool}, Zh0 us = some U → us = U.map fun b => .v (.bool b)
 | [], U, h => by simp [Zh0] at h; subst h; rfl
 | e :: r, U, h => by
  unfold Zh0 at h
  split at h
  ·rename_i heq; simp at heq
  ·rename_i b r' heq
   cases heq
   obtain ⟨l, hl, rfl⟩ := q4_.1 h
   rw [Zne hl]; rfl
  ·simp at h
theorem ZFa {w : World} {S : Stay} {o : Go.Abs.Own} {ys : List PV} {P : List (Int × Int)} {v : Value} (hS : ∀ b o, S b o → b < w.heap.size) (h : PRel w S (.lst o ys) v) (hP : Ze9 ys = some P) : ∃ a cap, v = .slice a P.length cap ∧ ZvG w.heap.size w a P := by
 obtain ⟨hl, hc⟩ := ZiL hP
 obtain ⟨a, cap, rfl, h1, h2, h3⟩ := ZfO (n := 5) h (ZuY hP)
 refine ⟨a, cap, by rw [hl], ?_⟩
 by_cases hn : P = []
 ·exact .inl hn
 obtain ⟨b, off, rfl, h4⟩ := h3 (by rintro rfl; exact hn (List.eq_nil_of_length_eq_zero (by simpa using hl.symm)))
 have key : ∀ (i : Nat) (x : Int × Int), P[i]? = some x → ∃ z2 z3 a4 n4 m4, (w.cell? ⟨b, off + i * 5, none⟩ = some (.int .i64 x.1) ∧ w.cell? ⟨b, off + i * 5 + 1, none⟩ = some (.int .i64 x.2) ∧
  w.cell? ⟨b, off + i * 5 + 2, none⟩ = some (.int .i64 z2) ∧ w.cell? ⟨b, off + i * 5 + 3, none⟩ = some (.int .i64 z3) ∧ w.cell? ⟨b, off + i * 5 + 4, none⟩ = some (.slice a4 n4 m4)) ∧ S b (off + (i * 5 + 0)) := by
  intro i x hx
  obtain ⟨e, z2, z3, o4, l4, q1, q2⟩ := hc i x hx
  obtain ⟨t0, a0, s0, _, r0⟩ := h4 i e 0 _ q1 (by rw [q2]; rfl)
  obtain ⟨t1, a1, _, _, r1⟩ := h4 i e 1 _ q1 (by rw [q2]; rfl)
  obtain ⟨t2, a2, _, _, r2⟩ := h4 i e 2 _ q1 (by rw [q2]; rfl)
  obtain ⟨t3, a3, _, _, r3⟩ := h4 i e 3 _ q1 (by rw [q2]; rfl)
  obtain ⟨t4, a4, _, _, r4⟩ := h4 i e 4 _ q1 (by rw [q2]; rfl)
  have e0 : t0 = .int .i64 x.1 := by cases r0 with | v _ _ => rfl
  have e1 : t1 = .int .i64 x.2 := by cases r1 with | v _ _ => rfl
  have e2 : t2 = .int .i64 z2 := by cases r2 with | v _ _ => rfl
  have e3 : t3 = .int .i64 z3 := by cases r3 with | v _ _ => rfl
  obtain ⟨x4, n4, m4, e4⟩ : ∃ x n m, t4 = .slice x n m := by cases r4 with | lst _ _ x m => exact ⟨_, _, _, rfl⟩
  subst e0 e1 e2 e3 e4
  rw [← Nat.add_assoc] at a0 a1 a2 a3 a4
  exact ⟨z2, z3, x4, n4, m4, ⟨a0, a1, a2, a3, a4⟩, s0⟩
 refine .inr ⟨b, off, rfl, ?_, fun i x hx => ?_⟩
 ·cases P with
  | nil => exact absurd rfl hn
  | cons x r => obtain ⟨_, _, _, _, _, _, hs⟩ := key 0 x rfl; exact hS _ _ hs
 ·obtain ⟨z2, z3, a4, n4, m4, q, _⟩ := key i x hx
  exact ⟨z2, z3, a4, n4, m4, q⟩
theorem ZFb {w : World} {S : Stay} {o : Go.Abs.Own} {U : List Bool} {v : Value} (hS : ∀ b o, S b o → b < w.heap.size) (h : PRel w S (.lst o (U.map fun b => .v (.bool b))) v) : ∃ a cap, v = .slice a U.length cap ∧ ZvH w.heap.size w a U := by
 obtain ⟨a, cap, rfl, h1, h2, h3⟩ := ZfO (n := 1) h (by unfold szOk; simp [Z5a, Z1j])
 refine ⟨a, cap, by simp, ?_⟩
 by_cases hn : U = []
 ·exact .inl hn
 obtain ⟨b, off, rfl, h4⟩ := h3 (by simpa using hn)
 have key : ∀ (i : Nat) (x : Bool), U[i]? = some x → w.cell? ⟨b, off + i, none⟩ = some (.bool x) ∧ S b (off + (i * 1 + 0)) := by
  intro i x hx
  obtain ⟨t, a0, s0, _, r0⟩ := h4 i (.v (.bool x)) 0 (.v (.bool x)) (by rw [q7_, hx]; rfl) rfl
  have e0 : t = .bool x := by cases r0 with | v _ _ => rfl
  subst e0
  exact ⟨by rwa [show off + (i * 1 + 0) = off + i by omega] at a0, s0⟩
 refine .inr ⟨b, off, rfl, ?_, fun i x hx => (key i x hx).1⟩
 cases U with
 | nil => exact absurd rfl hn
 | cons x r => exact hS _ _ (key 0 x rfl).2
theorem ZBZ {w : World} {S : Stay} {β : Nat → Nat} {n : Nat} (a b : Value) (ha : scal a = true) (hb : scal b = true) : ARel w S β n (.p (.tup [.v a, .v b])) (.tuple #[a, b]) := by
 refine .p _ _ (.tup _ _ rfl (by simp [Z5T]) ?_)
 intro i c v hc hv
 match i, hc, hv with
 | 0, hc, hv => simp at hc hv; subst hc hv; exact .v _ ha
 | 1, hc, hv => simp at hc hv; subst hc hv; exact .v _ hb
 | i + 2, hc, hv => simp at hc
theorem ZFo {w : World} {S : Stay} {o : Go.Abs.Own} {xs : List PV} {u : Value} (h : PRel w S (.lst o xs) u) : PRel w S (.lst .sh xs) u := by
 cases h with
 | lst _ _ a cap b off sz g h1 h2 h3 h4 h5 h6 h7 h8 => exact .lst .sh xs a cap b off sz g h1 (by simp) (by simp) (by simp) h5 h6 h7 h8
theorem Zv9 {args : List AV} {B : List Row} {r : Res} (h : ZgX args B = some r) (w : World) (S : Stay) (β : Nat → Nat) (vals : Array Value) (he : Entry w S β args B vals) :
  Plain Tryz.prog 15 ∧ Calls Tryz.prog 15 vals w (Za0 w S β args B vals r) := by
 refine ⟨ZD4, ?_⟩
 unfold ZgX at h
 split at h
 case h_2 => simp at h
 rename_i o1 xs o2 us
 split at h
 case h_2 => simp at h
 rename_i o ys ex hE
 split at h
 case h_2 => simp at h
 rename_i P U hP hU
 split at h
 case isFalse => simp at h
 rename_i hc
 simp only [q1_] at h
 subst h
 obtain ⟨hlen, hall⟩ := hc
 have hPb : ∀ x ∈ P, 0 ≤ x.1 ∧ x.1 ≤ 4611686018427387904 := fun x hx => by simpa using Z5a.1 hall x hx
 have hus := Zne hU
 subst hus
 obtain ⟨lv, uv, rfl, hlv, huv⟩ := ZDa he
 obtain ⟨ua, ucap, rfl, hUl⟩ := ZFb he.mem.stay huv
 obtain ⟨_, hcall⟩ := N2.fspec _ _ _ _ hE w S (fun _ => 0) #[lv] trivial (ZxF he (ZFo hlv))
 have hR : Calls Tryz.prog 28 #[lv] w fun e W => ∃ a cap, e = .returned (.slice a P.length cap) ∧ Below w.heap.size w W ∧ ZvG W.heap.size W a P := by
  refine hcall.mono fun e W hp => ?_
  cases e with
  | returned v =>
   obtain ⟨S', β', he', hst⟩ := hp
   have hb : Below w.heap.size w W := by
    refine ⟨hst.os, hst.tape, hst.output, hst.size, fun k hk => hst.block k hk (fun i hi => by simp at hi) ?_⟩
    rintro ⟨l, x, u, hl, hu, _⟩
    cases l with
    | slot i =>
     cases i with
     | zero => obtain ⟨h1, _⟩ := hl; simp at h1; subst h1; simp [isUn] at hu
     | succ i => obtain ⟨h1, _⟩ := hl; simp at h1
    | box id j => obtain ⟨row, h, _⟩ := hl; simp at h
   have hv := he'.rel 0 _ v rfl rfl
   have hv' : PRel W S' (.lst o ys) v := by cases hv with | p _ _ h => exact h
   obtain ⟨a, cap, rfl, hl⟩ := ZFa he'.mem.stay hv' hP
   exact ⟨a, cap, rfl, hb, hl⟩
  | _ => exact hp.elim
 refine (Zva P U lv ua ucap w hlen hPb hUl hR).mono ?_
 rintro e W ⟨rfl, hb⟩
 exact ZpI (S' := S) he hb (fun _ _ h => .inl h) (fun _ _ h => h) (ZBZ _ _ rfl rfl) rfl
theorem ZBy {f : FuncId} {args : List AV} {B : List Row} {r : Res} (h : xLow f args B = some r) (w : World) (S : Stay) (β : Nat → Nat) (vals : Array Value) (he : Entry w S β args B vals) :
  Plain Tryz.prog f ∧ Calls Tryz.prog f vals w (Za0 w S β args B vals r) := N2.fspec f args B r h w S β vals trivial he
theorem Zxr : Zoa Tryz.prog Any XX := by
 intro f m hm args B r h w S β vals _ he
 unfold XX at hm
 have one : ∀ {k : FuncId} {e : Option (List AV → List Row → Option Res)}, (if f = k then some (xLow k) else e) = some m → e = some m ∨ Plain Tryz.prog f ∧ Calls Tryz.prog f vals w (Za0 w S β args B vals r) := by
  intro k e hq
  by_cases hf : f = k
  ·rw [if_pos hf, q1_] at hq
   subst hf hq
   exact .inr (ZBy h w S β vals he)
  ·rw [if_neg hf] at hq; exact .inl hq
 have two : ∀ {k : FuncId} {e : Option (List AV → List Row → Option Res)}, k = 15 → (if f = k then some ZgX else e) = some m → e = some m ∨ Plain Tryz.prog f ∧ Calls Tryz.prog f vals w (Za0 w S β args B vals r) := by
  intro k e hk hq
  by_cases hf : f = k
  ·rw [if_pos hf, q1_] at hq
   subst hf hq hk
   exact .inr (Zv9 h w S β vals he)
  ·rw [if_neg hf] at hq; exact .inl hq
 repeat (first | (refine (one hm).elim (fun hm => ?_) id) | (refine (two rfl hm).elim (fun hm => ?_) id))
 simp at hm
theorem progOk : Go.Abs.progOk PP XX HH = true := by kernel_rfl
theorem fspec : Z8B PP Any EE := Zvc Any.pers mixed Zxr progOk
end N3
end Go.Proofs.YtiigbcahdaoedaaGreatDoor
end
section
namespace Go.Proofs.YtiigbcahdaoedaaGreatDoor.N3
open N2
open Go Go.Abs
set_option maxRecDepth 100000
theorem low {f : FuncId} (h : XX f = some (xLow f)) : EE f = N2.EE f := by
 funext args B
 rw [show EE f args B = E PP XX HH f args B from rfl, ZvE h]
 rfl
theorem Zrf (l : List Z0) : Z2S l = N2.Z2S l := by
 unfold Z2S N2.Z2S
 rw [low (f := 12) (by kernel_rfl)]
theorem ZkX (l : List Z0) : Z2b l = N2.Z2b l := by
 unfold Z2b N2.Z2b
 rw [low (f := 17) (by kernel_rfl)]
theorem ZD6 (s : Z0) : Z56 s = N2.Z56 s := by
 unfold Z56 N2.Z56
 rw [low (f := 19) (by kernel_rfl)]
theorem ZBW (l : List Z0) : Z1u l = N2.Z1u l := by
 unfold Z1u N2.Z1u
 rw [low (f := 11) (by kernel_rfl)]
theorem Zmw (l : List Z0) : Z1B l = N2.Z1B l := by
 unfold Z1B N2.Z1B
 rw [low (f := 14) (by kernel_rfl)]
theorem ZpF : ∀ L : List Z0, Ze9 (L.map Z6) = some (L.map fun s => (s.View, s.Normal))
 | [] => rfl
 | s :: L => by
  have h : Z1j (Z6 s) = [.v (.int .i64 s.View), .v (.int .i64 s.Normal), .v (.int .i64 s.Commit), .v (.int .i64 s.Active), .lst .sh (s.Log.map Z7)] := rfl
  rw [Zht, Ze9, h, ZpF L]
  rfl
theorem Zoe : ∀ U : List Bool, Zh0 (U.map eB) = some U
 | [] => rfl
 | b :: U => by
  rw [Zht]
  show (Zh0 (U.map eB)).map (b :: ·) = _
  rw [Zoe U]; rfl
theorem ZAh (L : List Z0) (U : List Bool) (v : Int) (i : Nat) : inP (L.map fun s => (s.View, s.Normal)) U v i = inF L U v i := by
 unfold inP inF
 rw [q7_]
 cases L[i]? <;> rfl
theorem ZBX (L : List Z0) (U : List Bool) (v : Int) : Z5D (L.map fun s => (s.View, s.Normal)) U v = Zkx L U v := by
 unfold Z5D Zkx cntP numF
 rw [q8_, ZAh, show inP (L.map fun s => (s.View, s.Normal)) U v = inF L U v from funext fun i => ZAh L U v i]
theorem Zri (L : List Z0) (U : List Bool) : ∀ (R : List Z0) (v : Int) (ok : Bool), Zaf (L.map fun s => (s.View, s.Normal)) U (R.map fun s => (s.View, s.Normal)) v ok = Zcx L U R v ok
 | [], v, ok => rfl
 | s :: R, v, ok => by
  rw [Zht]
  unfold Zaf Zcx
  rw [ZBX]
  split <;> exact Zri L U R _ _
theorem Zky (l : List Z0) (hl : l.length ≤ 1000) (up : List Bool) : Z8d l up = some (Zcx (Z2r l) up (Z2r l) 0 false) := by
 apply ZR (fun _ _ ha hb => RRun.uniq Zns (ha .sh .sh) (hb .sh .sh))
 intro o1 o2
 obtain ⟨q, hq, ex, rfl⟩ := N2.Z8t l .sh (Z2r l) (ZfV l (by omega))
 have e : EE 15 [(.p (.lst o1 (l.map Z6))), (.p (.lst o2 (up.map eB)))] [] = some ((.p (.tup [(.v (.int .i64 (Zcx (Z2r l) up (Z2r l) 0 false).1)), (.v (.bool (Zcx (Z2r l) up (Z2r l) 0 false).2))])), []) := by
  rw [show EE 15 = E PP XX HH 15 from rfl, ZvE (P := PP) (X := XX) (H := HH) (f := 15) (m := ZgX) (by kernel_rfl)]
  unfold ZgX
  simp only []
  rw [hq]
  simp only [ZpF, Zoe]
  rw [if_pos, Zri]
  refine ⟨by rw [q8_, Zby]; omega, ?_⟩
  rw [Z5a]
  intro x hx
  obtain ⟨s, hs, rfl⟩ := Z5l.1 hx
  have := (Zba s hs).view
  exact decide_eq_true ⟨this.1, by omega⟩
 exact ⟨_, e, [], rfl⟩
theorem Zv8 (l : List Z0) (h1 : l.length ≤ 9) (up : List Bool) : ∃ r, Z8d l up = some r ∧ N2.Z3g ((Z2r l).map stF) up = some r :=
 ⟨_, Zky l (by omega) up, Zr8 (Z2r l) (by rw [Zby]; omega) Zba up⟩
theorem Zdo : Z2z = some true := by
 apply ZgB
 unfold Z6A
 rw [Zrf, Zxu, ZY, Zky _ (by simp), ZY, Zky _ (by simp), ZY, ZkX, ZvP, ZY, ZD6, ZAP, ZY]
 rw [show Zcx (Z2r [⟨3, 3, 0, 0, []⟩]) [true] (Z2r [⟨3, 3, 0, 0, []⟩]) 0 false = (3, true) by decide]
 rfl
theorem ZqX {n : Nat} (h : n ≤ maxLen) : n ≤ 9223372036854775807 := Zgr h (by decide)
theorem Zed (l : List Z0) (h : l.length ≤ maxLen ∧ ∀ s ∈ l, s.Log.length ≤ maxLen) : ∃ b, Z1u l = some b ∧ (b = true → l.length ≤ 9 ∧ ∀ s ∈ l, SmL s.Log) := by
 rw [ZBW]
 exact ZAQ l (ZqX h.1) fun s hs => ZqX (h.2 s hs)
theorem ZgU (a b : Z0) : Z1P a b = N2.Z1P a b := by
 unfold Z1P N2.Z1P
 rw [low (f := 24) (by kernel_rfl)]
end Go.Proofs.YtiigbcahdaoedaaGreatDoor.N3
end
