/- The upper functions: an evaluator to which the lower one is given; judge.Stable walked. No condition. -/
import Derived.Test.YtiigbcahdaoedaaGreatDoorEqs
import Derived.Maps.RangeWalk
import Derived.Maps.OwnOps
import Derived.Maps.OwnSet
import Derived.Maps.Views
import Derived.WalkKit
import Derived.Lib.Walk
import Derived.Test.YtiigbcahdaoedaaGreatDoorEvA
import Derived.Test.YtiigbcahdaoedaaGreatDoorProg
import Derived.KernelRfl
import Derived.Test.YtiigbcahdaoedaaGreatDoorTypA

set_option linter.unusedSimpArgs false
set_option linter.unusedVariables false
set_option linter.defProp false
section
namespace Go.Proofs.YtiigbcahdaoedaaGreatDoor.N3
open Go Go.Abs
noncomputable def xLow (f : FuncId) : List AV → List Row → Option Res := N2.EE f
def ZaL : List PV → Option (List (Int × Int))
 | [] => some []
 | e :: r => match Z11 e, ZaL r with
  | [.v (.int .i64 v), .v (.int .i64 n), .v (.int .i64 _), .v (.int .i64 _), .lst _ _], some l => some ((v, n) :: l)
  | _, _ => none
def Zdj : List PV → Option (List Bool)
 | [] => some []
 | .v (.bool b) :: r => (Zdj r).map (b :: ·)
 | _ => none
def inP (P : List (Int × Int)) (U : List Bool) (v : Int) (i : Nat) : Bool := (U[i]?).getD false && (match P[i]? with | some p => decide (p.1 = v ∧ p.2 = v) | none => false)
def cntP (P : List (Int × Int)) (U : List Bool) (k : Nat) (v : Int) : Nat := (List.range k).countP (inP P U v)
def Z4c (P : List (Int × Int)) (U : List Bool) (v : Int) : Bool := decide (P.length < 2 * cntP P U P.length v) && inP P U v (v.tmod P.length).toNat
def Z7F (P : List (Int × Int)) (U : List Bool) : List (Int × Int) → Int → Bool → Int × Bool
 | [], v, ok => (v, ok)
 | s :: R, v, ok => if Z4c P U s.1 = true ∧ (ok = false ∨ v < s.1) then Z7F P U R s.1 true else Z7F P U R v ok
noncomputable def Zdf (args : List AV) (B : List Row) : Option Res :=
 match args with
 | [.p (.lst _ xs), .p (.lst _ us)] =>
  match N2.EE 28 [.p (.lst .sh xs)] [] with
  | some (.p (.lst _ ys), _) =>
   match ZaL ys, Zdj us with
   | some P, some U =>
    if P.length ≤ 1048576 ∧ (P.all fun x => decide (0 ≤ x.1 ∧ x.1 ≤ 4611686018427387904)) = true then
     some (.p (.tup [.v (.int .i64 (Z7F P U P 0 false).1), .v (.bool (Z7F P U P 0 false).2)]), B)
    else none
   | _, _ => none
  | _ => none
 | _ => none
end Go.Proofs.YtiigbcahdaoedaaGreatDoor.N3
end
section
namespace Go.Proofs.YtiigbcahdaoedaaGreatDoor.N3
open Go Go.Abs Go.Maps
set_option maxRecDepth 100000
def Z7o (D : DataW Unit) (c : Int → Nat) : Prop := IsMap D ∧ (∀ v, D.atKey (.int .i64 v) (.lit (.int .i64 0)) = .lit (.int .i64 (c v))) ∧ ∀ v, has D (.int .i64 v) = decide (0 < c v)
def Z7n (D : DataW Unit) (f : Int → Bool) : Prop := IsMap D ∧ ∀ v, D.atKey (.int .i64 v) (.lit (.bool false)) = .lit (.bool (f v))
def fstP (P : List (Int × Int)) (U : List Bool) (k : Nat) (v : Int) : Bool := decide ((v.tmod P.length).toNat < k) && inP P U v (v.tmod P.length).toNat
theorem ZsR : Z7o (.map []) (fun _ => 0) := ⟨isMap_empty, fun _ => rfl, fun _ => rfl⟩
theorem ZsL : Z7n (.map []) (fun _ => false) := ⟨isMap_empty, fun _ => rfl⟩
theorem ZhK (v : Int) : WideAt.IsKeyLit (.int .i64 v) := trivial
theorem ZjT {a b : Int} (h : a ≠ b) : (Lit.int .i64 a) ≠ .int .i64 b := fun e => h (by cases e; rfl)
theorem Z7o.put {D : DataW Unit} {c : Int → Nat} (h : Z7o D c) (v : Int) (n : Nat) (hn : 0 < n) : Z7o (D.put (.int .i64 v) (.lit (.int .i64 n))) (fun x => if x = v then n else c x) := by
 refine ⟨h.1.put _ _, fun x => ?_, fun x => ?_⟩
 ·by_cases e : x = v
  ·subst e; rw [atKey_put_same h.1 (ZhK _)]; simp
  ·rw [atKey_put_other (ZjT e), h.2.1]; simp [e]
 ·by_cases e : x = v
  ·subst e; rw [has_put_same h.1 (ZhK _)]; simp [hn]
  ·rw [has_put_other (ZjT e), h.2.2]; simp [e]
theorem Z7n.put {D : DataW Unit} {f : Int → Bool} (h : Z7n D f) (v : Int) : Z7n (D.put (.int .i64 v) (.lit (.bool true))) (fun x => if x = v then true else f x) := by
 refine ⟨h.1.put _ _, fun x => ?_⟩
 by_cases e : x = v
 ·subst e; rw [atKey_put_same h.1 (ZhK _)]; simp
 ·rw [atKey_put_other (ZjT e), h.2]; simp [e]
theorem Z7o.congr {D : DataW Unit} {c c' : Int → Nat} (h : Z7o D c) (e : ∀ v, c v = c' v) : Z7o D c' := by
 rw [← show c = c' from funext e]; exact h
theorem Z7n.congr {D : DataW Unit} {c c' : Int → Bool} (h : Z7n D c) (e : ∀ v, c v = c' v) : Z7n D c' := by
 rw [← show c = c' from funext e]; exact h
section
variable {P : List (Int × Int)} {U : List Bool} {k : Nat}
theorem Zln (v : Int) : cntP P U (k + 1) v = cntP P U k v + (if inP P U v k = true then 1 else 0) := by
 unfold cntP; rw [List.range_succ, List.countP_append, ZwX]
theorem Zqy (v : Int) : cntP P U k v ≤ k := ZiJ ZtX (by simp)
theorem ZsN (h : ¬ ((U[k]?).getD false = true ∧ ∃ p, P[k]? = some p ∧ p.1 = p.2)) (v : Int) : inP P U v k = false := by
 unfold inP
 cases hu : (U[k]?).getD false with
 | false => rfl
 | true =>
  rw [Z6d]
  cases hp : P[k]? with
  | none => rfl
  | some p =>
   simp only [decide_eq_false_iff_not]
   rintro ⟨e1, e2⟩
   exact h ⟨hu, p, hp, by rw [e1, e2]⟩
theorem ZoF (h : ¬ ((U[k]?).getD false = true ∧ ∃ p, P[k]? = some p ∧ p.1 = p.2)) (v : Int) : cntP P U k v = cntP P U (k + 1) v := by
 rw [Zln, ZsN h]; simp
theorem ZoN (h : ¬ ((U[k]?).getD false = true ∧ ∃ p, P[k]? = some p ∧ p.1 = p.2)) (v : Int) : fstP P U k v = fstP P U (k + 1) v := by
 unfold fstP
 by_cases e : (v.tmod P.length).toNat = k
 ·rw [e, ZsN h]; simp
 ·congr 1
  exact decide_eq_decide.2 (by omega)
theorem Zlh {p : Int × Int} (hu : (U[k]?).getD false = true) (hp : P[k]? = some p) (he : p.2 = p.1) (v : Int) : inP P U v k = decide (v = p.1) := by
 unfold inP
 rw [hu, hp, Z6d]
 exact decide_eq_decide.2 ⟨fun h => h.1.symm, fun h => ⟨h.symm, by rw [he, h]⟩⟩
theorem Zv9 {p : Int × Int} (hu : (U[k]?).getD false = true) (hp : P[k]? = some p) (he : p.2 = p.1) (v : Int) : (if v = p.1 then cntP P U k p.1 + 1 else cntP P U k v) = cntP P U (k + 1) v := by
 rw [Zln, Zlh hu hp he]
 by_cases e : v = p.1
 ·subst e; simp
 ·simp [e]
theorem ZwK {p : Int × Int} (hu : (U[k]?).getD false = true) (hp : P[k]? = some p) (he : p.2 = p.1) (h0 : 0 ≤ p.1) (ht : p.1.tmod P.length = k) (v : Int) : (if v = p.1 then true else fstP P U k v) = fstP P U (k + 1) v := by
 by_cases e : v = p.1
 ·subst e
  unfold fstP
  rw [if_pos rfl, ht, ZkO, Zlh hu hp he]
  simp
 ·rw [if_neg e]
  unfold fstP
  by_cases e2 : (v.tmod P.length).toNat = k
  ·rw [e2, Zlh hu hp he, decide_eq_false e]; simp
  ·congr 1
   exact decide_eq_decide.2 (by omega)
theorem ZuI {p : Int × Int} (hu : (U[k]?).getD false = true) (hp : P[k]? = some p) (he : p.2 = p.1) (h0 : 0 ≤ p.1) (ht : p.1.tmod P.length ≠ k) (v : Int) : fstP P U k v = fstP P U (k + 1) v := by
 unfold fstP
 by_cases e2 : (v.tmod P.length).toNat = k
 ·rw [e2, Zlh hu hp he]
  have : v ≠ p.1 := by
   rintro rfl
   have := Int.tmod_nonneg (a := p.1) (P.length : Int) h0
   omega
  rw [decide_eq_false this]; simp
 ·congr 1
  exact decide_eq_decide.2 (by omega)
theorem ZoG {v : Int} (h : 0 < cntP P U k v) : ∃ p ∈ P, p.1 = v := by
 unfold cntP at h
 obtain ⟨i, _, hi⟩ := List.countP_pos_iff.1 h
 unfold inP at hi
 cases hp : P[i]? with
 | none => rw [hp] at hi; simp at hi
 | some p =>
  rw [hp] at hi
  simp at hi
  exact ⟨p, q6_ hp, hi.2.1⟩
theorem Zo3 {v : Int} (h : Z4c P U v = true) : 0 < cntP P U P.length v := by
 unfold Z4c at h
 simp at h
 omega
theorem Zv7 {v : Int} (hP : 0 < P.length) (h0 : 0 ≤ v) : Z4c P U v = (fstP P U P.length v && decide (P.length < 2 * cntP P U P.length v)) := by
 unfold Z4c fstP
 have h1 := Int.tmod_lt_of_pos v (b := (P.length : Int)) (by omega)
 have h2 := Int.tmod_nonneg (a := v) (P.length : Int) h0
 rw [decide_eq_true (show (v.tmod P.length).toNat < P.length by omega), Z6d, Bool.and_comm]
def Best (P : List (Int × Int)) (U : List Bool) (gone : Int → Bool) (v : Int) (ok : Bool) : Prop :=
 (ok = false ∧ v = 0 ∧ ∀ x, gone x = true → Z4c P U x = false) ∨ (ok = true ∧ Z4c P U v = true ∧ gone v = true ∧ ∀ x, gone x = true → Z4c P U x = true → x ≤ v)
theorem Zgn : ∀ (R : List (Int × Int)) (g : Int → Bool) (v : Int) (ok : Bool), Best P U g v ok → Best P U (fun x => g x || R.any (fun p => p.1 == x)) (Z7F P U R v ok).1 (Z7F P U R v ok).2
 | [], g, v, ok, h => by simpa [Z7F] using h
 | s :: R, g, v, ok, h => by
  have e : (fun x => g x || (s :: R).any (fun p => p.1 == x)) = fun x => (g x || s.1 == x) || R.any (fun p => p.1 == x) := by
   funext x; simp [Bool.or_assoc]
  rw [e]
  unfold Z7F
  split
  ·rename_i hc
   refine Zgn R _ _ _ (.inr ⟨rfl, hc.1, by simp, fun x hx hs => ?_⟩)
   simp only [Z9a, beq_iff_eq] at hx
   rcases hx with hx | rfl
   ·rcases h with ⟨_, _, h3⟩ | ⟨h1, _, _, h4⟩
    ·rw [h3 x hx] at hs; simp at hs
    ·have := h4 x hx hs
     rcases hc.2 with h5 | h5
     ·rw [h1] at h5; simp at h5
     ·omega
   ·exact Int.le_refl _
  ·rename_i hc
   refine Zgn R _ _ _ ?_
   rcases h with ⟨h1, h2, h3⟩ | ⟨h1, h2, h3, h4⟩
   ·refine .inl ⟨h1, h2, fun x hx => ?_⟩
    simp only [Z9a, beq_iff_eq] at hx
    rcases hx with hx | rfl
    ·exact h3 x hx
    ·cases hs : Z4c P U s.1
     ·rfl
     ·exact absurd ⟨hs, .inl h1⟩ hc
   ·refine .inr ⟨h1, h2, by simp [h3], fun x hx hs => ?_⟩
    simp only [Z9a, beq_iff_eq] at hx
    rcases hx with hx | rfl
    ·exact h4 x hx hs
    ·apply Int.not_lt.1
     exact fun hlt => hc ⟨hs, .inr hlt⟩
theorem Ztl {g : Int → Bool} {v : Int} {ok : Bool} (h : Best P U g v ok) (hg : ∀ x, 0 < cntP P U P.length x → g x = true) : Z7F P U P 0 false = (v, ok) := by
 have hb : Best P U (fun x => false || P.any (fun p => p.1 == x)) (Z7F P U P 0 false).1 (Z7F P U P 0 false).2 := Zgn P (fun _ => false) 0 false (.inl ⟨rfl, rfl, fun x hx => by simp at hx⟩)
 have hm : ∀ x, Z4c P U x = true → (false || P.any (fun p => p.1 == x)) = true := fun x hx => by
  obtain ⟨p, hp, rfl⟩ := ZoG (Zo3 hx)
  simp only [Zqa, List.any_eq_true, beq_iff_eq]
  exact ⟨p, hp, rfl⟩
 have hs : ∀ x, Z4c P U x = true → g x = true := fun x hx => hg x (Zo3 hx)
 rcases h with ⟨rfl, rfl, h3⟩ | ⟨rfl, h2, h3, h4⟩
 ·rcases hb with ⟨e1, e2, _⟩ | ⟨_, e2, _⟩
  ·exact Zg0 e2 e1
  ·rw [h3 _ (hs _ e2)] at e2; simp at e2
 ·rcases hb with ⟨_, _, e3⟩ | ⟨e1, e2, _, e4⟩
  ·rw [e3 _ (hm _ h2)] at h2; simp at h2
  ·have a1 := e4 v (hm _ h2) h2
   have a2 := h4 _ (hs _ e2) e2
   exact Zg0 (by omega) e1
theorem Zqv {g : Int → Bool} {v : Int} {ok : Bool} (h : Best P U g v ok) (x : Int) (hs : Z4c P U x = true) (hc : ok = false ∨ v < x) : Best P U (fun y => g y || y == x) x true := by
 refine .inr ⟨rfl, hs, by simp, fun y hy hys => ?_⟩
 simp only [Z9a, beq_iff_eq] at hy
 rcases hy with hy | rfl
 ·rcases h with ⟨_, _, h3⟩ | ⟨h1, _, _, h4⟩
  ·rw [h3 y hy] at hys; simp at hys
  ·have := h4 y hy hys
   rcases hc with h5 | h5
   ·rw [h1] at h5; simp at h5
   ·omega
 ·exact Int.le_refl _
theorem Zqu {g : Int → Bool} {v : Int} {ok : Bool} (h : Best P U g v ok) (x : Int) (hc : Z4c P U x = true → ok = true ∧ x ≤ v) : Best P U (fun y => g y || y == x) v ok := by
 rcases h with ⟨h1, h2, h3⟩ | ⟨h1, h2, h3, h4⟩
 ·refine .inl ⟨h1, h2, fun y hy => ?_⟩
  simp only [Z9a, beq_iff_eq] at hy
  rcases hy with hy | rfl
  ·exact h3 y hy
  ·cases hs : Z4c P U y
   ·rfl
   ·have := (hc hs).1; rw [h1] at this; simp at this
 ·refine .inr ⟨h1, h2, by simp [h3], fun y hy hs => ?_⟩
  simp only [Z9a, beq_iff_eq] at hy
  rcases hy with hy | rfl
  ·exact h4 y hy hs
  ·exact (hc hs).2
theorem Zl5 {D : DataW Unit} {left : Lit → Bool} {x : Int} (hx : has D (.int .i64 x) = true) {v : Int} {ok : Bool} (h : Best P U (fun y => (has D (.int .i64 y) && !left (.int .i64 y)) || y == x) v ok) :
  Best P U (fun y => has D (.int .i64 y) && !(left (.int .i64 y) && !(Lit.int .i64 y).sameKey (.int .i64 x))) v ok := by
 have e : (fun y => has D (.int .i64 y) && !(left (.int .i64 y) && !(Lit.int .i64 y).sameKey (.int .i64 x))) = fun y => (has D (.int .i64 y) && !left (.int .i64 y)) || y == x := by
  funext y
  by_cases e : y = x
  ·subst e
   rw [hx, WideAt.sameKey_self (ZhK _)]
   simp
  ·rw [sameKey_ne (ZjT e)]
   have : (y == x) = false := by simpa using e
   simp [this]
 rw [e]; exact h
end
end Go.Proofs.YtiigbcahdaoedaaGreatDoor.N3
end
section
namespace Go.Proofs.YtiigbcahdaoedaaGreatDoor.N3
open Go Go.Abs Go.Maps Go.RowKit
theorem law3 : Keyed Tryz.prog 3 := int_keyed Tryz.underlying3
theorem Zuw (w : World) : (zeroValue 3).run Tryz.prog w = .ok (.int .i64 0) w := by kernel_rfl
theorem Zxg (w : World) : (zeroValue 4).run Tryz.prog w = .ok (.bool false) w := by kernel_rfl
theorem Zu8 {w w' : World} {b o : Nat} (h : w'.heap[b]? = w.heap[b]?) : w'.cell? ⟨b, o, none⟩ = w.cell? ⟨b, o, none⟩ := by unfold World.cell?; simp only [h]
def Hid (p : Prop) : Prop := p
def Zp7 (m : Nat) (w : World) (a : Option Addr) (P : List (Int × Int)) : Prop :=
 P = [] ∨ ∃ b off, a = some ⟨b, off, none⟩ ∧ b < m ∧ ∀ (i : Nat) (x : Int × Int), P[i]? = some x → ∃ z2 z3 a4 n4 m4, w.cell? ⟨b, off + i * 5, none⟩ = some (.int .i64 x.1) ∧ w.cell? ⟨b, off + i * 5 + 1, none⟩ = some (.int .i64 x.2) ∧
  w.cell? ⟨b, off + i * 5 + 2, none⟩ = some (.int .i64 z2) ∧ w.cell? ⟨b, off + i * 5 + 3, none⟩ = some (.int .i64 z3) ∧ w.cell? ⟨b, off + i * 5 + 4, none⟩ = some (.slice a4 n4 m4)
def Zp8 (m : Nat) (w : World) (a : Option Addr) (U : List Bool) : Prop :=
 U = [] ∨ ∃ b off, a = some ⟨b, off, none⟩ ∧ b < m ∧ ∀ i x, U[i]? = some x → w.cell? ⟨b, off + i, none⟩ = some (.bool x)
set_option maxRecDepth 100000 in
theorem Zon {w : World} {b n : Nat} {D : DataW Unit} (h : w.ownsMap Tryz.prog 3 (plainElem Tryz.prog 4) b n D) {v : Int} (hw : (Lit.int .i64 v).wf = true) {x : Bool} (hx : D.atKey (.int .i64 v) (.lit (.bool false)) = .lit (.bool x)) :
  (Instr.lookup 72 (.map (some b)) (.int .i64 v) false).run Tryz.prog w = .ok (.bool x) w := by
 obtain ⟨u, ps, hrun, hv⟩ := h.lookup law3 Tryz.underlying72 (Zxg w) (plainElem_bool Tryz.underlying4 false) (keyOf_int_mk Tryz.underlying3 hw)
 rw [hrun]
 rw [hx] at hv
 unfold plainElem at hv
 rw [Tryz.underlying4] at hv
 cases u <;> simp at hv
 rw [hv.1]
theorem Zxe {v : Int} (h : 0 ≤ v ∧ v ≤ 4611686018427387904) : (Lit.int .i64 v).wf = true := WalkArith.wf_i64 (by omega)
set_option maxRecDepth 100000 in
set_option maxHeartbeats 4000000 in
theorem ZoB (P : List (Int × Int)) (U : List Bool) (lv : Value) (ua : Option Addr) (ucap : Nat) (w : World) (hlen : P.length ≤ 1048576) (hP : ∀ x ∈ P, 0 ≤ x.1 ∧ x.1 ≤ 4611686018427387904)
  (hU : Zp8 w.heap.size w ua U)
  (hR : Calls Tryz.prog 28 #[lv] w fun e W => ∃ a cap, e = .returned (.slice a P.length cap) ∧ Below w.heap.size w W ∧ Zp7 W.heap.size W a P) :
  Calls Tryz.prog 15 #[lv, .slice ua U.length ucap] w fun e W' => e = .returned (.tuple #[.int .i64 (Z7F P U P 0 false).1, .bool (Z7F P U P 0 false).2]) ∧ Below w.heap.size w W' := by
 have hmm := @run_makeMap Tryz.prog
 go_enter Tryz.func15, Tryz.ntmps15
 go_wp2_with (go_at_call 28; refine hR.mono ?_; rintro e W ⟨a, cap, rfl, hbw, hl⟩)
 have hUW : Zp8 W.heap.size W ua U := by
  rcases hU with h | ⟨b, off, h1, h2, h3⟩
  ·exact .inl h
  ·exact .inr ⟨b, off, h1, ZdG h2 hbw.size, fun i x hx => (hbw.cell (p := ⟨b, off + i, none⟩) h2).trans (h3 i x hx)⟩
 clear hU hR
 obtain ⟨N, hN⟩ : ∃ N, P.length = N := ⟨_, rfl⟩
 have hb0 : Hid (Below w.heap.size w W) := hbw
 clear hbw
 go_wp2
 rw [hN]
 go_loopw [18] (fun p18 wr => ∃ k : Nat, k ≤ N ∧ p18 = .int .i64 k ∧ ∃ D1 D2, Z7o D1 (cntP P U k) ∧ Z7n D2 (fstP P U k) ∧ wr.ownsMap Tryz.prog 3 (plainElem Tryz.prog 3) W.heap.size k D1 ∧ wr.ownsMap Tryz.prog 3 (plainElem Tryz.prog 4) (W.heap.size + 1) k D2 ∧ Below W.heap.size W wr)
  (fun p18 _ => N - (intOf p18).toNat)
 case atStart =>
  refine ⟨0, Nat.zero_le _, rfl, .map [], .map [], ZsR.congr fun _ => rfl, ZsL.congr fun v => ?_, (World.ownsMap_made W _ _ _).alloc _, ?_, ((Below.refl _ _).alloc (Z25 _) _).alloc (by simp) _⟩
  ·unfold fstP; simp
  ·have := World.ownsMap_made (W.alloc (.map #[] 0)) Tryz.prog 3 (plainElem (H := Unit) Tryz.prog 4)
   simpa using this
 case round =>
  obtain ⟨k, hk, rfl, D1, D2, hD1, hD2, hm1, hm2, hbr⟩ := hrel
  by_cases hlt : k < N
  ·have hkP : k < P.length := by omega
   have hx : P[k]? = some P[k] := q2_ hkP
   have hxP := hP _ (Z7Y hkP)
   rcases hl with rfl | ⟨b, off, rfl, hbW, hcs⟩
   ·simp at hkP
   obtain ⟨z2, z3, a4, n4, m4, d0, d1, d2, d3, d4⟩ := hcs k _ hx
   generalize P[k] = x at *
   have c0 : wr.cell? ⟨b, off + k * 5, none⟩ = some (.int .i64 x.1) := (hbr.cell (p := ⟨b, off + k * 5, none⟩) hbW).trans d0
   have c1 : wr.cell? ⟨b, off + k * 5 + 1, none⟩ = some (.int .i64 x.2) := (hbr.cell (p := ⟨b, off + k * 5 + 1, none⟩) hbW).trans d1
   have c2 : wr.cell? ⟨b, off + k * 5 + 2, none⟩ = some (.int .i64 z2) := (hbr.cell (p := ⟨b, off + k * 5 + 2, none⟩) hbW).trans d2
   have c3 : wr.cell? ⟨b, off + k * 5 + 3, none⟩ = some (.int .i64 z3) := (hbr.cell (p := ⟨b, off + k * 5 + 3, none⟩) hbW).trans d3
   have c4 : wr.cell? ⟨b, off + k * 5 + 4, none⟩ = some (.slice a4 n4 m4) := (hbr.cell (p := ⟨b, off + k * 5 + 4, none⟩) hbW).trans d4
   clear hcs d0 d1 d2 d3 d4
   by_cases hu : U.length ≤ k
   ·have hout : ¬ ((U[k]?).getD false = true ∧ ∃ p, P[k]? = some p ∧ p.1 = p.2) := by rw [ZcL hu]; simp
    have h1 : Hid (Z7o D1 (cntP P U (k + 1))) := hD1.congr (ZoF hout)
    have h2 : Hid (Z7n D2 (fstP P U (k + 1))) := hD2.congr (ZoN hout)
    clear hD1 hD2 hout hx
    go_wp2
    exact ⟨⟨k + 1, by omega, by simp, D1, D2, h1, h2, (hm1.alloc _).mono (Nat.le_succ _), (hm2.alloc _).mono (Nat.le_succ _), hbr.alloc hbr.size _⟩, by simp [intOf]; omega⟩
   ·have hku : k < U.length := by omega
    have hy : U[k]? = some U[k] := q2_ hku
    rcases hUW with h | ⟨ub, uo, rfl, hub, hus⟩
    ·rw [h] at hku; simp at hku
    have cu : wr.cell? ⟨ub, uo + k, none⟩ = some (.bool U[k]) := (hbr.cell (p := ⟨ub, uo + k, none⟩) hub).trans (hus k _ hy)
    have hub' : ub < wr.heap.size := ZdG hub hbr.size
    clear hus
    generalize U[k] = y at *
    have hgd : (U[k]?).getD false = y := by rw [hy]; rfl
    by_cases hout : ¬ (y = true ∧ x.2 = x.1)
    ·have hout' : ¬ ((U[k]?).getD false = true ∧ ∃ p, P[k]? = some p ∧ p.1 = p.2) := by
      rintro ⟨q1, p, q2, q3⟩
      rw [hx] at q2
      cases q2
      exact hout ⟨hgd.symm.trans q1, q3.symm⟩
     have h1 : Hid (Z7o D1 (cntP P U (k + 1))) := hD1.congr (ZoF hout')
     have h2 : Hid (Z7n D2 (fstP P U (k + 1))) := hD2.congr (ZoN hout')
     clear hD1 hD2 hout' hx hgd hy
     cases y with
     | false =>
      clear hout
      go_wp2
      exact ⟨⟨k + 1, by omega, by simp, D1, D2, h1, h2, (hm1.alloc _).mono (Nat.le_succ _), (hm2.alloc _).mono (Nat.le_succ _), hbr.alloc hbr.size _⟩, by simp [intOf]; omega⟩
     | true =>
      have hne : ¬ x.2 = x.1 := fun e => hout ⟨rfl, e⟩
      clear hout
      go_wp2
      exact ⟨⟨k + 1, by omega, by simp, D1, D2, h1, h2, (hm1.alloc _).mono (Nat.le_succ _), (hm2.alloc _).mono (Nat.le_succ _), hbr.alloc hbr.size _⟩, by simp [intOf]; omega⟩
    ·obtain ⟨rfl, hxe⟩ := Classical.not_not.1 hout
     clear hout
     obtain ⟨m, hm⟩ : ∃ m, cntP P U k x.1 = m := ⟨_, rfl⟩
     have hmk : m ≤ k := hm ▸ Zqy x.1
     have hat0 : D1.atKey (.int .i64 x.1) (.lit (.int .i64 0)) = .lit (.int .i64 (m : Int)) := by rw [hD1.2.1, hm]
     have hkey := keyOf_int_mk Tryz.underlying3 (Zxe hxP)
     have hwm : (Lit.int .i64 ((m : Int) + 1)).wf = true := WalkArith.wf_i64 (by omega)
     have h1 : Hid (Z7o (D1.put (.int .i64 x.1) (.lit (.int .i64 ((m : Int) + 1)))) (cntP P U (k + 1))) :=
      (hD1.put x.1 (m + 1) (by omega)).congr fun v => by rw [← hm]; exact Zv9 hgd hx hxe v
     by_cases ht : x.1.tmod (N : Int) = k
     ·have h2 : Hid (Z7n (D2.put (.int .i64 x.1) (.lit (.bool true))) (fstP P U (k + 1))) := (hD2.put x.1).congr fun v => ZwK hgd hx hxe hxP.1 (by rw [hN]; exact ht) v
      clear hD1 hD2 hx hgd hy hm
      go_wp2_with (first
       | (at_lookup; refine wpList_lookup_own_int _ rfl _ _ 71 rfl 3 3 .i64 law3 Tryz.underlying71 Tryz.underlying3 (Zuw _) W.heap.size k D1 rfl (hm1.alloc _) _ _ rfl hkey ?_; intro c hat hwc; obtain rfl : c = (m : Int) := (by rw [hat0] at hat; cases hat; rfl))
       | (at_mapUpdate; refine wpList_mapUpdate_own _ rfl _ _ _ 71 rfl 3 3 law3 Tryz.underlying71 (plainElem Tryz.prog 3) W.heap.size k D1 rfl (hm1.alloc _) (by unfold maxLen; omega) _ _ _ rfl rfl hkey _ [] (plainElem_int Tryz.underlying3 hwm) ?_
          intro w1 hown1 hgrow1
          have e0 : w1.cell? ⟨wr.heap.size, 0, none⟩ = some (.int .i64 x.1) := (Zu8 (hgrow1.block wr.heap.size (by simp) (by simp only [ne_eq, ZR]; have := hbr.size; have := hm2.lt; omega))).trans (by simp)
          have hown2 := (hm2.alloc (.cells #[.int .i64 x.1, .int .i64 x.1, .int .i64 z2, .int .i64 z3, .slice a4 n4 m4] 39)).kept hgrow1 (by simp)
          have hb1 := (hbr.alloc hbr.size (.cells #[.int .i64 x.1, .int .i64 x.1, .int .i64 z2, .int .i64 z3, .slice a4 n4 m4] 39)).grown hgrow1 (by simp; have := hbr.size; omega) (fun j hj => by cases hj; exact Z25 _)
          have hs1 : wr.heap.size < w1.heap.size := ZdG (by simp) hgrow1.size
          clear hgrow1)
       | (at_mapUpdate; refine wpList_mapUpdate_own _ rfl _ _ _ 72 rfl 3 4 law3 Tryz.underlying72 (plainElem Tryz.prog 4) (W.heap.size + 1) k D2 rfl hown2 (by unfold maxLen; omega) _ _ _ rfl rfl hkey _ [] (plainElem_bool Tryz.underlying4 true) ?_
          intro w2 hown3 hgrow2
          have hown4 := hown1.kept hgrow2 (by simp)
          have hb2 := hb1.grown hgrow2 hb1.size (fun j hj => by cases hj; omega))
       | go_in)
      exact ⟨⟨k + 1, by omega, by simp, _, _, h1, h2, hown4, hown3, hb2⟩, by simp [intOf]; omega⟩
     ·have h2 : Hid (Z7n D2 (fstP P U (k + 1))) := hD2.congr fun v => ZuI hgd hx hxe hxP.1 (by rw [hN]; exact ht) v
      clear hD1 hD2 hx hgd hy hm
      obtain ⟨q, hq⟩ : ∃ q, x.1.tmod (N : Int) = q := ⟨_, rfl⟩
      rw [hq] at ht
      have hq1 : (q == (k : Int)) = false := by simpa using ht
      have hq2 : decide (q = (k : Int)) = false := by simpa using ht
      clear ht
      go_wp2_with (first
       | (at_lookup; refine wpList_lookup_own_int _ rfl _ _ 71 rfl 3 3 .i64 law3 Tryz.underlying71 Tryz.underlying3 (Zuw _) W.heap.size k D1 rfl (hm1.alloc _) _ _ rfl hkey ?_; intro c hat hwc; obtain rfl : c = (m : Int) := (by rw [hat0] at hat; cases hat; rfl))
       | (at_mapUpdate; refine wpList_mapUpdate_own _ rfl _ _ _ 71 rfl 3 3 law3 Tryz.underlying71 (plainElem Tryz.prog 3) W.heap.size k D1 rfl (hm1.alloc _) (by unfold maxLen; omega) _ _ _ rfl rfl hkey _ [] (plainElem_int Tryz.underlying3 hwm) ?_
          intro w1 hown1 hgrow1
          have e0 : w1.cell? ⟨wr.heap.size, 0, none⟩ = some (.int .i64 x.1) := (Zu8 (hgrow1.block wr.heap.size (by simp) (by simp only [ne_eq, ZR]; have := hbr.size; have := hm2.lt; omega))).trans (by simp)
          have hown2 := (hm2.alloc (.cells #[.int .i64 x.1, .int .i64 x.1, .int .i64 z2, .int .i64 z3, .slice a4 n4 m4] 39)).kept hgrow1 (by simp)
          have hb1 := (hbr.alloc hbr.size (.cells #[.int .i64 x.1, .int .i64 x.1, .int .i64 z2, .int .i64 z3, .slice a4 n4 m4] 39)).grown hgrow1 (by simp; have := hbr.size; omega) (fun j hj => by cases hj; exact Z25 _)
          have hs1 : wr.heap.size < w1.heap.size := ZdG (by simp) hgrow1.size
          clear hgrow1)
       | go_in)
      exact ⟨⟨k + 1, by omega, by simp, _, _, h1, h2, hown1, hown2.mono (Nat.le_succ _), hb1⟩, by simp [intOf]; omega⟩
  ·obtain rfl : k = N := by omega
   obtain ⟨V, rfl⟩ : ∃ V, V = wr := ⟨_, rfl⟩
   have hD1' : Hid (Z7o D1 (cntP P U P.length)) := by rw [hN]; exact hD1
   have hD2' : Hid (Z7n D2 (fstP P U P.length)) := by rw [hN]; exact hD2
   have hP' : Hid (∀ x ∈ P, 0 ≤ x.1 ∧ x.1 ≤ 4611686018427387904) := hP
   clear hD1 hD2 hP hl hUW
   go_wp2_with (first
    | (at_range; refine wpList_range_own _ rfl _ 71 rfl 3 3 law3 Tryz.underlying71 _ W.heap.size k D1 rfl hm1 ?_; intro w0 hrg0 hg0 hs0)
    | go_in)
   go_frame
   go_loopw [4, 5] (fun p4 p5 wl => ∃ (left : Lit → Bool) (cnt : Nat) (v : Int) (ok : Bool), p4 = .int .i64 v ∧ p5 = .bool ok ∧ wl.ranges Tryz.prog 3 (plainElem Tryz.prog 3) W.heap.size V.heap.size k D1 left cnt ∧ wl.ownsMap Tryz.prog 3 (plainElem Tryz.prog 4) (W.heap.size + 1) k D2 ∧
     Below W.heap.size W wl ∧ Best P U (fun y => has D1 (.int .i64 y) && !left (.int .i64 y)) v ok ∧ ∀ z, left z = true → has D1 z = true)
    (fun _ _ wl => wl.rangeLeft W.heap.size V.heap.size)
   case atStart =>
    refine ⟨_, _, 0, false, rfl, rfl, hrg0, hm2.kept hg0 (by simp), hbr.grown hg0 hbr.size (by simp), .inl ⟨rfl, rfl, fun y hy => ?_⟩, fun _ h => h⟩
    simp at hy
   case round =>
    obtain ⟨left, cnt, v, ok, rfl, rfl, hrg, hm3, hbl, hbest, hleft⟩ := hrel
    have hD1 : Z7o D1 (cntP P U P.length) := hD1'
    have hD2 : Z7n D2 (fstP P U P.length) := hD2'
    have hP : ∀ x ∈ P, 0 ≤ x.1 ∧ x.1 ≤ 4611686018427387904 := hP'
    have hbest' : Hid (Best P U (fun y => has D1 (.int .i64 y) && !left (.int .i64 y)) v ok) := hbest
    have hleft' : Hid (∀ z, left z = true → has D1 z = true) := hleft
    clear hD1 hD2 hP hbest hleft
    go_wp2_with (first
     | (at_next; refine wpList_next_ranges_ii _ rfl _ rfl 3 3 .i64 .i64 law3 Tryz.underlying3 Tryz.underlying3 W.heap.size V.heap.size k D1 left cnt rfl hrg ?_ ?_)
     | go_in)
    ·intro _ hl0
     go_wp2
     go_ret2
     have hD1 : Z7o D1 (cntP P U P.length) := hD1'
     have hbest : Best P U (fun y => has D1 (.int .i64 y) && !left (.int .i64 y)) v ok := hbest'
     have hb : Below w.heap.size w W := hb0
     rw [Ztl hbest fun y hy => by rw [hD1.2.2, hl0]; simpa using hy]
     exact ⟨rfl, hb.trans (hbl.mono hb.size)⟩
    ·intro x c w1 cnt1 hwx hwc hlx hat hrg1 hlt1 hg1 hs1 hen
     have hD1 : Z7o D1 (cntP P U P.length) := hD1'
     have hD2 : Z7n D2 (fstP P U P.length) := hD2'
     have hP : ∀ x ∈ P, 0 ≤ x.1 ∧ x.1 ≤ 4611686018427387904 := hP'
     have hleft : ∀ z, left z = true → has D1 z = true := hleft'
     have hbest : Best P U (fun y => has D1 (.int .i64 y) && !left (.int .i64 y)) v ok := hbest'
     have hx : has D1 (.int .i64 x) = true := hleft _ hlx
     have hpos : 0 < cntP P U P.length x := by rw [hD1.2.2] at hx; simpa using hx
     obtain ⟨p, hp, hpx⟩ := ZoG hpos
     have hx0 : 0 ≤ x := hpx ▸ (hP p hp).1
     have hPl : 0 < P.length := List.length_pos_iff.2 (List.ne_nil_of_mem hp)
     have hst := Zv7 (U := U) hPl hx0
     have hf := Zon (hm3.kept hg1 (by simp only [ne_eq, ZR]; have := hrg.lt; have := hm3.lt; have := hbr.size; have := hm2.lt; omega)) hwx (hD2.2 x)
     obtain ⟨m, hm⟩ : ∃ m, cntP P U P.length x = m := ⟨_, rfl⟩
     have hc : c = (m : Int) := by
      have := hat (.lit (.int .i64 0))
      rw [hD1.2.1, hm] at this
      cases this; rfl
     subst hc
     have hmk : m ≤ k := by rw [← hm, ← hN]; exact Zqy x
     rw [hm] at hst
     obtain ⟨y, hy⟩ : ∃ y, fstP P U P.length x = y := ⟨_, rfl⟩
     rw [hy] at hst hf
     rw [hN] at hst
     clear hy
     have hb1 := hbl.grown hg1 hbl.size (fun j hj => by cases hj; exact hbr.size)
     have hm4 := hm3.kept hg1 (by simp only [ne_eq, ZR]; have := hm2.lt; omega)
     have take : Hid (Z4c P U x = true → (ok = false ∨ v < x) → Best P U (fun y => has D1 (.int .i64 y) && !(left (.int .i64 y) && !(Lit.int .i64 y).sameKey (.int .i64 x))) x true) := fun h1 h2 => Zl5 hx (Zqv hbest x h1 h2)
     have stay : Hid ((Z4c P U x = true → ok = true ∧ x ≤ v) → Best P U (fun y => has D1 (.int .i64 y) && !(left (.int .i64 y) && !(Lit.int .i64 y).sameKey (.int .i64 x))) v ok) := fun h1 => Zl5 hx (Zqu hbest x h1)
     have hle : Hid (∀ z, (fun z : Lit => left z && !z.sameKey (.int .i64 x)) z = true → has D1 z = true) := fun z hz => hleft z (by simp at hz; exact hz.1)
     have hmeas : Hid (w1.rangeLeft W.heap.size V.heap.size < wr.rangeLeft W.heap.size V.heap.size) := by rw [hrg1.left_eq, hrg.left_eq]; exact hlt1
     have hst' : Hid (Z4c P U x = (y && decide (k < 2 * m))) := hst
     clear hD1 hD2 hP hleft hbest hx hpos hp hpx hst hat hm hlx hlt1 hbl hm3 hrg hg1 hb0 hbest' hD1' hD2' hP' hleft' hm1 hm2 hrg0 hg0
     cases y with
     | false =>
      go_wp2
      have hst : Z4c P U x = (false && decide (k < 2 * m)) := hst'
      exact ⟨⟨_, cnt1, v, ok, rfl, rfl, hrg1, hm4, hb1, stay (fun h => by rw [hst] at h; simp at h), hle⟩, hmeas⟩
     | true =>
      by_cases h1 : k < 2 * m
      ·have hs1 : Hid (Z4c P U x = true) := by
        have hst : Z4c P U x = (true && decide (k < 2 * m)) := hst'
        show Z4c P U x = true
        rw [hst]; simpa using h1
       have h1i : ((k : Int) < 2 * (m : Int)) := by omega
       cases ok with
       | false =>
        go_wp2
        exact ⟨⟨_, cnt1, x, true, rfl, rfl, hrg1, hm4, hb1, take hs1 (.inl rfl), hle⟩, hmeas⟩
       | true =>
        by_cases h2 : v < x
        ·go_wp2
         exact ⟨⟨_, cnt1, x, true, rfl, rfl, hrg1, hm4, hb1, take hs1 (.inr h2), hle⟩, hmeas⟩
        ·go_wp2
         exact ⟨⟨_, cnt1, v, true, rfl, rfl, hrg1, hm4, hb1, stay (fun _ => ⟨rfl, by omega⟩), hle⟩, hmeas⟩
      ·have h1i : ¬ ((k : Int) < 2 * (m : Int)) := by omega
       go_wp2
       have hst : Z4c P U x = (true && decide (k < 2 * m)) := hst'
       exact ⟨⟨_, cnt1, v, ok, rfl, rfl, hrg1, hm4, hb1, stay (fun h => by rw [hst] at h; simp at h; omega), hle⟩, hmeas⟩
end Go.Proofs.YtiigbcahdaoedaaGreatDoor.N3
end
section
namespace Go.Proofs.YtiigbcahdaoedaaGreatDoor.N3
open Go Go.Abs
def ZpT : FuncId → Nat → Option (List Nat) := fun f r =>
 if f = 3 then (if r = 5 then some [0] else if r = 3 then some [0] else none) else
 if f = 4 then (if r = 4 then some [] else if r = 5 then some [0, 1] else if r = 3 then some [0, 1] else none) else
 if f = 5 then (if r = 5 then some [0] else if r = 3 then some [0] else none) else
 if f = 7 then (if r = 4 then some [] else if r = 7 then some [2, 5, 24, 25] else if r = 8 then some [2, 5, 24, 25] else if r = 13 then some [2, 5, 6] else if r = 10 then some [2, 5] else if r = 5 then some [1, 2] else if r = 3 then some [1, 2] else none) else
 if f = 8 then (if r = 5 then some [3, 4, 5] else if r = 3 then some [3, 4, 5] else none) else
 if f = 9 then (if r = 9 then some [] else if r = 13 then some [] else if r = 10 then some [2, 3, 8] else if r = 8 then some [2, 3, 8] else if r = 5 then some [2, 3] else if r = 3 then some [2, 3] else none) else
 none
def ownT : FuncId → List Nat := fun f =>
 if f = 7 then [5, 27] else
 []
def rawT : FuncId → Bool := fun f => false
def ZpZ : FuncId → List Nat := fun f => []
def HH : Hints := ⟨ZpT, ownT, rawT, ZpZ⟩
noncomputable def XX : FuncId → Option (List AV → List Row → Option Res) := fun f => if f = 11 then some (xLow 11) else if f = 12 then some (xLow 12) else if f = 13 then some (xLow 13) else if f = 14 then some (xLow 14) else if f = 15 then some Zdf else if f = 16 then some (xLow 16) else if f = 17 then some (xLow 17) else if f = 18 then some (xLow 18) else if f = 19 then some (xLow 19) else if f = 23 then some (xLow 23) else if f = 24 then some (xLow 24) else if f = 25 then some (xLow 25) else if f = 26 then some (xLow 26) else none
noncomputable abbrev PP : Program := Tryz.prog
noncomputable abbrev EE : GF := E PP XX HH
noncomputable abbrev LL : LF := L PP XX HH
end Go.Proofs.YtiigbcahdaoedaaGreatDoor.N3
end
section
namespace Go.Proofs.YtiigbcahdaoedaaGreatDoor.N3
open Go Go.Abs
set_option maxRecDepth 100000
def Z8D (r0 : AV) (B : List Row) : Option Res :=
 ob (ob (some r0) fun v => ob (some []) fun vs => some (v :: vs)) fun vs => some ((nrmA (match vs with | [v] => v | vs => Z74 (vs.map shr))), B)
theorem Zvb (B : List Row) : EE 10 [] B =
 (let m0 := B.length
 mk (mk (callS false EE 12 [nilA] B fun a1 B2 =>
 ob (xext 0 (shr a1)) fun a3 =>
 ob (xext 1 (shr a1)) fun a4 =>
 ob (xext 2 (shr a1)) fun a5 =>
 mk (ob (Z7h PP 39 [(0, (iv 3)), (1, (iv 3))]) fun a6 =>
 ob (xlit PP 22 1 [(0, a6)]) fun a7 =>
 ob (xlit PP 30 1 [(0, (bv true))]) fun a8 =>
 callS false EE 15 [a7, a8] B2 fun a9 B10 =>
 ob (xext 0 (shr a9)) fun a11 =>
 ob (xext 1 (shr a9)) fun a12 =>
 mk (callS false EE 15 [nilA, nilA] B10 fun a13 B14 =>
 ob (xext 0 (shr a13)) fun a15 =>
 ob (xext 1 (shr a13)) fun a16 =>
 mk (asB (shr (shr (shr (shr a5)))) fun t17 => br t17 (ob (xbin PP .eql 3 (shr (shr (shr a3))) (iv 0)) fun a18 =>
 asB (shr (shr a18)) fun t19 => br t19 (ob (xbin PP .eql 3 (shr (shr (shr a4))) (iv 0)) fun a20 =>
 asB (shr (shr a20)) fun t21 => br t21 (ob (xbin PP .eql 3 (shr (shr (shr a11))) (iv 3)) fun a22 =>
 asB (shr (shr a22)) fun t23 => br t23 (asB (shr (shr (shr (shr (shr a12))))) fun t24 => br t24 (ob (xbin PP .eql 3 (shr (shr (shr a15))) (iv 0)) fun a25 =>
 asB (shr (shr a25)) fun t26 => br t26 (ob (xun PP .not (shr (shr (shr a16)))) fun a27 =>
 asB (shr (shr a27)) fun t28 => br t28 (callS false EE 17 [nilA] B14 fun a29 B30 =>
 ob (xbin PP .eql 3 a29 (iv 0)) fun a31 =>
 asB (shr (shr a31)) fun t32 => br t32 (ob (Z7h PP 39 []) fun a33 =>
 callS false EE 19 [a33] B30 fun a34 B35 =>
 ob (xlen PP 40 a34) fun a36 =>
 ob (xbin PP .eql 3 a36 (iv 1)) fun a37 =>
 Z8D (shr (shr a37)) B35)
 (Z8D (bv false) B30))
 (Z8D (bv false) B14))
 (Z8D (bv false) B14))
 (Z8D (bv false) B14))
 (Z8D (bv false) B14))
 (Z8D (bv false) B14))
 (Z8D (bv false) B14))
 (Z8D (bv false) B14))))))) := (E_eq PP XX HH _ _ _).trans (by kernel_rfl)
noncomputable def f3_c : Code := Z33 Tryz.f3
def ZgP (r0 : AV) (B : List Row) : Option Res :=
 ob (ob (some r0) fun v => ob (some []) fun vs => some (v :: vs)) fun vs => some ((nrmA (match vs with | [v] => v | vs => Z74 (vs.map shr))), B)
noncomputable def Zuj (m0 : Nat) : Kont := kret PP HH 3 Tryz.f3.results
noncomputable def Zpz (m0 : Nat) (x0 : AV) (B : List Row) : Option Res := exec PP HH 3 m0 EE LL (l2 (l2 f3_c)) (Zuj m0) [(0, x0)] B
noncomputable def ZpA (m0 : Nat) (x0 : AV) (B : List Row) : Option Res := exec PP HH 3 m0 EE LL (l2 (l2 (l2 f3_c))) (Zuj m0) [(0, x0)] B
theorem Ztz (m0 : Nat) (x0 : AV) (B : List Row) : Zpz m0 x0 B =
 mk (callS false EE 11 [(shr x0)] B fun a5 B6 =>
 ob (xun PP .not a5) fun a7 =>
 asB a7 fun t8 => br t8 (mk (ZgP (bv true) B6))
 (ZpA m0 x0 (gcB m0 [x0] B6))) := by kernel_rfl
theorem ZtA (m0 : Nat) (x0 : AV) (B : List Row) : ZpA m0 x0 B =
 mk (callS false EE 12 [(shr x0)] B fun a9 B10 =>
 ob (xext 0 (shr a9)) fun a11 =>
 ob (xext 1 (shr a9)) fun a12 =>
 ob (xext 2 (shr a9)) fun a13 =>
 mk (callS false EE 14 [(shr x0)] B10 fun a14 B15 =>
 callS false EE 13 [a14] B15 fun a16 B17 =>
 ob (xext 0 (shr a16)) fun a18 =>
 ob (xext 1 (shr a16)) fun a19 =>
 ob (xext 2 (shr a16)) fun a20 =>
 mk (ob (xbin PP .eql 3 (shr (shr (shr a11))) (shr (shr (shr a18)))) fun a21 =>
 asB (shr a21) fun t22 => br t22 (ob (xbin PP .eql 3 (shr (shr (shr a12))) (shr (shr (shr a19)))) fun a23 =>
 asB (shr (shr a23)) fun t24 => br t24 (ob (xbin PP .eql 4 (shr (shr (shr a13))) (shr (shr (shr a20)))) fun a25 =>
 ZgP (shr (shr a25)) B17)
 (ZgP (bv false) B17))
 (ZgP (bv false) B17)))) := by kernel_rfl
theorem Zx5 (x0 : AV) (B : List Row) : EE 3 [x0] B =
 (let m0 := B.length
 mk (mk (callS false EE 10 [] B fun a1 B2 =>
 ob (xun PP .not a1) fun a3 =>
 asB a3 fun t4 => br t4 (mk (ZgP (bv false) B2))
 (Zpz m0 x0 (gcB m0 [x0] B2))))) := (E_eq PP XX HH _ _ _).trans (by kernel_rfl)
end Go.Proofs.YtiigbcahdaoedaaGreatDoor.N3
end
section
namespace Go.Proofs.YtiigbcahdaoedaaGreatDoor.N3
open N2
open Go Go.Abs
set_option maxRecDepth 100000
abbrev Z8w  : (Int × Bool) → Res → Prop := fun r q => ∃ (ex : List Row), q = ((.p (.tup [(.v (.int .i64 r.1)), (.v (.bool r.2))])), ex)
theorem Zij  : ∀ a b q, Z8w  a q → Z8w  b q → a = b := by
 rintro a b q ⟨_, e1⟩ ⟨_, e2⟩
 have e := e1.symm.trans e2
 exact Zg0 (congrArg (fun q : Res => pI ((pT (pA q.1)).getD 0 .junk)) e) (congrArg (fun q : Res => pB ((pT (pA q.1)).getD 1 .junk)) e)
abbrev Z3I  : (Bool) → Res → Prop := fun r q => ∃ (ex : List Row), q = ((bv r), ex)
theorem Zdh  : ∀ a b q, Z3I  a q → Z3I  b q → a = b := by
 rintro a b q ⟨_, e1⟩ ⟨_, e2⟩
 have e := e1.symm.trans e2
 exact congrArg (fun q : Res => pB (pA q.1)) e
abbrev Z1M  : (Bool) → Res → Prop := fun r q => ∃ (ex : List Row), q = ((bv r), ex)
theorem ZaQ  : ∀ a b q, Z1M  a q → Z1M  b q → a = b := by
 rintro a b q ⟨_, e1⟩ ⟨_, e2⟩
 have e := e1.symm.trans e2
 exact congrArg (fun q : Res => pB (pA q.1)) e
noncomputable def Z59 (x0 : List Z0) : Option (Bool) := pick fun r => ∀ (ox0 : Own), RRun (Z1M) (EE 3 [(.p (.lst ox0 (x0.map Z3)))] []) r
theorem g_colanderlaw19_JudgeAgrees_to (x0 : List Z0) (ox0 : Own) : Sim (Z1M) (Z59 x0) (EE 3 [(.p (.lst ox0 (x0.map Z3)))] []) := fun _ h => ZD h ox0
noncomputable def Z53  : Option (Bool) := pick fun r => RRun (Z3I) (EE 10 [] []) r
theorem ZcV  : Sim (Z3I) (Z53) (EE 10 [] []) := fun _ h => ZD h
noncomputable def Z2f (x0 : List Z0) : Option (Int × Int × Bool) := pick fun r => ∀ (ox0 : Own), RRun (ZY) (EE 12 [(.p (.lst ox0 (x0.map Z3)))] []) r
theorem Z9I (x0 : List Z0) (ox0 : Own) : Sim (ZY) (Z2f x0) (EE 12 [(.p (.lst ox0 (x0.map Z3)))] []) := fun _ h => ZD h ox0
noncomputable def Z8E (x0 : List Z0) (x1 : List Bool) : Option (Int × Bool) := pick fun r => ∀ (ox0 : Own) (ox1 : Own), RRun (Z8w) (EE 15 [(.p (.lst ox0 (x0.map Z3))), (.p (.lst ox1 (x1.map eB)))] []) r
theorem ZcP (x0 : List Z0) (x1 : List Bool) (ox0 : Own) (ox1 : Own) : Sim (Z8w) (Z8E x0 x1) (EE 15 [(.p (.lst ox0 (x0.map Z3))), (.p (.lst ox1 (x1.map eB)))] []) := fun _ h => ZD h ox0 ox1
noncomputable def Z2w (x0 : List Z0) : Option (Int) := pick fun r => ∀ (ox0 : Own), RRun (Ze) (EE 17 [(.p (.lst ox0 (x0.map Z3)))] []) r
theorem ZcO (x0 : List Z0) (ox0 : Own) : Sim (Ze) (Z2w x0) (EE 17 [(.p (.lst ox0 (x0.map Z3)))] []) := fun _ h => ZD h ox0
noncomputable def Z3M (x0 : Z0) : Option ((List Zp)) := pick fun r => ∀ (ox0_Log : Own), RRun (Z2h) (EE 19 [(.p (.agg (Zv x0 ox0_Log)))] []) r
theorem ZdZ (x0 : Z0) (ox0_Log : Own) : Sim (Z2h) (Z3M x0) (EE 19 [(.p (.agg (Zv x0 ox0_Log)))] []) := fun _ h => ZD h ox0_Log
noncomputable def Z1u (x0 : List Z0) : Option (Bool) := pick fun r => ∀ (ox0 : Own), RRun (Z6) (EE 11 [(.p (.lst ox0 (x0.map Z3)))] []) r
theorem Z8l (x0 : List Z0) (ox0 : Own) : Sim (Z6) (Z1u x0) (EE 11 [(.p (.lst ox0 (x0.map Z3)))] []) := fun _ h => ZD h ox0
noncomputable def Z1p (x0 : List Z0) : Option ((List Z1)) := pick fun r => ∀ (ox0 : Own), RRun (Z1B) (EE 14 [(.p (.lst ox0 (x0.map Z3)))] []) r
theorem Z87 (x0 : List Z0) (ox0 : Own) : Sim (Z1B) (Z1p x0) (EE 14 [(.p (.lst ox0 (x0.map Z3)))] []) := fun _ h => ZD h ox0
noncomputable def Z2J (x0 : List Z1) : Option (Int × Int × Bool) := pick fun r => ∀ (ox0 : Own), RRun (ZY) (EE 13 [(.p (.lst ox0 (x0.map Zf)))] []) r
theorem ZdC (x0 : List Z1) (ox0 : Own) : Sim (ZY) (Z2J x0) (EE 13 [(.p (.lst ox0 (x0.map Zf)))] []) := fun _ h => ZD h ox0
noncomputable def Zbs (x0 : List Z1) (x1 : List Bool) : Option (Int × Bool) := pick fun r => ∀ (ox0 : Own) (ox1 : Own), RRun (Zbg) (EE 16 [(.p (.lst ox0 (x0.map Zf))), (.p (.lst ox1 (x1.map eB)))] []) r
theorem Zi5 (x0 : List Z1) (x1 : List Bool) (ox0 : Own) (ox1 : Own) : Sim (Zbg) (Zbs x0 x1) (EE 16 [(.p (.lst ox0 (x0.map Zf))), (.p (.lst ox1 (x1.map eB)))] []) := fun _ h => ZD h ox0 ox1
noncomputable def Zbr (x0 : List Z1) : Option (Int) := pick fun r => ∀ (ox0 : Own), RRun (Ze) (EE 18 [(.p (.lst ox0 (x0.map Zf)))] []) r
theorem Zi3 (x0 : List Z1) (ox0 : Own) : Sim (Ze) (Zbr x0) (EE 18 [(.p (.lst ox0 (x0.map Zf)))] []) := fun _ h => ZD h ox0
noncomputable def Z3q (x0 : Z0) : Option (Bool) := pick fun r => ∀ (ox0_Log : Own), RRun (Z6) (EE 23 [(.p (.agg (Zv x0 ox0_Log)))] []) r
theorem Z8V (x0 : Z0) (ox0_Log : Own) : Sim (Z6) (Z3q x0) (EE 23 [(.p (.agg (Zv x0 ox0_Log)))] []) := fun _ h => ZD h ox0_Log
noncomputable def Zds (x0 : Z0) (x1 : Z0) : Option (Bool) := pick fun r => ∀ (ox0_Log : Own) (ox1_Log : Own), RRun (Z6) (EE 24 [(.p (.agg (Zv x0 ox0_Log))), (.p (.agg (Zv x1 ox1_Log)))] []) r
theorem ZjE (x0 : Z0) (x1 : Z0) (ox0_Log : Own) (ox1_Log : Own) : Sim (Z6) (Zds x0 x1) (EE 24 [(.p (.agg (Zv x0 ox0_Log))), (.p (.agg (Zv x1 ox1_Log)))] []) := fun _ h => ZD h ox0_Log ox1_Log
noncomputable def Z6o (x0 : Z1) (x1 : Z1) : Option (Bool) := pick fun r => ∀ (ox0_Log : Own) (ox1_Log : Own), RRun (Z6) (EE 25 [(.p (.agg (ZP x0 ox0_Log))), (.p (.agg (ZP x1 ox1_Log)))] []) r
theorem ZdD (x0 : Z1) (x1 : Z1) (ox0_Log : Own) (ox1_Log : Own) : Sim (Z6) (Z6o x0 x1) (EE 25 [(.p (.agg (ZP x0 ox0_Log))), (.p (.agg (ZP x1 ox1_Log)))] []) := fun _ h => ZD h ox0_Log ox1_Log
noncomputable def Z9J (x0 : Z0) (x1 : Z0) : Option ((List Z8h) × Int) := pick fun r => ∀ (ox0_Log : Own) (ox1_Log : Own), RRun (Z9B) (EE 26 [(.p (.agg (Zv x0 ox0_Log))), (.p (.agg (Zv x1 ox1_Log)))] []) r
theorem Zgh (x0 : Z0) (x1 : Z0) (ox0_Log : Own) (ox1_Log : Own) : Sim (Z9B) (Z9J x0 x1) (EE 26 [(.p (.agg (Zv x0 ox0_Log))), (.p (.agg (Zv x1 ox1_Log)))] []) := fun _ h => ZD h ox0_Log ox1_Log
noncomputable def Z2Y (x0 : List Z0) : Option (Bool) :=
 (Z2f x0).bind fun r1 =>
 (Z1p x0).bind fun r2 =>
 (Z2J r2).bind fun r3 =>
 if ((r1.1 == r3.1)) = true then
 (if ((r1.2.1 == r3.2.1)) = true then
 (some ((r1.2.2 == r3.2.2)))
 else
 (some (false)))
 else
 (some (false))
theorem Z91 (x0 : List Z0) (ox0 : Own) : Sim (Z1M) (Z2Y x0) (ZpA 0 (.p (.lst ox0 (x0.map Z3))) []) := by
 unfold Z2Y
 refine zf (ZtA ..) ?_
 refine ze ?_
 refine zi fun r1 hr1 => ?_
 obtain ⟨qr1, er1, exr1, rfl⟩ := Z9I (x0) .sh r1 hr1
 refine zc [] (.p (.tup [(.v (.int .i64 r1.1)), (.v (.int .i64 r1.2.1)), (.v (.bool r1.2.2))])) [] er1 ?_
 refine zo (iv r1.1) ?_
 refine zo (iv r1.2.1) ?_
 refine zo (bv r1.2.2) ?_
 refine ze ?_
 refine zi fun r2 hr2 => ?_
 obtain ⟨qr2, er2, exr2, rfl⟩ := Z87 (x0) .sh r2 hr2
 refine zc [] (.p (.lst .sh (r2.map Zf))) [] er2 ?_
 refine zi fun r3 hr3 => ?_
 obtain ⟨qr3, er3, exr3, rfl⟩ := ZdC (r2) .sh r3 hr3
 refine zc [] (.p (.tup [(.v (.int .i64 r3.1)), (.v (.int .i64 r3.2.1)), (.v (.bool r3.2.2))])) [] er3 ?_
 refine zo (iv r3.1) ?_
 refine zo (iv r3.2.1) ?_
 refine zo (bv r3.2.2) ?_
 refine ze ?_
 refine zo (bv (r1.1 == r3.1)) ?_
 refine za ((r1.1 == r3.1)) ?_ ?_
 ·refine zo (bv (r1.2.1 == r3.2.1)) ?_
  refine za ((r1.2.1 == r3.2.1)) ?_ ?_
  ·refine zo (bv (r1.2.2 == r3.2.2)) ?_
   exact zr ((bv (r1.2.2 == r3.2.2)), []) ⟨_, rfl⟩
  ·exact zr ((bv false), []) ⟨_, rfl⟩
 ·exact zr ((bv false), []) ⟨_, rfl⟩
noncomputable def Z2X (x0 : List Z0) : Option (Bool) :=
 (Z1u x0).bind fun r1 =>
 if ((!r1)) = true then
 (some (true))
 else
 (Z2Y x0)
theorem Z90 (x0 : List Z0) (ox0 : Own) : Sim (Z1M) (Z2X x0) (Zpz 0 (.p (.lst ox0 (x0.map Z3))) []) := by
 unfold Z2X
 refine zf (Ztz ..) ?_
 refine ze ?_
 refine zi fun r1 hr1 => ?_
 obtain ⟨qr1, er1, exr1, rfl⟩ := Z8l (x0) .sh r1 hr1
 refine zc [] (bv r1) [] er1 ?_
 refine zo (bv (!r1)) ?_
 refine za ((!r1)) ?_ ?_
 ·refine ze ?_
  exact zr ((bv true), []) ⟨_, rfl⟩
 ·exact zk (Z91 (x0) ox0)
noncomputable def Z3A (x0 : List Z0) : Option (Bool) :=
 (Z53).bind fun r1 =>
 if ((!r1)) = true then
 (some (false))
 else
 (Z2X x0)
theorem Za3 (x0 : List Z0) (ox0 : Own) : Sim (Z1M) (Z3A x0) (EE 3 [(.p (.lst ox0 (x0.map Z3)))] []) := by
 unfold Z3A
 refine zf (Zx5 ..) ?_
 refine ze ?_
 refine ze ?_
 refine zi fun r1 hr1 => ?_
 obtain ⟨qr1, er1, exr1, rfl⟩ := ZcV  r1 hr1
 refine zc [] (bv r1) [] er1 ?_
 refine zo (bv (!r1)) ?_
 refine za ((!r1)) ?_ ?_
 ·refine ze ?_
  exact zr ((bv false), []) ⟨_, rfl⟩
 ·exact zk (Z90 (x0) ox0)
theorem Zan (x0 : List Z0) {r} (h : Z3A x0 = some r) : Z59 x0 = some r :=
 ZN (fun _ _ ha hb => RRun.uniq (ZaQ) (ha .ex) (hb .ex)) (fun ox0 => Za3 x0 ox0 r h)
noncomputable def Z4M  : Option (Bool) :=
 (Z2f (([] : List Z0))).bind fun r1 =>
 (Z8E (([(Z0.mk 3 3 0 0 ([] : List Z8))] : List Z0)) (([true] : List Bool))).bind fun r2 =>
 (Z8E (([] : List Z0)) (([] : List Bool))).bind fun r3 =>
 if (r1.2.2) = true then
 (if ((r1.1 == 0)) = true then
 (if ((r1.2.1 == 0)) = true then
 (if ((r2.1 == 3)) = true then
 (if (r2.2) = true then
 (if ((r3.1 == 0)) = true then
 (if ((!r3.2)) = true then
 ((Z2w (([] : List Z0))).bind fun r4 =>
 if ((r4 == 0)) = true then
 ((Z3M ((Z0.mk 0 0 0 0 ([] : List Z8)))).bind fun r5 =>
 some (((r5.length : Int) == 1)))
 else
 (some (false)))
 else
 (some (false)))
 else
 (some (false)))
 else
 (some (false)))
 else
 (some (false)))
 else
 (some (false)))
 else
 (some (false)))
 else
 (some (false))
theorem Zcn  : Sim (Z3I) (Z4M) (EE 10 [] []) := by
 unfold Z4M
 refine zf (Zvb ..) ?_
 refine ze ?_
 refine ze ?_
 refine zi fun r1 hr1 => ?_
 obtain ⟨qr1, er1, exr1, rfl⟩ := Z9I (([] : List Z0)) .sh r1 hr1
 refine zc [] (.p (.tup [(.v (.int .i64 r1.1)), (.v (.int .i64 r1.2.1)), (.v (.bool r1.2.2))])) [] er1 ?_
 refine zo (iv r1.1) ?_
 refine zo (iv r1.2.1) ?_
 refine zo (bv r1.2.2) ?_
 refine ze ?_
 refine zo (.p (.agg (Zv (Z0.mk 3 3 0 0 ([] : List Z8)) .nl))) ?_
 refine zo (.p (.lst .ex (([(Z0.mk 3 3 0 0 ([] : List Z8))] : List Z0).map Z3))) ?_
 refine zo (.p (.lst .ex (([true] : List Bool).map eB))) ?_
 refine zi fun r2 hr2 => ?_
 obtain ⟨qr2, er2, exr2, rfl⟩ := ZcP (([(Z0.mk 3 3 0 0 ([] : List Z8))] : List Z0)) (([true] : List Bool)) .sh .sh r2 hr2
 refine zc [] (.p (.tup [(.v (.int .i64 r2.1)), (.v (.bool r2.2))])) [] er2 ?_
 refine zo (iv r2.1) ?_
 refine zo (bv r2.2) ?_
 refine ze ?_
 refine zi fun r3 hr3 => ?_
 obtain ⟨qr3, er3, exr3, rfl⟩ := ZcP (([] : List Z0)) (([] : List Bool)) .sh .sh r3 hr3
 refine zc [] (.p (.tup [(.v (.int .i64 r3.1)), (.v (.bool r3.2))])) [] er3 ?_
 refine zo (iv r3.1) ?_
 refine zo (bv r3.2) ?_
 refine ze ?_
 refine za (r1.2.2) ?_ ?_
 ·refine zo (bv (r1.1 == 0)) ?_
  refine za ((r1.1 == 0)) ?_ ?_
  ·refine zo (bv (r1.2.1 == 0)) ?_
   refine za ((r1.2.1 == 0)) ?_ ?_
   ·refine zo (bv (r2.1 == 3)) ?_
    refine za ((r2.1 == 3)) ?_ ?_
    ·refine za (r2.2) ?_ ?_
     ·refine zo (bv (r3.1 == 0)) ?_
      refine za ((r3.1 == 0)) ?_ ?_
      ·refine zo (bv (!r3.2)) ?_
       refine za ((!r3.2)) ?_ ?_
       ·refine zi fun r4 hr4 => ?_
        obtain ⟨qr4, er4, exr4, rfl⟩ := ZcO (([] : List Z0)) .sh r4 hr4
        refine zc [] (iv r4) [] er4 ?_
        refine zo (bv (r4 == 0)) ?_
        refine za ((r4 == 0)) ?_ ?_
        ·refine zo (.p (.agg (Zv (Z0.mk 0 0 0 0 ([] : List Z8)) .nl))) ?_
         refine zi fun r5 hr5 => ?_
         obtain ⟨qr5, er5, exr5, rfl⟩ := ZdZ ((Z0.mk 0 0 0 0 ([] : List Z8))) .sh r5 hr5
         refine zc [] (.p (.lst .sh (r5.map ZC))) [] er5 ?_
         refine zo (iv (r5.length : Int)) ?_ (Eq.trans (by kernel_rfl) (ZU (P := PP) (t := 40) (d := 51) (by kernel_rfl) ZC .sh r5))
         refine zo (bv ((r5.length : Int) == 1)) ?_
         exact zr ((bv ((r5.length : Int) == 1)), []) ⟨_, rfl⟩
        ·exact zr ((bv false), []) ⟨_, rfl⟩
       ·exact zr ((bv false), []) ⟨_, rfl⟩
      ·exact zr ((bv false), []) ⟨_, rfl⟩
     ·exact zr ((bv false), []) ⟨_, rfl⟩
    ·exact zr ((bv false), []) ⟨_, rfl⟩
   ·exact zr ((bv false), []) ⟨_, rfl⟩
  ·exact zr ((bv false), []) ⟨_, rfl⟩
 ·exact zr ((bv false), []) ⟨_, rfl⟩
theorem ZcU  {r} (h : Z4M = some r) : Z53 = some r :=
 ZN (fun _ _ ha hb => RRun.uniq (Zdh) (ha ) (hb )) (Zcn  r h)
end Go.Proofs.YtiigbcahdaoedaaGreatDoor.N3
end
