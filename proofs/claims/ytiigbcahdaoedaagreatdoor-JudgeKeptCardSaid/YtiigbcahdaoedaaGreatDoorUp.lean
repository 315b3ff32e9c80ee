/- The upper functions: an evaluator to which the lower one is given; judge.Stable walked. No condition. -/
import Derived.Test.YtiigbcahdaoedaaGreatDoorEqs
import Derived.Maps.RangeWalk
import Derived.Maps.OwnOps
import Derived.Maps.OwnSet
import Derived.Maps.Views
import Derived.WalkKit
import Derived.Lib.Walk
import Derived.Test.YtiigbcahdaoedaaGreatDoorEvA
import Derived.Test.YtiigbcahdaoedaaGreatDoorProg
import Derived.KernelRfl
import Derived.Test.YtiigbcahdaoedaaGreatDoorTypA

set_option linter.unusedSimpArgs false
set_option linter.unusedVariables false
set_option linter.defProp false
section
namespace Go.Proofs.YtiigbcahdaoedaaGreatDoor.N3
open Go Go.Abs
noncomputable def xLow (f : FuncId) : List AV → List Row → Option Res := N2.EE f
def Ze9 : List PV → Option (List (Int × Int))
 | [] => some []
 | e :: r => match Z1j e, Ze9 r with
  | [.v (.int .i64 v), .v (.int .i64 n), .v (.int .i64 _), .v (.int .i64 _), .lst _ _], some l => some ((v, n) :: l)
  | _, _ => none
def Zh0 : List PV → Option (List Bool)
 | [] => some []
 | .v (.bool b) :: r => (Zh0 r).map (b :: ·)
 | _ => none
def inP (P : List (Int × Int)) (U : List Bool) (v : Int) (i : Nat) : Bool := (U[i]?).getD false && (match P[i]? with | some p => decide (p.1 = v ∧ p.2 = v) | none => false)
def cntP (P : List (Int × Int)) (U : List Bool) (k : Nat) (v : Int) : Nat := (List.range k).countP (inP P U v)
def Z5D (P : List (Int × Int)) (U : List Bool) (v : Int) : Bool := decide (P.length < 2 * cntP P U P.length v) && inP P U v (v.tmod P.length).toNat
def Zaf (P : List (Int × Int)) (U : List Bool) : List (Int × Int) → Int → Bool → Int × Bool
 | [], v, ok => (v, ok)
 | s :: R, v, ok => if Z5D P U s.1 = true ∧ (ok = false ∨ v < s.1) then Zaf P U R s.1 true else Zaf P U R v ok
noncomputable def ZgX (args : List AV) (B : List Row) : Option Res :=
 match args with
 | [.p (.lst _ xs), .p (.lst _ us)] =>
  match N2.EE 28 [.p (.lst .sh xs)] [] with
  | some (.p (.lst _ ys), _) =>
   match Ze9 ys, Zh0 us with
   | some P, some U =>
    if P.length ≤ 1048576 ∧ (P.all fun x => decide (0 ≤ x.1 ∧ x.1 ≤ 4611686018427387904)) = true then
     some (.p (.tup [.v (.int .i64 (Zaf P U P 0 false).1), .v (.bool (Zaf P U P 0 false).2)]), B)
    else none
   | _, _ => none
  | _ => none
 | _ => none
end Go.Proofs.YtiigbcahdaoedaaGreatDoor.N3
end
section
namespace Go.Proofs.YtiigbcahdaoedaaGreatDoor.N3
open Go Go.Abs Go.Maps
set_option maxRecDepth 100000
def Za2 (D : DataW Unit) (c : Int → Nat) : Prop := IsMap D ∧ (∀ v, D.atKey (.int .i64 v) (.lit (.int .i64 0)) = .lit (.int .i64 (c v))) ∧ ∀ v, has D (.int .i64 v) = decide (0 < c v)
def Za1 (D : DataW Unit) (f : Int → Bool) : Prop := IsMap D ∧ ∀ v, D.atKey (.int .i64 v) (.lit (.bool false)) = .lit (.bool (f v))
def fstP (P : List (Int × Int)) (U : List Bool) (k : Nat) (v : Int) : Bool := decide ((v.tmod P.length).toNat < k) && inP P U v (v.tmod P.length).toNat
theorem ZAn : Za2 (.map []) (fun _ => 0) := ⟨isMap_empty, fun _ => rfl, fun _ => rfl⟩
theorem ZAg : Za1 (.map []) (fun _ => false) := ⟨isMap_empty, fun _ => rfl⟩
theorem ZmO (v : Int) : WideAt.IsKeyLit (.int .i64 v) := trivial
theorem Zpy {a b : Int} (h : a ≠ b) : (Lit.int .i64 a) ≠ .int .i64 b := fun e => h (by cases e; rfl)
theorem Za2.put {D : DataW Unit} {c : Int → Nat} (h : Za2 D c) (v : Int) (n : Nat) (hn : 0 < n) : Za2 (D.put (.int .i64 v) (.lit (.int .i64 n))) (fun x => if x = v then n else c x) := by
 refine ⟨h.1.put _ _, fun x => ?_, fun x => ?_⟩
 ·by_cases e : x = v
  ·subst e; rw [atKey_put_same h.1 (ZmO _)]; simp
  ·rw [atKey_put_other (Zpy e), h.2.1]; simp [e]
 ·by_cases e : x = v
  ·subst e; rw [has_put_same h.1 (ZmO _)]; simp [hn]
  ·rw [has_put_other (Zpy e), h.2.2]; simp [e]
theorem Za1.put {D : DataW Unit} {f : Int → Bool} (h : Za1 D f) (v : Int) : Za1 (D.put (.int .i64 v) (.lit (.bool true))) (fun x => if x = v then true else f x) := by
 refine ⟨h.1.put _ _, fun x => ?_⟩
 by_cases e : x = v
 ·subst e; rw [atKey_put_same h.1 (ZmO _)]; simp
 ·rw [atKey_put_other (Zpy e), h.2]; simp [e]
theorem Za2.congr {D : DataW Unit} {c c' : Int → Nat} (h : Za2 D c) (e : ∀ v, c v = c' v) : Za2 D c' := by
 rw [← show c = c' from funext e]; exact h
theorem Za1.congr {D : DataW Unit} {c c' : Int → Bool} (h : Za1 D c) (e : ∀ v, c v = c' v) : Za1 D c' := by
 rw [← show c = c' from funext e]; exact h
section
variable {P : List (Int × Int)} {U : List Bool} {k : Nat}
theorem Zrl (v : Int) : cntP P U (k + 1) v = cntP P U k v + (if inP P U v k = true then 1 else 0) := by
 unfold cntP; rw [List.range_succ, List.countP_append, Zxc]
theorem ZxB (v : Int) : cntP P U k v ≤ k := Zgr ZnX (by simp)
theorem ZAi (h : ¬ ((U[k]?).getD false = true ∧ ∃ p, P[k]? = some p ∧ p.1 = p.2)) (v : Int) : inP P U v k = false := by
 unfold inP
 cases hu : (U[k]?).getD false with
 | false => rfl
 | true =>
  rw [Z85]
  cases hp : P[k]? with
  | none => rfl
  | some p =>
   simp only [decide_eq_false_iff_not]
   rintro ⟨e1, e2⟩
   exact h ⟨hu, p, hp, by rw [e1, e2]⟩
theorem Zve (h : ¬ ((U[k]?).getD false = true ∧ ∃ p, P[k]? = some p ∧ p.1 = p.2)) (v : Int) : cntP P U k v = cntP P U (k + 1) v := by
 rw [Zrl, ZAi h]; simp
theorem Zvm (h : ¬ ((U[k]?).getD false = true ∧ ∃ p, P[k]? = some p ∧ p.1 = p.2)) (v : Int) : fstP P U k v = fstP P U (k + 1) v := by
 unfold fstP
 by_cases e : (v.tmod P.length).toNat = k
 ·rw [e, ZAi h]; simp
 ·congr 1
  exact decide_eq_decide.2 (by omega)
theorem Zrd {p : Int × Int} (hu : (U[k]?).getD false = true) (hp : P[k]? = some p) (he : p.2 = p.1) (v : Int) : inP P U v k = decide (v = p.1) := by
 unfold inP
 rw [hu, hp, Z85]
 exact decide_eq_decide.2 ⟨fun h => h.1.symm, fun h => ⟨h.symm, by rw [he, h]⟩⟩
theorem ZDd {p : Int × Int} (hu : (U[k]?).getD false = true) (hp : P[k]? = some p) (he : p.2 = p.1) (v : Int) : (if v = p.1 then cntP P U k p.1 + 1 else cntP P U k v) = cntP P U (k + 1) v := by
 rw [Zrl, Zrd hu hp he]
 by_cases e : v = p.1
 ·subst e; simp
 ·simp [e]
theorem ZF9 {p : Int × Int} (hu : (U[k]?).getD false = true) (hp : P[k]? = some p) (he : p.2 = p.1) (h0 : 0 ≤ p.1) (ht : p.1.tmod P.length = k) (v : Int) : (if v = p.1 then true else fstP P U k v) = fstP P U (k + 1) v := by
 by_cases e : v = p.1
 ·subst e
  unfold fstP
  rw [if_pos rfl, ht, Zhv, Zrd hu hp he]
  simp
 ·rw [if_neg e]
  unfold fstP
  by_cases e2 : (v.tmod P.length).toNat = k
  ·rw [e2, Zrd hu hp he, decide_eq_false e]; simp
  ·congr 1
   exact decide_eq_decide.2 (by omega)
theorem ZCL {p : Int × Int} (hu : (U[k]?).getD false = true) (hp : P[k]? = some p) (he : p.2 = p.1) (h0 : 0 ≤ p.1) (ht : p.1.tmod P.length ≠ k) (v : Int) : fstP P U k v = fstP P U (k + 1) v := by
 unfold fstP
 by_cases e2 : (v.tmod P.length).toNat = k
 ·rw [e2, Zrd hu hp he]
  have : v ≠ p.1 := by
   rintro rfl
   have := Int.tmod_nonneg (a := p.1) (P.length : Int) h0
   omega
  rw [decide_eq_false this]; simp
 ·congr 1
  exact decide_eq_decide.2 (by omega)
theorem Zvf {v : Int} (h : 0 < cntP P U k v) : ∃ p ∈ P, p.1 = v := by
 unfold cntP at h
 obtain ⟨i, _, hi⟩ := List.countP_pos_iff.1 h
 unfold inP at hi
 cases hp : P[i]? with
 | none => rw [hp] at hi; simp at hi
 | some p =>
  rw [hp] at hi
  simp at hi
  exact ⟨p, q6_ hp, hi.2.1⟩
theorem Zuz {v : Int} (h : Z5D P U v = true) : 0 < cntP P U P.length v := by
 unfold Z5D at h
 simp at h
 omega
theorem ZD9 {v : Int} (hP : 0 < P.length) (h0 : 0 ≤ v) : Z5D P U v = (fstP P U P.length v && decide (P.length < 2 * cntP P U P.length v)) := by
 unfold Z5D fstP
 have h1 := Int.tmod_lt_of_pos v (b := (P.length : Int)) (by omega)
 have h2 := Int.tmod_nonneg (a := v) (P.length : Int) h0
 rw [decide_eq_true (show (v.tmod P.length).toNat < P.length by omega), Z85, Bool.and_comm]
def Best (P : List (Int × Int)) (U : List Bool) (gone : Int → Bool) (v : Int) (ok : Bool) : Prop :=
 (ok = false ∧ v = 0 ∧ ∀ x, gone x = true → Z5D P U x = false) ∨ (ok = true ∧ Z5D P U v = true ∧ gone v = true ∧ ∀ x, gone x = true → Z5D P U x = true → x ≤ v)
theorem ZkU : ∀ (R : List (Int × Int)) (g : Int → Bool) (v : Int) (ok : Bool), Best P U g v ok → Best P U (fun x => g x || R.any (fun p => p.1 == x)) (Zaf P U R v ok).1 (Zaf P U R v ok).2
 | [], g, v, ok, h => by simpa [Zaf] using h
 | s :: R, g, v, ok, h => by
  have e : (fun x => g x || (s :: R).any (fun p => p.1 == x)) = fun x => (g x || s.1 == x) || R.any (fun p => p.1 == x) := by
   funext x; simp [Bool.or_assoc]
  rw [e]
  unfold Zaf
  split
  ·rename_i hc
   refine ZkU R _ _ _ (.inr ⟨rfl, hc.1, by simp, fun x hx hs => ?_⟩)
   simp only [ZbY, beq_iff_eq] at hx
   rcases hx with hx | rfl
   ·rcases h with ⟨_, _, h3⟩ | ⟨h1, _, _, h4⟩
    ·rw [h3 x hx] at hs; simp at hs
    ·have := h4 x hx hs
     rcases hc.2 with h5 | h5
     ·rw [h1] at h5; simp at h5
     ·omega
   ·exact Int.le_refl _
  ·rename_i hc
   refine ZkU R _ _ _ ?_
   rcases h with ⟨h1, h2, h3⟩ | ⟨h1, h2, h3, h4⟩
   ·refine .inl ⟨h1, h2, fun x hx => ?_⟩
    simp only [ZbY, beq_iff_eq] at hx
    rcases hx with hx | rfl
    ·exact h3 x hx
    ·cases hs : Z5D P U s.1
     ·rfl
     ·exact absurd ⟨hs, .inl h1⟩ hc
   ·refine .inr ⟨h1, h2, by simp [h3], fun x hx hs => ?_⟩
    simp only [ZbY, beq_iff_eq] at hx
    rcases hx with hx | rfl
    ·exact h4 x hx hs
    ·apply Int.not_lt.1
     exact fun hlt => hc ⟨hs, .inr hlt⟩
theorem ZAY {g : Int → Bool} {v : Int} {ok : Bool} (h : Best P U g v ok) (hg : ∀ x, 0 < cntP P U P.length x → g x = true) : Zaf P U P 0 false = (v, ok) := by
 have hb : Best P U (fun x => false || P.any (fun p => p.1 == x)) (Zaf P U P 0 false).1 (Zaf P U P 0 false).2 := ZkU P (fun _ => false) 0 false (.inl ⟨rfl, rfl, fun x hx => by simp at hx⟩)
 have hm : ∀ x, Z5D P U x = true → (false || P.any (fun p => p.1 == x)) = true := fun x hx => by
  obtain ⟨p, hp, rfl⟩ := Zvf (Zuz hx)
  simp only [ZqK, List.any_eq_true, beq_iff_eq]
  exact ⟨p, hp, rfl⟩
 have hs : ∀ x, Z5D P U x = true → g x = true := fun x hx => hg x (Zuz hx)
 rcases h with ⟨rfl, rfl, h3⟩ | ⟨rfl, h2, h3, h4⟩
 ·rcases hb with ⟨e1, e2, _⟩ | ⟨_, e2, _⟩
  ·exact Zc1 e2 e1
  ·rw [h3 _ (hs _ e2)] at e2; simp at e2
 ·rcases hb with ⟨_, _, e3⟩ | ⟨e1, e2, _, e4⟩
  ·rw [e3 _ (hm _ h2)] at h2; simp at h2
  ·have a1 := e4 v (hm _ h2) h2
   have a2 := h4 _ (hs _ e2) e2
   exact Zc1 (by omega) e1
theorem Zxz {g : Int → Bool} {v : Int} {ok : Bool} (h : Best P U g v ok) (x : Int) (hs : Z5D P U x = true) (hc : ok = false ∨ v < x) : Best P U (fun y => g y || y == x) x true := by
 refine .inr ⟨rfl, hs, by simp, fun y hy hys => ?_⟩
 simp only [ZbY, beq_iff_eq] at hy
 rcases hy with hy | rfl
 ·rcases h with ⟨_, _, h3⟩ | ⟨h1, _, _, h4⟩
  ·rw [h3 y hy] at hys; simp at hys
  ·have := h4 y hy hys
   rcases hc with h5 | h5
   ·rw [h1] at h5; simp at h5
   ·omega
 ·exact Int.le_refl _
theorem Zxy {g : Int → Bool} {v : Int} {ok : Bool} (h : Best P U g v ok) (x : Int) (hc : Z5D P U x = true → ok = true ∧ x ≤ v) : Best P U (fun y => g y || y == x) v ok := by
 rcases h with ⟨h1, h2, h3⟩ | ⟨h1, h2, h3, h4⟩
 ·refine .inl ⟨h1, h2, fun y hy => ?_⟩
  simp only [ZbY, beq_iff_eq] at hy
  rcases hy with hy | rfl
  ·exact h3 y hy
  ·cases hs : Z5D P U y
   ·rfl
   ·have := (hc hs).1; rw [h1] at this; simp at this
 ·refine .inr ⟨h1, h2, by simp [h3], fun y hy hs => ?_⟩
  simp only [ZbY, beq_iff_eq] at hy
  rcases hy with hy | rfl
  ·exact h4 y hy hs
  ·exact (hc hs).2
theorem ZqU {D : DataW Unit} {left : Lit → Bool} {x : Int} (hx : has D (.int .i64 x) = true) {v : Int} {ok : Bool} (h : Best P U (fun y => (has D (.int .i64 y) && !left (.int .i64 y)) || y == x) v ok) :
  Best P U (fun y => has D (.int .i64 y) && !(left (.int .i64 y) && !(Lit.int .i64 y).sameKey (.int .i64 x))) v ok := by
 have e : (fun y => has D (.int .i64 y) && !(left (.int .i64 y) && !(Lit.int .i64 y).sameKey (.int .i64 x))) = fun y => (has D (.int .i64 y) && !left (.int .i64 y)) || y == x := by
  funext y
  by_cases e : y = x
  ·subst e
   rw [hx, WideAt.sameKey_self (ZmO _)]
   simp
  ·rw [sameKey_ne (Zpy e)]
   have : (y == x) = false := by simpa using e
   simp [this]
 rw [e]; exact h
end
end Go.Proofs.YtiigbcahdaoedaaGreatDoor.N3
end
section
namespace Go.Proofs.YtiigbcahdaoedaaGreatDoor.N3
open Go Go.Abs Go.Maps Go.RowKit
theorem law3 : Keyed Tryz.prog 3 := int_keyed Tryz.underlying3
theorem ZCv (w : World) : (zeroValue 3).run Tryz.prog w = .ok (.int .i64 0) w := by kernel_rfl
theorem ZFR (w : World) : (zeroValue 4).run Tryz.prog w = .ok (.bool false) w := by kernel_rfl
theorem ZC2 {w w' : World} {b o : Nat} (h : w'.heap[b]? = w.heap[b]?) : w'.cell? ⟨b, o, none⟩ = w.cell? ⟨b, o, none⟩ := by unfold World.cell?; simp only [h]
def Hid (p : Prop) : Prop := p
def ZvG (m : Nat) (w : World) (a : Option Addr) (P : List (Int × Int)) : Prop :=
 P = [] ∨ ∃ b off, a = some ⟨b, off, none⟩ ∧ b < m ∧ ∀ (i : Nat) (x : Int × Int), P[i]? = some x → ∃ z2 z3 a4 n4 m4, w.cell? ⟨b, off + i * 5, none⟩ = some (.int .i64 x.1) ∧ w.cell? ⟨b, off + i * 5 + 1, none⟩ = some (.int .i64 x.2) ∧
  w.cell? ⟨b, off + i * 5 + 2, none⟩ = some (.int .i64 z2) ∧ w.cell? ⟨b, off + i * 5 + 3, none⟩ = some (.int .i64 z3) ∧ w.cell? ⟨b, off + i * 5 + 4, none⟩ = some (.slice a4 n4 m4)
def ZvH (m : Nat) (w : World) (a : Option Addr) (U : List Bool) : Prop :=
 U = [] ∨ ∃ b off, a = some ⟨b, off, none⟩ ∧ b < m ∧ ∀ i x, U[i]? = some x → w.cell? ⟨b, off + i, none⟩ = some (.bool x)
set_option maxRecDepth 100000 in
theorem ZuW {w : World} {b n : Nat} {D : DataW Unit} (h : w.ownsMap Tryz.prog 3 (plainElem Tryz.prog 4) b n D) {v : Int} (hw : (Lit.int .i64 v).wf = true) {x : Bool} (hx : D.atKey (.int .i64 v) (.lit (.bool false)) = .lit (.bool x)) :
  (Instr.lookup 72 (.map (some b)) (.int .i64 v) false).run Tryz.prog w = .ok (.bool x) w := by
 obtain ⟨u, ps, hrun, hv⟩ := h.lookup law3 Tryz.underlying72 (ZFR w) (plainElem_bool Tryz.underlying4 false) (keyOf_int_mk Tryz.underlying3 hw)
 rw [hrun]
 rw [hx] at hv
 unfold plainElem at hv
 rw [Tryz.underlying4] at hv
 cases u <;> simp at hv
 rw [hv.1]
theorem ZFO {v : Int} (h : 0 ≤ v ∧ v ≤ 4611686018427387904) : (Lit.int .i64 v).wf = true := WalkArith.wf_i64 (by omega)
set_option maxRecDepth 100000 in
set_option maxHeartbeats 4000000 in
theorem Zva (P : List (Int × Int)) (U : List Bool) (lv : Value) (ua : Option Addr) (ucap : Nat) (w : World) (hlen : P.length ≤ 1048576) (hP : ∀ x ∈ P, 0 ≤ x.1 ∧ x.1 ≤ 4611686018427387904)
  (hU : ZvH w.heap.size w ua U)
  (hR : Calls Tryz.prog 28 #[lv] w fun e W => ∃ a cap, e = .returned (.slice a P.length cap) ∧ Below w.heap.size w W ∧ ZvG W.heap.size W a P) :
  Calls Tryz.prog 15 #[lv, .slice ua U.length ucap] w fun e W' => e = .returned (.tuple #[.int .i64 (Zaf P U P 0 false).1, .bool (Zaf P U P 0 false).2]) ∧ Below w.heap.size w W' := by
 have hmm := @run_makeMap Tryz.prog
 go_enter Tryz.func15, Tryz.ntmps15
 go_wp2_with (go_at_call 28; refine hR.mono ?_; rintro e W ⟨a, cap, rfl, hbw, hl⟩)
 have hUW : ZvH W.heap.size W ua U := by
  rcases hU with h | ⟨b, off, h1, h2, h3⟩
  ·exact .inl h
  ·exact .inr ⟨b, off, h1, Zhu h2 hbw.size, fun i x hx => (hbw.cell (p := ⟨b, off + i, none⟩) h2).trans (h3 i x hx)⟩
 clear hU hR
 obtain ⟨N, hN⟩ : ∃ N, P.length = N := ⟨_, rfl⟩
 have hb0 : Hid (Below w.heap.size w W) := hbw
 clear hbw
 go_wp2
 rw [hN]
 go_loopw [18] (fun p18 wr => ∃ k : Nat, k ≤ N ∧ p18 = .int .i64 k ∧ ∃ D1 D2, Za2 D1 (cntP P U k) ∧ Za1 D2 (fstP P U k) ∧ wr.ownsMap Tryz.prog 3 (plainElem Tryz.prog 3) W.heap.size k D1 ∧ wr.ownsMap Tryz.prog 3 (plainElem Tryz.prog 4) (W.heap.size + 1) k D2 ∧ Below W.heap.size W wr)
  (fun p18 _ => N - (intOf p18).toNat)
 case atStart =>
  refine ⟨0, Nat.zero_le _, rfl, .map [], .map [], ZAn.congr fun _ => rfl, ZAg.congr fun v => ?_, (World.ownsMap_made W _ _ _).alloc _, ?_, ((Below.refl _ _).alloc (Z2w _) _).alloc (by simp) _⟩
  ·unfold fstP; simp
  ·have := World.ownsMap_made (W.alloc (.map #[] 0)) Tryz.prog 3 (plainElem (H := Unit) Tryz.prog 4)
   simpa using this
 case round =>
  obtain ⟨k, hk, rfl, D1, D2, hD1, hD2, hm1, hm2, hbr⟩ := hrel
  by_cases hlt : k < N
  ·have hkP : k < P.length := by omega
   have hx : P[k]? = some P[k] := q2_ hkP
   have hxP := hP _ (Z8S hkP)
   rcases hl with rfl | ⟨b, off, rfl, hbW, hcs⟩
   ·simp at hkP
   obtain ⟨z2, z3, a4, n4, m4, d0, d1, d2, d3, d4⟩ := hcs k _ hx
   generalize P[k] = x at *
   have c0 : wr.cell? ⟨b, off + k * 5, none⟩ = some (.int .i64 x.1) := (hbr.cell (p := ⟨b, off + k * 5, none⟩) hbW).trans d0
   have c1 : wr.cell? ⟨b, off + k * 5 + 1, none⟩ = some (.int .i64 x.2) := (hbr.cell (p := ⟨b, off + k * 5 + 1, none⟩) hbW).trans d1
   have c2 : wr.cell? ⟨b, off + k * 5 + 2, none⟩ = some (.int .i64 z2) := (hbr.cell (p := ⟨b, off + k * 5 + 2, none⟩) hbW).trans d2
   have c3 : wr.cell? ⟨b, off + k * 5 + 3, none⟩ = some (.int .i64 z3) := (hbr.cell (p := ⟨b, off + k * 5 + 3, none⟩) hbW).trans d3
   have c4 : wr.cell? ⟨b, off + k * 5 + 4, none⟩ = some (.slice a4 n4 m4) := (hbr.cell (p := ⟨b, off + k * 5 + 4, none⟩) hbW).trans d4
   clear hcs d0 d1 d2 d3 d4
   by_cases hu : U.length ≤ k
   ·have hout : ¬ ((U[k]?).getD false = true ∧ ∃ p, P[k]? = some p ∧ p.1 = p.2) := by rw [Zf2 hu]; simp
    have h1 : Hid (Za2 D1 (cntP P U (k + 1))) := hD1.congr (Zve hout)
    have h2 : Hid (Za1 D2 (fstP P U (k + 1))) := hD2.congr (Zvm hout)
    clear hD1 hD2 hout hx
    go_wp2
    exact ⟨⟨k + 1, by omega, by simp, D1, D2, h1, h2, (hm1.alloc _).mono (Nat.le_succ _), (hm2.alloc _).mono (Nat.le_succ _), hbr.alloc hbr.size _⟩, by simp [intOf]; omega⟩
   ·have hku : k < U.length := by omega
    have hy : U[k]? = some U[k] := q2_ hku
    rcases hUW with h | ⟨ub, uo, rfl, hub, hus⟩
    ·rw [h] at hku; simp at hku
    have cu : wr.cell? ⟨ub, uo + k, none⟩ = some (.bool U[k]) := (hbr.cell (p := ⟨ub, uo + k, none⟩) hub).trans (hus k _ hy)
    have hub' : ub < wr.heap.size := Zhu hub hbr.size
    clear hus
    generalize U[k] = y at *
    have hgd : (U[k]?).getD false = y := by rw [hy]; rfl
    by_cases hout : ¬ (y = true ∧ x.2 = x.1)
    ·have hout' : ¬ ((U[k]?).getD false = true ∧ ∃ p, P[k]? = some p ∧ p.1 = p.2) := by
      rintro ⟨q1, p, q2, q3⟩
      rw [hx] at q2
      cases q2
      exact hout ⟨hgd.symm.trans q1, q3.symm⟩
     have h1 : Hid (Za2 D1 (cntP P U (k + 1))) := hD1.congr (Zve hout')
     have h2 : Hid (Za1 D2 (fstP P U (k + 1))) := hD2.congr (Zvm hout')
     clear hD1 hD2 hout' hx hgd hy
     cases y with
     | false =>
      clear hout
      go_wp2
      exact ⟨⟨k + 1, by omega, by simp, D1, D2, h1, h2, (hm1.alloc _).mono (Nat.le_succ _), (hm2.alloc _).mono (Nat.le_succ _), hbr.alloc hbr.size _⟩, by simp [intOf]; omega⟩
     | true =>
      have hne : ¬ x.2 = x.1 := fun e => hout ⟨rfl, e⟩
      clear hout
      go_wp2
      exact ⟨⟨k + 1, by omega, by simp, D1, D2, h1, h2, (hm1.alloc _).mono (Nat.le_succ _), (hm2.alloc _).mono (Nat.le_succ _), hbr.alloc hbr.size _⟩, by simp [intOf]; omega⟩
    ·obtain ⟨rfl, hxe⟩ := Classical.not_not.1 hout
     clear hout
     obtain ⟨m, hm⟩ : ∃ m, cntP P U k x.1 = m := ⟨_, rfl⟩
     have hmk : m ≤ k := hm ▸ ZxB x.1
     have hat0 : D1.atKey (.int .i64 x.1) (.lit (.int .i64 0)) = .lit (.int .i64 (m : Int)) := by rw [hD1.2.1, hm]
     have hkey := keyOf_int_mk Tryz.underlying3 (ZFO hxP)
     have hwm : (Lit.int .i64 ((m : Int) + 1)).wf = true := WalkArith.wf_i64 (by omega)
     have h1 : Hid (Za2 (D1.put (.int .i64 x.1) (.lit (.int .i64 ((m : Int) + 1)))) (cntP P U (k + 1))) :=
      (hD1.put x.1 (m + 1) (by omega)).congr fun v => by rw [← hm]; exact ZDd hgd hx hxe v
     by_cases ht : x.1.tmod (N : Int) = k
     ·have h2 : Hid (Za1 (D2.put (.int .i64 x.1) (.lit (.bool true))) (fstP P U (k + 1))) := (hD2.put x.1).congr fun v => ZF9 hgd hx hxe hxP.1 (by rw [hN]; exact ht) v
      clear hD1 hD2 hx hgd hy hm
      go_wp2_with (first
       | (at_lookup; refine wpList_lookup_own_int _ rfl _ _ 71 rfl 3 3 .i64 law3 Tryz.underlying71 Tryz.underlying3 (ZCv _) W.heap.size k D1 rfl (hm1.alloc _) _ _ rfl hkey ?_; intro c hat hwc; obtain rfl : c = (m : Int) := (by rw [hat0] at hat; cases hat; rfl))
       | (at_mapUpdate; refine wpList_mapUpdate_own _ rfl _ _ _ 71 rfl 3 3 law3 Tryz.underlying71 (plainElem Tryz.prog 3) W.heap.size k D1 rfl (hm1.alloc _) (by unfold maxLen; omega) _ _ _ rfl rfl hkey _ [] (plainElem_int Tryz.underlying3 hwm) ?_
          intro w1 hown1 hgrow1
          have e0 : w1.cell? ⟨wr.heap.size, 0, none⟩ = some (.int .i64 x.1) := (ZC2 (hgrow1.block wr.heap.size (by simp) (by simp only [ne_eq, q1_]; have := hbr.size; have := hm2.lt; omega))).trans (by simp)
          have hown2 := (hm2.alloc (.cells #[.int .i64 x.1, .int .i64 x.1, .int .i64 z2, .int .i64 z3, .slice a4 n4 m4] 39)).kept hgrow1 (by simp)
          have hb1 := (hbr.alloc hbr.size (.cells #[.int .i64 x.1, .int .i64 x.1, .int .i64 z2, .int .i64 z3, .slice a4 n4 m4] 39)).grown hgrow1 (by simp; have := hbr.size; omega) (fun j hj => by cases hj; exact Z2w _)
          have hs1 : wr.heap.size < w1.heap.size := Zhu (by simp) hgrow1.size
          clear hgrow1)
       | (at_mapUpdate; refine wpList_mapUpdate_own _ rfl _ _ _ 72 rfl 3 4 law3 Tryz.underlying72 (plainElem Tryz.prog 4) (W.heap.size + 1) k D2 rfl hown2 (by unfold maxLen; omega) _ _ _ rfl rfl hkey _ [] (plainElem_bool Tryz.underlying4 true) ?_
          intro w2 hown3 hgrow2
          have hown4 := hown1.kept hgrow2 (by simp)
          have hb2 := hb1.grown hgrow2 hb1.size (fun j hj => by cases hj; omega))
       | go_in)
      exact ⟨⟨k + 1, by omega, by simp, _, _, h1, h2, hown4, hown3, hb2⟩, by simp [intOf]; omega⟩
     ·have h2 : Hid (Za1 D2 (fstP P U (k + 1))) := hD2.congr fun v => ZCL hgd hx hxe hxP.1 (by rw [hN]; exact ht) v
      clear hD1 hD2 hx hgd hy hm
      obtain ⟨q, hq⟩ : ∃ q, x.1.tmod (N : Int) = q := ⟨_, rfl⟩
      rw [hq] at ht
      have hq1 : (q == (k : Int)) = false := by simpa using ht
      have hq2 : decide (q = (k : Int)) = false := by simpa using ht
      clear ht
      go_wp2_with (first
       | (at_lookup; refine wpList_lookup_own_int _ rfl _ _ 71 rfl 3 3 .i64 law3 Tryz.underlying71 Tryz.underlying3 (ZCv _) W.heap.size k D1 rfl (hm1.alloc _) _ _ rfl hkey ?_; intro c hat hwc; obtain rfl : c = (m : Int) := (by rw [hat0] at hat; cases hat; rfl))
       | (at_mapUpdate; refine wpList_mapUpdate_own _ rfl _ _ _ 71 rfl 3 3 law3 Tryz.underlying71 (plainElem Tryz.prog 3) W.heap.size k D1 rfl (hm1.alloc _) (by unfold maxLen; omega) _ _ _ rfl rfl hkey _ [] (plainElem_int Tryz.underlying3 hwm) ?_
          intro w1 hown1 hgrow1
          have e0 : w1.cell? ⟨wr.heap.size, 0, none⟩ = some (.int .i64 x.1) := (ZC2 (hgrow1.block wr.heap.size (by simp) (by simp only [ne_eq, q1_]; have := hbr.size; have := hm2.lt; omega))).trans (by simp)
          have hown2 := (hm2.alloc (.cells #[.int .i64 x.1, .int .i64 x.1, .int .i64 z2, .int .i64 z3, .slice a4 n4 m4] 39)).kept hgrow1 (by simp)
          have hb1 := (hbr.alloc hbr.size (.cells #[.int .i64 x.1, .int .i64 x.1, .int .i64 z2, .int .i64 z3, .slice a4 n4 m4] 39)).grown hgrow1 (by simp; have := hbr.size; omega) (fun j hj => by cases hj; exact Z2w _)
          have hs1 : wr.heap.size < w1.heap.size := Zhu (by simp) hgrow1.size
          clear hgrow1)
       | go_in)
      exact ⟨⟨k + 1, by omega, by simp, _, _, h1, h2, hown1, hown2.mono (Nat.le_succ _), hb1⟩, by simp [intOf]; omega⟩
  ·obtain rfl : k = N := by omega
   obtain ⟨V, rfl⟩ : ∃ V, V = wr := ⟨_, rfl⟩
   have hD1' : Hid (Za2 D1 (cntP P U P.length)) := by rw [hN]; exact hD1
   have hD2' : Hid (Za1 D2 (fstP P U P.length)) := by rw [hN]; exact hD2
   have hP' : Hid (∀ x ∈ P, 0 ≤ x.1 ∧ x.1 ≤ 4611686018427387904) := hP
   clear hD1 hD2 hP hl hUW
   go_wp2_with (first
    | (at_range; refine wpList_range_own _ rfl _ 71 rfl 3 3 law3 Tryz.underlying71 _ W.heap.size k D1 rfl hm1 ?_; intro w0 hrg0 hg0 hs0)
    | go_in)
   go_frame
   go_loopw [4, 5] (fun p4 p5 wl => ∃ (left : Lit → Bool) (cnt : Nat) (v : Int) (ok : Bool), p4 = .int .i64 v ∧ p5 = .bool ok ∧ wl.ranges Tryz.prog 3 (plainElem Tryz.prog 3) W.heap.size V.heap.size k D1 left cnt ∧ wl.ownsMap Tryz.prog 3 (plainElem Tryz.prog 4) (W.heap.size + 1) k D2 ∧
     Below W.heap.size W wl ∧ Best P U (fun y => has D1 (.int .i64 y) && !left (.int .i64 y)) v ok ∧ ∀ z, left z = true → has D1 z = true)
    (fun _ _ wl => wl.rangeLeft W.heap.size V.heap.size)
   case atStart =>
    refine ⟨_, _, 0, false, rfl, rfl, hrg0, hm2.kept hg0 (by simp), hbr.grown hg0 hbr.size (by simp), .inl ⟨rfl, rfl, fun y hy => ?_⟩, fun _ h => h⟩
    simp at hy
   case round =>
    obtain ⟨left, cnt, v, ok, rfl, rfl, hrg, hm3, hbl, hbest, hleft⟩ := hrel
    have hD1 : Za2 D1 (cntP P U P.length) := hD1'
    have hD2 : Za1 D2 (fstP P U P.length) := hD2'
    have hP : ∀ x ∈ P, 0 ≤ x.1 ∧ x.1 ≤ 4611686018427387904 := hP'
    have hbest' : Hid (Best P U (fun y => has D1 (.int .i64 y) && !left (.int .i64 y)) v ok) := hbest
    have hleft' : Hid (∀ z, left z = true → has D1 z = true) := hleft
    clear hD1 hD2 hP hbest hleft
    go_wp2_with (first
     | (at_next; refine wpList_next_ranges_ii _ rfl _ rfl 3 3 .i64 .i64 law3 Tryz.underlying3 Tryz.underlying3 W.heap.size V.heap.size k D1 left cnt rfl hrg ?_ ?_)
     | go_in)
    ·intro _ hl0
     go_wp2
     go_ret2
     have hD1 : Za2 D1 (cntP P U P.length) := hD1'
     have hbest : Best P U (fun y => has D1 (.int .i64 y) && !left (.int .i64 y)) v ok := hbest'
     have hb : Below w.heap.size w W := hb0
     rw [ZAY hbest fun y hy => by rw [hD1.2.2, hl0]; simpa using hy]
     exact ⟨rfl, hb.trans (hbl.mono hb.size)⟩
    ·intro x c w1 cnt1 hwx hwc hlx hat hrg1 hlt1 hg1 hs1 hen
     have hD1 : Za2 D1 (cntP P U P.length) := hD1'
     have hD2 : Za1 D2 (fstP P U P.length) := hD2'
     have hP : ∀ x ∈ P, 0 ≤ x.1 ∧ x.1 ≤ 4611686018427387904 := hP'
     have hleft : ∀ z, left z = true → has D1 z = true := hleft'
     have hbest : Best P U (fun y => has D1 (.int .i64 y) && !left (.int .i64 y)) v ok := hbest'
     have hx : has D1 (.int .i64 x) = true := hleft _ hlx
     have hpos : 0 < cntP P U P.length x := by rw [hD1.2.2] at hx; simpa using hx
     obtain ⟨p, hp, hpx⟩ := Zvf hpos
     have hx0 : 0 ≤ x := hpx ▸ (hP p hp).1
     have hPl : 0 < P.length := List.length_pos_iff.2 (List.ne_nil_of_mem hp)
     have hst := ZD9 (U := U) hPl hx0
     have hf := ZuW (hm3.kept hg1 (by simp only [ne_eq, q1_]; have := hrg.lt; have := hm3.lt; have := hbr.size; have := hm2.lt; omega)) hwx (hD2.2 x)
     obtain ⟨m, hm⟩ : ∃ m, cntP P U P.length x = m := ⟨_, rfl⟩
     have hc : c = (m : Int) := by
      have := hat (.lit (.int .i64 0))
      rw [hD1.2.1, hm] at this
      cases this; rfl
     subst hc
     have hmk : m ≤ k := by rw [← hm, ← hN]; exact ZxB x
     rw [hm] at hst
     obtain ⟨y, hy⟩ : ∃ y, fstP P U P.length x = y := ⟨_, rfl⟩
     rw [hy] at hst hf
     rw [hN] at hst
     clear hy
     have hb1 := hbl.grown hg1 hbl.size (fun j hj => by cases hj; exact hbr.size)
     have hm4 := hm3.kept hg1 (by simp only [ne_eq, q1_]; have := hm2.lt; omega)
     have take : Hid (Z5D P U x = true → (ok = false ∨ v < x) → Best P U (fun y => has D1 (.int .i64 y) && !(left (.int .i64 y) && !(Lit.int .i64 y).sameKey (.int .i64 x))) x true) := fun h1 h2 => ZqU hx (Zxz hbest x h1 h2)
     have stay : Hid ((Z5D P U x = true → ok = true ∧ x ≤ v) → Best P U (fun y => has D1 (.int .i64 y) && !(left (.int .i64 y) && !(Lit.int .i64 y).sameKey (.int .i64 x))) v ok) := fun h1 => ZqU hx (Zxy hbest x h1)
     have hle : Hid (∀ z, (fun z : Lit => left z && !z.sameKey (.int .i64 x)) z = true → has D1 z = true) := fun z hz => hleft z (by simp at hz; exact hz.1)
     have hmeas : Hid (w1.rangeLeft W.heap.size V.heap.size < wr.rangeLeft W.heap.size V.heap.size) := by rw [hrg1.left_eq, hrg.left_eq]; exact hlt1
     have hst' : Hid (Z5D P U x = (y && decide (k < 2 * m))) := hst
     clear hD1 hD2 hP hleft hbest hx hpos hp hpx hst hat hm hlx hlt1 hbl hm3 hrg hg1 hb0 hbest' hD1' hD2' hP' hleft' hm1 hm2 hrg0 hg0
     cases y with
     | false =>
      go_wp2
      have hst : Z5D P U x = (false && decide (k < 2 * m)) := hst'
      exact ⟨⟨_, cnt1, v, ok, rfl, rfl, hrg1, hm4, hb1, stay (fun h => by rw [hst] at h; simp at h), hle⟩, hmeas⟩
     | true =>
      by_cases h1 : k < 2 * m
      ·have hs1 : Hid (Z5D P U x = true) := by
        have hst : Z5D P U x = (true && decide (k < 2 * m)) := hst'
        show Z5D P U x = true
        rw [hst]; simpa using h1
       have h1i : ((k : Int) < 2 * (m : Int)) := by omega
       cases ok with
       | false =>
        go_wp2
        exact ⟨⟨_, cnt1, x, true, rfl, rfl, hrg1, hm4, hb1, take hs1 (.inl rfl), hle⟩, hmeas⟩
       | true =>
        by_cases h2 : v < x
        ·go_wp2
         exact ⟨⟨_, cnt1, x, true, rfl, rfl, hrg1, hm4, hb1, take hs1 (.inr h2), hle⟩, hmeas⟩
        ·go_wp2
         exact ⟨⟨_, cnt1, v, true, rfl, rfl, hrg1, hm4, hb1, stay (fun _ => ⟨rfl, by omega⟩), hle⟩, hmeas⟩
      ·have h1i : ¬ ((k : Int) < 2 * (m : Int)) := by omega
       go_wp2
       have hst : Z5D P U x = (true && decide (k < 2 * m)) := hst'
       exact ⟨⟨_, cnt1, v, ok, rfl, rfl, hrg1, hm4, hb1, stay (fun h => by rw [hst] at h; simp at h; omega), hle⟩, hmeas⟩
end Go.Proofs.YtiigbcahdaoedaaGreatDoor.N3
end
section
namespace Go.Proofs.YtiigbcahdaoedaaGreatDoor.N3
open Go Go.Abs
def ZwX : FuncId → Nat → Option (List Nat) := fun f r =>
 if f = 3 then (if r = 5 then some [0] else if r = 3 then some [0] else none) else
 if f = 4 then (if r = 4 then some [] else if r = 5 then some [0, 1] else if r = 3 then some [0, 1] else none) else
 if f = 5 then (if r = 5 then some [0] else if r = 3 then some [0] else none) else
 if f = 7 then (if r = 4 then some [] else if r = 7 then some [2, 5, 24, 25] else if r = 8 then some [2, 5, 24, 25] else if r = 13 then some [2, 5, 6] else if r = 10 then some [2, 5] else if r = 5 then some [1, 2] else if r = 3 then some [1, 2] else none) else
 if f = 8 then (if r = 5 then some [3, 4, 5] else if r = 3 then some [3, 4, 5] else none) else
 if f = 9 then (if r = 9 then some [] else if r = 13 then some [] else if r = 10 then some [2, 3, 8] else if r = 8 then some [2, 3, 8] else if r = 5 then some [2, 3] else if r = 3 then some [2, 3] else none) else
 none
def ownT : FuncId → List Nat := fun f =>
 if f = 7 then [5, 27] else
 []
def rawT : FuncId → Bool := fun f => false
def Zx4 : FuncId → List Nat := fun f => []
def HH : Hints := ⟨ZwX, ownT, rawT, Zx4⟩
noncomputable def XX : FuncId → Option (List AV → List Row → Option Res) := fun f => if f = 11 then some (xLow 11) else if f = 12 then some (xLow 12) else if f = 13 then some (xLow 13) else if f = 14 then some (xLow 14) else if f = 15 then some ZgX else if f = 16 then some (xLow 16) else if f = 17 then some (xLow 17) else if f = 18 then some (xLow 18) else if f = 19 then some (xLow 19) else if f = 23 then some (xLow 23) else if f = 24 then some (xLow 24) else if f = 25 then some (xLow 25) else if f = 26 then some (xLow 26) else none
noncomputable abbrev PP : Program := Tryz.prog
noncomputable abbrev EE : GF := E PP XX HH
noncomputable abbrev LL : LF := L PP XX HH
end Go.Proofs.YtiigbcahdaoedaaGreatDoor.N3
end
section
namespace Go.Proofs.YtiigbcahdaoedaaGreatDoor.N3
open Go Go.Abs
set_option maxRecDepth 100000
def Zbn (r0 : AV) (B : List Row) : Option Res :=
 ob (ob (some r0) fun v => ob (some []) fun vs => some (v :: vs)) fun vs => some ((nrmA (match vs with | [v] => v | vs => Z6j (vs.map shr))), B)
theorem ZDf (B : List Row) : EE 10 [] B =
 (let m0 := B.length
 mk (mk (callS false EE 12 [nilA] B fun a1 B2 =>
 ob (xext 0 (shr a1)) fun a3 =>
 ob (xext 1 (shr a1)) fun a4 =>
 ob (xext 2 (shr a1)) fun a5 =>
 mk (ob (Z5V PP 39 [(0, (iv 3)), (1, (iv 3))]) fun a6 =>
 ob (xlit PP 22 1 [(0, a6)]) fun a7 =>
 ob (xlit PP 30 1 [(0, (bv true))]) fun a8 =>
 callS false EE 15 [a7, a8] B2 fun a9 B10 =>
 ob (xext 0 (shr a9)) fun a11 =>
 ob (xext 1 (shr a9)) fun a12 =>
 mk (callS false EE 15 [nilA, nilA] B10 fun a13 B14 =>
 ob (xext 0 (shr a13)) fun a15 =>
 ob (xext 1 (shr a13)) fun a16 =>
 mk (asB (shr (shr (shr (shr a5)))) fun t17 => br t17 (ob (xbin PP .eql 3 (shr (shr (shr a3))) (iv 0)) fun a18 =>
 asB (shr (shr a18)) fun t19 => br t19 (ob (xbin PP .eql 3 (shr (shr (shr a4))) (iv 0)) fun a20 =>
 asB (shr (shr a20)) fun t21 => br t21 (ob (xbin PP .eql 3 (shr (shr (shr a11))) (iv 3)) fun a22 =>
 asB (shr (shr a22)) fun t23 => br t23 (asB (shr (shr (shr (shr (shr a12))))) fun t24 => br t24 (ob (xbin PP .eql 3 (shr (shr (shr a15))) (iv 0)) fun a25 =>
 asB (shr (shr a25)) fun t26 => br t26 (ob (xun PP .not (shr (shr (shr a16)))) fun a27 =>
 asB (shr (shr a27)) fun t28 => br t28 (callS false EE 17 [nilA] B14 fun a29 B30 =>
 ob (xbin PP .eql 3 a29 (iv 0)) fun a31 =>
 asB (shr (shr a31)) fun t32 => br t32 (ob (Z5V PP 39 []) fun a33 =>
 callS false EE 19 [a33] B30 fun a34 B35 =>
 ob (xlen PP 40 a34) fun a36 =>
 ob (xbin PP .eql 3 a36 (iv 1)) fun a37 =>
 Zbn (shr (shr a37)) B35)
 (Zbn (bv false) B30))
 (Zbn (bv false) B14))
 (Zbn (bv false) B14))
 (Zbn (bv false) B14))
 (Zbn (bv false) B14))
 (Zbn (bv false) B14))
 (Zbn (bv false) B14))
 (Zbn (bv false) B14))))))) := (E_eq PP XX HH _ _ _).trans (by kernel_rfl)
noncomputable def f4_c : Code := Z2q Tryz.f4
def Zp5 (r0 : AV) (B : List Row) : Option Res :=
 ob (ob (some r0) fun v => ob (some []) fun vs => some (v :: vs)) fun vs => some ((nrmA (match vs with | [v] => v | vs => Z6j (vs.map shr))), B)
noncomputable def Zra (m0 : Nat) : Kont := kret PP HH 4 Tryz.f4.results
noncomputable def ZFx (m0 : Nat) : Kont := kseq HH 4 m0 (l2 (l2 (l2 f4_c))) (exec PP HH 4 m0 EE LL (l2 (l2 (l2 f4_c))) (Zra m0)) (Zra m0)
noncomputable def Zwv (m0 : Nat) (x0 x1 : AV) (B : List Row) : Option Res := exec PP HH 4 m0 EE LL (l2 (l2 f4_c)) (Zra m0) [(0, x0), (1, x1)] B
noncomputable def Zrb (m0 : Nat) (B : List Row) : Option Res := exec PP HH 4 m0 EE LL (l1 (l2 (l1 (l2 (l2 f4_c))))) (ZFx m0) [] B
noncomputable def Zww (m0 : Nat) (x0 x1 : AV) (B : List Row) : Option Res := exec PP HH 4 m0 EE LL (l2 (l2 (l2 f4_c))) (Zra m0) [(0, x0), (1, x1)] B
theorem ZBe (m0 : Nat) (x0 x1 : AV) (B : List Row) : Zwv m0 x0 x1 B =
 mk (callS false EE 11 [(shr x0)] B fun a5 B6 =>
 ob (xun PP .not a5) fun a7 =>
 asB (shr a7) fun t8 => br t8 (Zrb m0  (gcB m0 [] B6))
 (ob (xlen PP 30 (shr x1)) fun a9 =>
 ob (xbin PP .gtr 3 a9 (iv 20)) fun a10 =>
 asB (shr a10) fun t11 => br t11 (Zrb m0  (gcB m0 [] B6))
 (Zww m0 x0 x1 (gcB m0 [x0, x1] B6)))) := by kernel_rfl
theorem ZBf (m0 : Nat) (B : List Row) : Zrb m0  B =
 mk (Zp5 (bv true) B) := by kernel_rfl
theorem ZBg (m0 : Nat) (x0 x1 : AV) (B : List Row) : Zww m0 x0 x1 B =
 mk (callS false EE 15 [(shr x0), (shr x1)] B fun a12 B13 =>
 ob (xext 0 (shr a12)) fun a14 =>
 ob (xext 1 (shr a12)) fun a15 =>
 mk (callS false EE 14 [(shr x0)] B13 fun a16 B17 =>
 callS false EE 16 [a16, (shr x1)] B17 fun a18 B19 =>
 ob (xext 0 (shr a18)) fun a20 =>
 ob (xext 1 (shr a18)) fun a21 =>
 mk (ob (xbin PP .eql 3 (shr (shr (shr a14))) (shr (shr (shr a20)))) fun a22 =>
 asB (shr a22) fun t23 => br t23 (ob (xbin PP .eql 4 (shr (shr (shr a15))) (shr (shr (shr a21)))) fun a24 =>
 Zp5 (shr (shr a24)) B19)
 (Zp5 (bv false) B19)))) := by kernel_rfl
theorem ZFw (x0 x1 : AV) (B : List Row) : EE 4 [x0, x1] B =
 (let m0 := B.length
 mk (mk (callS false EE 10 [] B fun a1 B2 =>
 ob (xun PP .not a1) fun a3 =>
 asB a3 fun t4 => br t4 (mk (Zp5 (bv false) B2))
 (Zwv m0 x0 x1 (gcB m0 [x0, x1] B2))))) := (E_eq PP XX HH _ _ _).trans (by kernel_rfl)
noncomputable def f5_c : Code := Z2q Tryz.f5
def Zto (r0 : AV) (B : List Row) : Option Res :=
 ob (ob (some r0) fun v => ob (some []) fun vs => some (v :: vs)) fun vs => some ((nrmA (match vs with | [v] => v | vs => Z6j (vs.map shr))), B)
noncomputable def ZCl (m0 : Nat) : Kont := kret PP HH 5 Tryz.f5.results
noncomputable def ZwB (m0 : Nat) (x0 : AV) (B : List Row) : Option Res := exec PP HH 5 m0 EE LL (l2 (l2 f5_c)) (ZCl m0) [(0, x0)] B
noncomputable def ZwC (m0 : Nat) (x0 : AV) (B : List Row) : Option Res := exec PP HH 5 m0 EE LL (l2 (l2 (l2 f5_c))) (ZCl m0) [(0, x0)] B
theorem ZBh (m0 : Nat) (x0 : AV) (B : List Row) : ZwB m0 x0 B =
 mk (callS false EE 11 [(shr x0)] B fun a5 B6 =>
 ob (xun PP .not a5) fun a7 =>
 asB a7 fun t8 => br t8 (mk (Zto (bv true) B6))
 (ZwC m0 x0 (gcB m0 [x0] B6))) := by kernel_rfl
theorem ZBi (m0 : Nat) (x0 : AV) (B : List Row) : ZwC m0 x0 B =
 mk (callS false EE 17 [(shr x0)] B fun a9 B10 =>
 callS false EE 14 [(shr x0)] B10 fun a11 B12 =>
 callS false EE 18 [a11] B12 fun a13 B14 =>
 ob (xbin PP .eql 3 a9 a13) fun a15 =>
 Zto (shr a15) B14) := by kernel_rfl
theorem ZFz (x0 : AV) (B : List Row) : EE 5 [x0] B =
 (let m0 := B.length
 mk (mk (callS false EE 10 [] B fun a1 B2 =>
 ob (xun PP .not a1) fun a3 =>
 asB a3 fun t4 => br t4 (mk (Zto (bv false) B2))
 (ZwB m0 x0 (gcB m0 [x0] B2))))) := (E_eq PP XX HH _ _ _).trans (by kernel_rfl)
noncomputable def f7_c : Code := Z2q Tryz.f7
def ZlP (r0 : AV) (B : List Row) : Option Res :=
 ob (ob (some r0) fun v => ob (some []) fun vs => some (v :: vs)) fun vs => some ((nrmA (match vs with | [v] => v | vs => Z6j (vs.map shr))), B)
noncomputable def ZhW (m0 : Nat) : Kont := kret PP HH 7 Tryz.f7.results
noncomputable def ZFD (m0 : Nat) : Kont := kseq HH 7 m0 (l2 (l2 (l2 f7_c))) (exec PP HH 7 m0 EE LL (l2 (l2 (l2 f7_c))) (ZhW m0)) (ZhW m0)
noncomputable def ZFE (m0 : Nat) : Kont := kseq HH 7 m0 (l2 (l2 (l2 (l2 (l2 f7_c))))) (exec PP HH 7 m0 EE LL (l2 (l2 (l2 (l2 (l2 f7_c))))) (ZhW m0)) (ZhW m0)
noncomputable def ZwI (m0 : Nat) : Kont := kblk 0 (ZFE m0)
noncomputable def ZFF (m0 : Nat) : Kont := kloop HH 7 m0 (l1 (l1 (l2 (l1 (l2 (l2 (l2 (l2 f7_c)))))))) (LL 7 m0 (l1 (l1 (l2 (l1 (l2 (l2 (l2 (l2 f7_c)))))))) (ZwI m0)) (ZwI m0)
noncomputable def ZwJ (m0 : Nat) (x1 x2 : AV) (B : List Row) : Option Res := exec PP HH 7 m0 EE LL (l2 (l2 f7_c)) (ZhW m0) [(1, x1), (2, x2)] B
noncomputable def Zpf (m0 : Nat) (B : List Row) : Option Res := exec PP HH 7 m0 EE LL (l1 (l2 (l1 (l2 (l2 f7_c))))) (ZFD m0) [] B
noncomputable def ZwK (m0 : Nat) (x1 x2 : AV) (B : List Row) : Option Res := exec PP HH 7 m0 EE LL (l2 (l2 (l2 f7_c))) (ZhW m0) [(1, x1), (2, x2)] B
noncomputable def ZmM (m0 : Nat) (x2 x5 x24 x25 : AV) (B : List Row) : Option Res := lp (LL 7 m0 (l1 (l1 (l2 (l1 (l2 (l2 (l2 (l2 f7_c)))))))) (ZwI m0) [(2, x2), (5, x5), (24, x24), (25, x25)] B)
noncomputable def ZwL (m0 : Nat) (x2 x5 x24 x25 : AV) (B : List Row) : Option Res := exec PP HH 7 m0 EE LL (l2 (l2 (l1 (l1 (l2 (l1 (l2 (l2 (l2 (l2 f7_c)))))))))) (ZFF m0) [(2, x2), (5, x5), (24, x24), (25, x25)] B
noncomputable def ZtK (m0 : Nat) (x2 x5 : AV) (B : List Row) : Option Res := exec PP HH 7 m0 EE LL (l2 (l2 (l2 (l2 (l2 f7_c))))) (ZhW m0) [(2, x2), (5, x5)] B
noncomputable def Zpe (m0 : Nat) (x2 x5 x6 : AV) (B : List Row) : Option Res := exec PP HH 7 m0 EE LL (l2 (l2 (l2 (l2 (l2 (l2 (l2 f7_c))))))) (ZhW m0) [(2, x2), (5, x5), (6, x6)] B
theorem ZBk (m0 : Nat) (x1 x2 : AV) (B : List Row) : ZwJ m0 x1 x2 B =
 mk (ob (ldN true 5 x2 B) fun a7 =>
 ob (xlit PP 22 1 [(0, a7)]) fun a8 =>
 callS false EE 11 [a8] B fun a9 B10 =>
 ob (xun PP .not a9) fun a11 =>
 asB (shr a11) fun t12 => br t12 (Zpf m0  (gcB m0 [] B10))
 (ob (xbin PP .lss 3 (shr x1) (iv 1)) fun a13 =>
 asB (shr (shr a13)) fun t14 => br t14 (Zpf m0  (gcB m0 [] B10))
 (ob (xbin PP .gtr 3 (shr x1) (iv 7)) fun a15 =>
 asB (shr a15) fun t16 => br t16 (Zpf m0  (gcB m0 [] B10))
 (ZwK m0 x1 x2 (gcB m0 [x1, x2] B10))))) := by kernel_rfl
theorem ZBl (m0 : Nat) (B : List Row) : Zpf m0  B =
 mk (ZlP (bv true) B) := by kernel_rfl
theorem ZBm (m0 : Nat) (x1 x2 : AV) (B : List Row) : ZwK m0 x1 x2 B =
 mk (mk (ZmM m0 x2 nilA (shr x1) (iv 0) (gcB m0 [x2, nilA, (shr x1), (iv 0)] B))) := by kernel_rfl
theorem ZBj (m0 : Nat) (x2 x5 x24 x25 : AV) (B : List Row) : ZmM m0 x2 x5 x24 x25 B =
 mk (ob (xbin PP .lss 3 x25 x24) fun a17 =>
 asB a17 fun t18 => br t18 (ZwL m0 x2 x5 x24 x25 (gcB m0 [x2, x5, x24, x25] B))
 (ZtK m0 x2 x5 (gcB m0 [x2, x5] B))) := (L_eq PP XX HH _ _ _ _ _ _).trans (by kernel_rfl)
theorem ZBn (m0 : Nat) (x2 x5 x24 x25 : AV) (B : List Row) : ZwL m0 x2 x5 x24 x25 B =
 mk (ob (ldN true 5 x2 B) fun a19 =>
 ob (xlit PP 22 1 [(0, a19)]) fun a20 =>
 ob (xapp 5 x5 a20) fun a21 =>
 mk (ob (xbin PP .add 3 x25 (iv 1)) fun a22 =>
 ZmM m0 x2 a21 x24 (shr a22) (gcB m0 [x2, a21, x24, (shr a22)] B))) := by kernel_rfl
theorem ZzZ (m0 : Nat) (x2 x5 : AV) (B : List Row) : ZtK m0 x2 x5 B =
 mk (mk (ob (ldN true 5 x2 B) fun a23 =>
 callS false EE 23 [a23] B fun a24 B25 =>
 asB a24 fun t26 => br t26 (mk (ob (xfld 4 x2) fun a27 =>
 ob (ldN false 1 a27 B25) fun a28 =>
 ob (xlen PP 37 a28) fun a29 =>
 Zpe m0 x2 x5 (shr a29) (gcB m0 [x2, x5, (shr a29)] B25)))
 (Zpe m0 x2 x5 (iv 0) (gcB m0 [x2, x5, (iv 0)] B25)))) := by kernel_rfl
theorem ZA0 (m0 : Nat) (x2 x5 x6 : AV) (B : List Row) : Zpe m0 x2 x5 x6 B =
 mk (callS false EE 12 [(shr x5)] B fun a30 B31 =>
 ob (xext 0 (shr a30)) fun a32 =>
 ob (xext 1 (shr a30)) fun a33 =>
 ob (xext 2 (shr a30)) fun a34 =>
 mk (asB (shr (shr (shr (shr a34)))) fun t35 => br t35 (callS false EE 17 [(shr x5)] B31 fun a36 B37 =>
 ob (xbin PP .eql 3 a36 (shr x6)) fun a38 =>
 asB (shr (shr a38)) fun t39 => br t39 (ob (ldN true 5 x2 B37) fun a40 =>
 ob (ldN true 5 x2 B37) fun a41 =>
 callS false EE 24 [a40, a41] B37 fun a42 B43 =>
 ZlP (shr (shr a42)) B43)
 (ZlP (bv false) B37))
 (ZlP (bv false) B31))) := by kernel_rfl
theorem ZFC (x0 x1 : AV) (B : List Row) : EE 7 [x0, x1] B =
 (let m0 := B.length
 mk (bx x0 B fun a1 B2 =>
 mk (callS false EE 10 [] B2 fun a3 B4 =>
 ob (xun PP .not a3) fun a5 =>
 asB a5 fun t6 => br t6 (mk (ZlP (bv false) B4))
 (ZwJ m0 x1 a1 (gcB m0 [x1, a1] B4))))) := (E_eq PP XX HH _ _ _).trans (by kernel_rfl)
noncomputable def f8_c : Code := Z2q Tryz.f8
def ZlS (r0 : AV) (B : List Row) : Option Res :=
 ob (ob (some r0) fun v => ob (some []) fun vs => some (v :: vs)) fun vs => some ((nrmA (match vs with | [v] => v | vs => Z6j (vs.map shr))), B)
noncomputable def ZCq (m0 : Nat) : Kont := kret PP HH 8 Tryz.f8.results
noncomputable def ZwM (m0 : Nat) (x3 x4 x5 : AV) (B : List Row) : Option Res := exec PP HH 8 m0 EE LL (l2 (l2 f8_c)) (ZCq m0) [(3, x3), (4, x4), (5, x5)] B
noncomputable def ZwN (m0 : Nat) (x3 x4 x5 : AV) (B : List Row) : Option Res := exec PP HH 8 m0 EE LL (l2 (l2 (l2 f8_c))) (ZCq m0) [(3, x3), (4, x4), (5, x5)] B
theorem ZBo (m0 : Nat) (x3 x4 x5 : AV) (B : List Row) : ZwM m0 x3 x4 x5 B =
 mk (ob (ldN true 5 x3 B) fun a11 =>
 ob (ldN true 5 x4 B) fun a12 =>
 ob (ldN true 5 x5 B) fun a13 =>
 ob (xlit PP 22 3 [(0, a11), (1, a12), (2, a13)]) fun a14 =>
 callS false EE 11 [a14] B fun a15 B16 =>
 ob (xun PP .not a15) fun a17 =>
 asB a17 fun t18 => br t18 (mk (ZlS (bv true) B16))
 (ZwN m0 x3 x4 x5 (gcB m0 [x3, x4, x5] B16))) := by kernel_rfl
theorem ZBp (m0 : Nat) (x3 x4 x5 : AV) (B : List Row) : ZwN m0 x3 x4 x5 B =
 mk (ob (ldN true 5 x3 B) fun a19 =>
 ob (ldN true 5 x4 B) fun a20 =>
 callS false EE 24 [a19, a20] B fun a21 B22 =>
 ob (xun PP .not a21) fun a23 =>
 asB (shr a23) fun t24 => br t24 (ZlS (bv true) B22)
 (ob (ldN true 5 x4 B22) fun a25 =>
 ob (ldN true 5 x5 B22) fun a26 =>
 callS false EE 24 [a25, a26] B22 fun a27 B28 =>
 ob (xun PP .not a27) fun a29 =>
 asB (shr (shr a29)) fun t30 => br t30 (ZlS (bv true) B28)
 (ob (ldN true 5 x3 B28) fun a31 =>
 ob (ldN true 5 x5 B28) fun a32 =>
 callS false EE 24 [a31, a32] B28 fun a33 B34 =>
 ZlS (shr (shr a33)) B34))) := by kernel_rfl
theorem ZFG (x0 x1 x2 : AV) (B : List Row) : EE 8 [x0, x1, x2] B =
 (let m0 := B.length
 mk (bx x0 B fun a1 B2 =>
 bx x1 B2 fun a3 B4 =>
 bx x2 B4 fun a5 B6 =>
 mk (callS false EE 10 [] B6 fun a7 B8 =>
 ob (xun PP .not a7) fun a9 =>
 asB a9 fun t10 => br t10 (mk (ZlS (bv false) B8))
 (ZwM m0 a1 a3 a5 (gcB m0 [a1, a3, a5] B8))))) := (E_eq PP XX HH _ _ _).trans (by kernel_rfl)
noncomputable def f9_c : Code := Z2q Tryz.f9
def ZlT (r0 : AV) (B : List Row) : Option Res :=
 ob (ob (some r0) fun v => ob (some []) fun vs => some (v :: vs)) fun vs => some ((nrmA (match vs with | [v] => v | vs => Z6j (vs.map shr))), B)
noncomputable def ZjM (m0 : Nat) : Kont := kret PP HH 9 Tryz.f9.results
noncomputable def ZFI (m0 : Nat) : Kont := kseq HH 9 m0 (l2 (l2 (l2 (l2 (l2 (l2 (l2 f9_c))))))) (exec PP HH 9 m0 EE LL (l2 (l2 (l2 (l2 (l2 (l2 (l2 f9_c))))))) (ZjM m0)) (ZjM m0)
noncomputable def ZwO (m0 : Nat) (x2 x3 : AV) (B : List Row) : Option Res := exec PP HH 9 m0 EE LL (l2 (l2 f9_c)) (ZjM m0) [(2, x2), (3, x3)] B
noncomputable def ZwP (m0 : Nat) (x2 x3 : AV) (B : List Row) : Option Res := exec PP HH 9 m0 EE LL (l2 (l2 (l2 f9_c))) (ZjM m0) [(2, x2), (3, x3)] B
noncomputable def ZmN (m0 : Nat) (x2 x3 x8 : AV) (B : List Row) : Option Res := exec PP HH 9 m0 EE LL (l2 (l2 (l2 (l2 (l2 (l2 f9_c)))))) (ZjM m0) [(2, x2), (3, x3), (8, x8)] B
noncomputable def Zrc (m0 : Nat) (B : List Row) : Option Res := exec PP HH 9 m0 EE LL (l1 (l2 (l1 (l2 (l2 (l2 (l2 (l2 (l2 f9_c))))))))) (ZFI m0) [] B
noncomputable def ZtX (m0 : Nat) (x2 x3 x8 : AV) (B : List Row) : Option Res := exec PP HH 9 m0 EE LL (l2 (l2 (l2 (l2 (l2 (l2 (l2 f9_c))))))) (ZjM m0) [(2, x2), (3, x3), (8, x8)] B
noncomputable def ZtY (m0 : Nat) (B : List Row) : Option Res := exec PP HH 9 m0 EE LL (l2 (l2 (l2 (l2 (l2 (l2 (l2 (l2 f9_c)))))))) (ZjM m0) [] B
theorem ZBq (m0 : Nat) (x2 x3 : AV) (B : List Row) : ZwO m0 x2 x3 B =
 mk (ob (ldN true 5 x2 B) fun a9 =>
 ob (ldN true 5 x3 B) fun a10 =>
 ob (xlit PP 22 2 [(0, a9), (1, a10)]) fun a11 =>
 callS false EE 11 [a11] B fun a12 B13 =>
 ob (xun PP .not a12) fun a14 =>
 asB a14 fun t15 => br t15 (mk (ZlT (bv true) B13))
 (ZwP m0 x2 x3 (gcB m0 [x2, x3] B13))) := by kernel_rfl
theorem ZBr (m0 : Nat) (x2 x3 : AV) (B : List Row) : ZwP m0 x2 x3 B =
 mk (ob (ldN true 5 x2 B) fun a16 =>
 ob (ldN true 5 x3 B) fun a17 =>
 ob (xlit PP 22 2 [(0, a16), (1, a17)]) fun a18 =>
 callS false EE 14 [a18] B fun a19 B20 =>
 mk (ob (xidx 5 (shr (shr a19)) (iv 0)) fun a21 =>
 ob (ldN true 5 a21 B20) fun a22 =>
 ob (xidx 5 (shr (shr a19)) (iv 1)) fun a23 =>
 ob (ldN true 5 a23 B20) fun a24 =>
 bz PP 44 B20 fun a25 B26 =>
 bz PP 44 B26 fun a27 B28 =>
 stN 5 a25 a22 B28 fun B29 =>
 stN 5 a27 a24 B29 fun B30 =>
 grd (Z3E a21 a25) (grd (Z3E a23 a25) (grd (Z3E a21 a27) (grd (Z3E a23 a27) (grd (Z3E a23 a25) (mk (ob (xfld 0 a27) fun a31 =>
 ob (ldN false 1 a31 B30) fun a32 =>
 ob (xfld 0 a25) fun a33 =>
 ob (ldN false 1 a33 B30) fun a34 =>
 ob (xbin PP .geq 3 a32 a34) fun a35 =>
 asB (shr a35) fun t36 => br t36 (ob (xfld 1 a27) fun a37 =>
 ob (ldN false 1 a37 B30) fun a38 =>
 ob (xfld 1 a25) fun a39 =>
 ob (ldN false 1 a39 B30) fun a40 =>
 ob (xbin PP .geq 3 a38 a40) fun a41 =>
 asB (shr (shr a41)) fun t42 => br t42 (ob (xfld 2 a27) fun a43 =>
 ob (ldN false 1 a43 B30) fun a44 =>
 ob (xfld 2 a25) fun a45 =>
 ob (ldN false 1 a45 B30) fun a46 =>
 ob (xbin PP .geq 3 a44 a46) fun a47 =>
 asB (shr (shr a47)) fun t48 => br t48 (ob (ldN true 5 a25 B30) fun a49 =>
 ob (ldN true 5 a27 B30) fun a50 =>
 callS false EE 25 [a49, a50] B30 fun a51 B52 =>
 ob (xun PP .not a51) fun a53 =>
 ZmN m0 x2 x3 (shr (shr a53)) (gcB m0 [x2, x3, (shr (shr a53))] B52))
 (ZmN m0 x2 x3 (bv false) (gcB m0 [x2, x3, (bv false)] B30)))
 (ZmN m0 x2 x3 (bv false) (gcB m0 [x2, x3, (bv false)] B30)))
 (ZmN m0 x2 x3 (bv false) (gcB m0 [x2, x3, (bv false)] B30)))))))))) := by kernel_rfl
theorem ZBs (m0 : Nat) (x2 x3 x8 : AV) (B : List Row) : ZmN m0 x2 x3 x8 B =
 mk (ob (ldN true 5 x2 B) fun a54 =>
 ob (ldN true 5 x3 B) fun a55 =>
 callS false EE 24 [a54, a55] B fun a56 B57 =>
 ob (xbin PP .neq 4 a56 (shr x8)) fun a58 =>
 asB (shr a58) fun t59 => br t59 (Zrc m0  (gcB m0 [] B57))
 (ob (ldN true 5 x2 B57) fun a60 =>
 ob (ldN true 5 x2 B57) fun a61 =>
 callS false EE 24 [a60, a61] B57 fun a62 B63 =>
 ob (xun PP .not a62) fun a64 =>
 asB (shr a64) fun t65 => br t65 (Zrc m0  (gcB m0 [] B63))
 (ZtX m0 x2 x3 x8 (gcB m0 [x2, x3, x8] B63)))) := by kernel_rfl
theorem ZBt (m0 : Nat) (B : List Row) : Zrc m0  B =
 mk (ZlT (bv false) B) := by kernel_rfl
theorem ZAd (m0 : Nat) (x2 x3 x8 : AV) (B : List Row) : ZtX m0 x2 x3 x8 B =
 mk (ob (ldN true 5 x2 B) fun a66 =>
 ob (ldN true 5 x3 B) fun a67 =>
 callS false EE 26 [a66, a67] B fun a68 B69 =>
 ob (xext 0 (shr a68)) fun a70 =>
 ob (xext 1 (shr a68)) fun a71 =>
 mk (ob (xbin PP .eql 63 (shr (shr (shr a71))) (iv 0)) fun a72 =>
 asB a72 fun t73 => br t73 (mk (ZlT (shr (shr x8)) B69))
 (ZtY m0  (gcB m0 [] B69)))) := by kernel_rfl
theorem ZAe (m0 : Nat) (B : List Row) : ZtY m0  B =
 mk (ZlT (bv true) B) := by kernel_rfl
theorem ZFH (x0 x1 : AV) (B : List Row) : EE 9 [x0, x1] B =
 (let m0 := B.length
 mk (bx x0 B fun a1 B2 =>
 bx x1 B2 fun a3 B4 =>
 mk (callS false EE 10 [] B4 fun a5 B6 =>
 ob (xun PP .not a5) fun a7 =>
 asB a7 fun t8 => br t8 (mk (ZlT (bv false) B6))
 (ZwO m0 a1 a3 (gcB m0 [a1, a3] B6))))) := (E_eq PP XX HH _ _ _).trans (by kernel_rfl)
end Go.Proofs.YtiigbcahdaoedaaGreatDoor.N3
end
section
namespace Go.Proofs.YtiigbcahdaoedaaGreatDoor.N3
open N2
open Go Go.Abs
set_option maxRecDepth 100000
abbrev Zbe  : (Int × Bool) → Res → Prop := fun r q => ∃ (ex : List Row), q = ((.p (.tup [(.v (.int .i64 r.1)), (.v (.bool r.2))])), ex)
theorem Zns  : ∀ a b q, Zbe  a q → Zbe  b q → a = b := by
 rintro a b q ⟨_, e1⟩ ⟨_, e2⟩
 have e := e1.symm.trans e2
 exact Zc1 (congrArg (fun q : Res => pI ((pT (pA q.1)).getD 0 .junk)) e) (congrArg (fun q : Res => pB ((pT (pA q.1)).getD 1 .junk)) e)
abbrev Z51  : (Bool) → Res → Prop := fun r q => ∃ (ex : List Row), q = ((bv r), ex)
theorem ZgY  : ∀ a b q, Z51  a q → Z51  b q → a = b := by
 rintro a b q ⟨_, e1⟩ ⟨_, e2⟩
 have e := e1.symm.trans e2
 exact congrArg (fun q : Res => pB (pA q.1)) e
abbrev Z21  : (Bool) → Res → Prop := fun r q => ∃ (ex : List Row), q = ((bv r), ex)
theorem Zeh  : ∀ a b q, Z21  a q → Z21  b q → a = b := by
 rintro a b q ⟨_, e1⟩ ⟨_, e2⟩
 have e := e1.symm.trans e2
 exact congrArg (fun q : Res => pB (pA q.1)) e
abbrev Z2g  : (Bool) → Res → Prop := fun r q => ∃ (ex : List Row), q = ((bv r), ex)
theorem Zeg  : ∀ a b q, Z2g  a q → Z2g  b q → a = b := by
 rintro a b q ⟨_, e1⟩ ⟨_, e2⟩
 have e := e1.symm.trans e2
 exact congrArg (fun q : Res => pB (pA q.1)) e
abbrev Z1l  : (Bool) → Res → Prop := fun r q => ∃ (ex : List Row), q = ((bv r), ex)
theorem Z9U  : ∀ a b q, Z1l  a q → Z1l  b q → a = b := by
 rintro a b q ⟨_, e1⟩ ⟨_, e2⟩
 have e := e1.symm.trans e2
 exact congrArg (fun q : Res => pB (pA q.1)) e
abbrev Z2m  : (Bool) → Res → Prop := fun r q => ∃ (ex : List Row), q = ((bv r), ex)
theorem ZeH  : ∀ a b q, Z2m  a q → Z2m  b q → a = b := by
 rintro a b q ⟨_, e1⟩ ⟨_, e2⟩
 have e := e1.symm.trans e2
 exact congrArg (fun q : Res => pB (pA q.1)) e
abbrev Z1D  : (Bool) → Res → Prop := fun r q => ∃ (ex : List Row), q = ((bv r), ex)
theorem Zfg  : ∀ a b q, Z1D  a q → Z1D  b q → a = b := by
 rintro a b q ⟨_, e1⟩ ⟨_, e2⟩
 have e := e1.symm.trans e2
 exact congrArg (fun q : Res => pB (pA q.1)) e
noncomputable def Z2z  : Option (Bool) := pick fun r => RRun (Z51) (EE 10 [] []) r
theorem Z3V  : Sim (Z51) (Z2z) (EE 10 [] []) := fun _ h => ZM h
noncomputable def Z2S (x0 : List Z0) : Option (Int × Int × Bool) := pick fun r => ∀ (ox0 : Own), RRun (Z1Q) (EE 12 [(.p (.lst ox0 (x0.map Z6)))] []) r
theorem ZcO (x0 : List Z0) (ox0 : Own) : Sim (Z1Q) (Z2S x0) (EE 12 [(.p (.lst ox0 (x0.map Z6)))] []) := fun _ h => ZM h ox0
noncomputable def Z8d (x0 : List Z0) (x1 : List Bool) : Option (Int × Bool) := pick fun r => ∀ (ox0 : Own) (ox1 : Own), RRun (Zbe) (EE 15 [(.p (.lst ox0 (x0.map Z6))), (.p (.lst ox1 (x1.map eB)))] []) r
theorem ZbQ (x0 : List Z0) (x1 : List Bool) (ox0 : Own) (ox1 : Own) : Sim (Zbe) (Z8d x0 x1) (EE 15 [(.p (.lst ox0 (x0.map Z6))), (.p (.lst ox1 (x1.map eB)))] []) := fun _ h => ZM h ox0 ox1
noncomputable def Z2b (x0 : List Z0) : Option (Int) := pick fun r => ∀ (ox0 : Own), RRun (Zk) (EE 17 [(.p (.lst ox0 (x0.map Z6)))] []) r
theorem Z9I (x0 : List Z0) (ox0 : Own) : Sim (Zk) (Z2b x0) (EE 17 [(.p (.lst ox0 (x0.map Z6)))] []) := fun _ h => ZM h ox0
noncomputable def Z56 (x0 : Z0) : Option ((List ZJ)) := pick fun r => ∀ (ox0_Log : Own), RRun (Z2U) (EE 19 [(.p (.agg (Zi x0 ox0_Log)))] []) r
theorem ZhY (x0 : Z0) (ox0_Log : Own) : Sim (Z2U) (Z56 x0) (EE 19 [(.p (.agg (Zi x0 ox0_Log)))] []) := fun _ h => ZM h ox0_Log
noncomputable def Z1u (x0 : List Z0) : Option (Bool) := pick fun r => ∀ (ox0 : Own), RRun (Zd) (EE 11 [(.p (.lst ox0 (x0.map Z6)))] []) r
theorem Z3c (x0 : List Z0) (ox0 : Own) : Sim (Zd) (Z1u x0) (EE 11 [(.p (.lst ox0 (x0.map Z6)))] []) := fun _ h => ZM h ox0
noncomputable def Z1B (x0 : List Z0) : Option ((List Z2)) := pick fun r => ∀ (ox0 : Own), RRun (Z25) (EE 14 [(.p (.lst ox0 (x0.map Z6)))] []) r
theorem Z5z (x0 : List Z0) (ox0 : Own) : Sim (Z25) (Z1B x0) (EE 14 [(.p (.lst ox0 (x0.map Z6)))] []) := fun _ h => ZM h ox0
noncomputable def Zgi (x0 : List Z2) : Option (Int × Int × Bool) := pick fun r => ∀ (ox0 : Own), RRun (Z1Q) (EE 13 [(.p (.lst ox0 (x0.map Zc)))] []) r
theorem ZnG (x0 : List Z2) (ox0 : Own) : Sim (Z1Q) (Zgi x0) (EE 13 [(.p (.lst ox0 (x0.map Zc)))] []) := fun _ h => ZM h ox0
noncomputable def Z73 (x0 : List Z0) (x1 : List Bool) : Option (Bool) := pick fun r => ∀ (ox0 : Own) (ox1 : Own), RRun (Z21) (EE 4 [(.p (.lst ox0 (x0.map Z6))), (.p (.lst ox1 (x1.map eB)))] []) r
theorem g_colanderlaw19_JudgeStable_to (x0 : List Z0) (x1 : List Bool) (ox0 : Own) (ox1 : Own) : Sim (Z21) (Z73 x0 x1) (EE 4 [(.p (.lst ox0 (x0.map Z6))), (.p (.lst ox1 (x1.map eB)))] []) := fun _ h => ZM h ox0 ox1
noncomputable def Z3g (x0 : List Z2) (x1 : List Bool) : Option (Int × Bool) := pick fun r => ∀ (ox0 : Own) (ox1 : Own), RRun (Z1W) (EE 16 [(.p (.lst ox0 (x0.map Zc))), (.p (.lst ox1 (x1.map eB)))] []) r
theorem Zgv (x0 : List Z2) (x1 : List Bool) (ox0 : Own) (ox1 : Own) : Sim (Z1W) (Z3g x0 x1) (EE 16 [(.p (.lst ox0 (x0.map Zc))), (.p (.lst ox1 (x1.map eB)))] []) := fun _ h => ZM h ox0 ox1
noncomputable def Z72 (x0 : List Z0) : Option (Bool) := pick fun r => ∀ (ox0 : Own), RRun (Z2g) (EE 5 [(.p (.lst ox0 (x0.map Z6)))] []) r
theorem g_colanderlaw19_JudgeCommon_to (x0 : List Z0) (ox0 : Own) : Sim (Z2g) (Z72 x0) (EE 5 [(.p (.lst ox0 (x0.map Z6)))] []) := fun _ h => ZM h ox0
noncomputable def Z3f (x0 : List Z2) : Option (Int) := pick fun r => ∀ (ox0 : Own), RRun (Zk) (EE 18 [(.p (.lst ox0 (x0.map Zc)))] []) r
theorem Zgu (x0 : List Z2) (ox0 : Own) : Sim (Zk) (Z3f x0) (EE 18 [(.p (.lst ox0 (x0.map Zc)))] []) := fun _ h => ZM h ox0
noncomputable def Z7X (x0 : Z0) (x1 : Int) : Option (Bool) := pick fun r => ∀ (ox0_Log : Own), RRun (Z1l) (EE 7 [(.p (.agg (Zi x0 ox0_Log))), (iv x1)] []) r
theorem g_colanderlaw19_JudgeSelf_to (x0 : Z0) (x1 : Int) (ox0_Log : Own) : Sim (Z1l) (Z7X x0 x1) (EE 7 [(.p (.agg (Zi x0 ox0_Log))), (iv x1)] []) := fun _ h => ZM h ox0_Log
noncomputable def Z3b (x5 : List Z0) (x24 : Int) (x25 : Int) (b0 : Z0) : Option (Bool) := pick fun r => ∀ (ox5 : Own) (ob0_Log : Own) (hox5 : Z1e ox5 = true), RRun (Z1l) (ZmM 0 (.ptr 0 0) (.p (.lst ox5 (x5.map Z6))) (iv x24) (iv x25) [(Z1 b0 ob0_Log)]) r
theorem Z8R (x5 : List Z0) (x24 : Int) (x25 : Int) (b0 : Z0) (ox5 : Own) (ob0_Log : Own) (hox5 : Z1e ox5 = true) : Sim (Z1l) (Z3b x5 x24 x25 b0) (ZmM 0 (.ptr 0 0) (.p (.lst ox5 (x5.map Z6))) (iv x24) (iv x25) [(Z1 b0 ob0_Log)]) := fun _ h => ZM h ox5 ob0_Log hox5
noncomputable def Z1K (x0 : Z0) : Option (Bool) := pick fun r => ∀ (ox0_Log : Own), RRun (Zd) (EE 23 [(.p (.agg (Zi x0 ox0_Log)))] []) r
theorem Z4J (x0 : Z0) (ox0_Log : Own) : Sim (Zd) (Z1K x0) (EE 23 [(.p (.agg (Zi x0 ox0_Log)))] []) := fun _ h => ZM h ox0_Log
noncomputable def Z1P (x0 : Z0) (x1 : Z0) : Option (Bool) := pick fun r => ∀ (ox0_Log : Own) (ox1_Log : Own), RRun (Zd) (EE 24 [(.p (.agg (Zi x0 ox0_Log))), (.p (.agg (Zi x1 ox1_Log)))] []) r
theorem Z5O (x0 : Z0) (x1 : Z0) (ox0_Log : Own) (ox1_Log : Own) : Sim (Zd) (Z1P x0 x1) (EE 24 [(.p (.agg (Zi x0 ox0_Log))), (.p (.agg (Zi x1 ox1_Log)))] []) := fun _ h => ZM h ox0_Log ox1_Log
noncomputable def Z7n (x0 : Z0) (x1 : Z0) (x2 : Z0) : Option (Bool) := pick fun r => ∀ (ox0_Log : Own) (ox1_Log : Own) (ox2_Log : Own), RRun (Z2m) (EE 8 [(.p (.agg (Zi x0 ox0_Log))), (.p (.agg (Zi x1 ox1_Log))), (.p (.agg (Zi x2 ox2_Log)))] []) r
theorem g_colanderlaw19_JudgeChain_to (x0 : Z0) (x1 : Z0) (x2 : Z0) (ox0_Log : Own) (ox1_Log : Own) (ox2_Log : Own) : Sim (Z2m) (Z7n x0 x1 x2) (EE 8 [(.p (.agg (Zi x0 ox0_Log))), (.p (.agg (Zi x1 ox1_Log))), (.p (.agg (Zi x2 ox2_Log)))] []) := fun _ h => ZM h ox0_Log ox1_Log ox2_Log
noncomputable def Z7W (x0 : Z0) (x1 : Z0) : Option (Bool) := pick fun r => ∀ (ox0_Log : Own) (ox1_Log : Own), RRun (Z1D) (EE 9 [(.p (.agg (Zi x0 ox0_Log))), (.p (.agg (Zi x1 ox1_Log)))] []) r
theorem g_colanderlaw19_JudgeKept_to (x0 : Z0) (x1 : Z0) (ox0_Log : Own) (ox1_Log : Own) : Sim (Z1D) (Z7W x0 x1) (EE 9 [(.p (.agg (Zi x0 ox0_Log))), (.p (.agg (Zi x1 ox1_Log)))] []) := fun _ h => ZM h ox0_Log ox1_Log
noncomputable def Z3v (x0 : Z2) (x1 : Z2) : Option (Bool) := pick fun r => ∀ (ox0_Log : Own) (ox1_Log : Own), RRun (Zd) (EE 25 [(.p (.agg (ZP x0 ox0_Log))), (.p (.agg (ZP x1 ox1_Log)))] []) r
theorem Zho (x0 : Z2) (x1 : Z2) (ox0_Log : Own) (ox1_Log : Own) : Sim (Zd) (Z3v x0 x1) (EE 25 [(.p (.agg (ZP x0 ox0_Log))), (.p (.agg (ZP x1 ox1_Log)))] []) := fun _ h => ZM h ox0_Log ox1_Log
noncomputable def Z2F (x0 : Z0) (x1 : Z0) : Option ((List Zb) × Int) := pick fun r => ∀ (ox0_Log : Own) (ox1_Log : Own), RRun (Z29) (EE 26 [(.p (.agg (Zi x0 ox0_Log))), (.p (.agg (Zi x1 ox1_Log)))] []) r
theorem ZeB (x0 : Z0) (x1 : Z0) (ox0_Log : Own) (ox1_Log : Own) : Sim (Z29) (Z2F x0 x1) (EE 26 [(.p (.agg (Zi x0 ox0_Log))), (.p (.agg (Zi x1 ox1_Log)))] []) := fun _ h => ZM h ox0_Log ox1_Log
noncomputable def Z6A  : Option (Bool) :=
 (Z2S (([] : List Z0))).bind fun r1 =>
 (Z8d (([(Z0.mk 3 3 0 0 ([] : List Z3))] : List Z0)) (([true] : List Bool))).bind fun r2 =>
 (Z8d (([] : List Z0)) (([] : List Bool))).bind fun r3 =>
 if (r1.2.2) = true then
 (if ((r1.1 == 0)) = true then
 (if ((r1.2.1 == 0)) = true then
 (if ((r2.1 == 3)) = true then
 (if (r2.2) = true then
 (if ((r3.1 == 0)) = true then
 (if ((!r3.2)) = true then
 ((Z2b (([] : List Z0))).bind fun r4 =>
 if ((r4 == 0)) = true then
 ((Z56 ((Z0.mk 0 0 0 0 ([] : List Z3)))).bind fun r5 =>
 some (((r5.length : Int) == 1)))
 else
 (some (false)))
 else
 (some (false)))
 else
 (some (false)))
 else
 (some (false)))
 else
 (some (false)))
 else
 (some (false)))
 else
 (some (false)))
 else
 (some (false))
theorem Zg2  : Sim (Z51) (Z6A) (EE 10 [] []) := by
 unfold Z6A
 refine zf (ZDf ..) ?_
 refine ze ?_
 refine ze ?_
 refine zi fun r1 hr1 => ?_
 obtain ⟨qr1, er1, exr1, rfl⟩ := ZcO (([] : List Z0)) .sh r1 hr1
 refine zc [] (.p (.tup [(.v (.int .i64 r1.1)), (.v (.int .i64 r1.2.1)), (.v (.bool r1.2.2))])) [] er1 ?_
 refine zo (iv r1.1) ?_
 refine zo (iv r1.2.1) ?_
 refine zo (bv r1.2.2) ?_
 refine ze ?_
 refine zo (.p (.agg (Zi (Z0.mk 3 3 0 0 ([] : List Z3)) .nl))) ?_
 refine zo (.p (.lst .ex (([(Z0.mk 3 3 0 0 ([] : List Z3))] : List Z0).map Z6))) ?_
 refine zo (.p (.lst .ex (([true] : List Bool).map eB))) ?_
 refine zi fun r2 hr2 => ?_
 obtain ⟨qr2, er2, exr2, rfl⟩ := ZbQ (([(Z0.mk 3 3 0 0 ([] : List Z3))] : List Z0)) (([true] : List Bool)) .sh .sh r2 hr2
 refine zc [] (.p (.tup [(.v (.int .i64 r2.1)), (.v (.bool r2.2))])) [] er2 ?_
 refine zo (iv r2.1) ?_
 refine zo (bv r2.2) ?_
 refine ze ?_
 refine zi fun r3 hr3 => ?_
 obtain ⟨qr3, er3, exr3, rfl⟩ := ZbQ (([] : List Z0)) (([] : List Bool)) .sh .sh r3 hr3
 refine zc [] (.p (.tup [(.v (.int .i64 r3.1)), (.v (.bool r3.2))])) [] er3 ?_
 refine zo (iv r3.1) ?_
 refine zo (bv r3.2) ?_
 refine ze ?_
 refine za (r1.2.2) ?_ ?_
 ·refine zo (bv (r1.1 == 0)) ?_
  refine za ((r1.1 == 0)) ?_ ?_
  ·refine zo (bv (r1.2.1 == 0)) ?_
   refine za ((r1.2.1 == 0)) ?_ ?_
   ·refine zo (bv (r2.1 == 3)) ?_
    refine za ((r2.1 == 3)) ?_ ?_
    ·refine za (r2.2) ?_ ?_
     ·refine zo (bv (r3.1 == 0)) ?_
      refine za ((r3.1 == 0)) ?_ ?_
      ·refine zo (bv (!r3.2)) ?_
       refine za ((!r3.2)) ?_ ?_
       ·refine zi fun r4 hr4 => ?_
        obtain ⟨qr4, er4, exr4, rfl⟩ := Z9I (([] : List Z0)) .sh r4 hr4
        refine zc [] (iv r4) [] er4 ?_
        refine zo (bv (r4 == 0)) ?_
        refine za ((r4 == 0)) ?_ ?_
        ·refine zo (.p (.agg (Zi (Z0.mk 0 0 0 0 ([] : List Z3)) .nl))) ?_
         refine zi fun r5 hr5 => ?_
         obtain ⟨qr5, er5, exr5, rfl⟩ := ZhY ((Z0.mk 0 0 0 0 ([] : List Z3))) .sh r5 hr5
         refine zc [] (.p (.lst .sh (r5.map ZT))) [] er5 ?_
         refine zo (iv (r5.length : Int)) ?_ (Eq.trans (by kernel_rfl) (Z14 (P := PP) (t := 40) (d := 51) (by kernel_rfl) ZT .sh r5))
         refine zo (bv ((r5.length : Int) == 1)) ?_
         exact zr ((bv ((r5.length : Int) == 1)), []) ⟨_, rfl⟩
        ·exact zr ((bv false), []) ⟨_, rfl⟩
       ·exact zr ((bv false), []) ⟨_, rfl⟩
      ·exact zr ((bv false), []) ⟨_, rfl⟩
     ·exact zr ((bv false), []) ⟨_, rfl⟩
    ·exact zr ((bv false), []) ⟨_, rfl⟩
   ·exact zr ((bv false), []) ⟨_, rfl⟩
  ·exact zr ((bv false), []) ⟨_, rfl⟩
 ·exact zr ((bv false), []) ⟨_, rfl⟩
theorem ZgB  {r} (h : Z6A = some r) : Z2z = some r :=
 ZR (fun _ _ ha hb => RRun.uniq (ZgY) (ha ) (hb )) (Zg2  r h)
noncomputable def Z3P  : Option (Bool) :=
 some (true)
theorem Z7x  : Sim (Z21) (Z3P) (Zrb 0  []) := by
 unfold Z3P
 refine zf (ZBf ..) ?_
 refine ze ?_
 exact zr ((bv true), []) ⟨_, rfl⟩
noncomputable def Z3Q (x0 : List Z0) (x1 : List Bool) : Option (Bool) :=
 (Z8d x0 x1).bind fun r1 =>
 (Z1B x0).bind fun r2 =>
 (Z3g r2 x1).bind fun r3 =>
 if ((r1.1 == r3.1)) = true then
 (some ((r1.2 == r3.2)))
 else
 (some (false))
theorem ZbP (x0 : List Z0) (x1 : List Bool) (ox0 : Own) (ox1 : Own) : Sim (Z21) (Z3Q x0 x1) (Zww 0 (.p (.lst ox0 (x0.map Z6))) (.p (.lst ox1 (x1.map eB))) []) := by
 unfold Z3Q
 refine zf (ZBg ..) ?_
 refine ze ?_
 refine zi fun r1 hr1 => ?_
 obtain ⟨qr1, er1, exr1, rfl⟩ := ZbQ (x0) (x1) .sh .sh r1 hr1
 refine zc [] (.p (.tup [(.v (.int .i64 r1.1)), (.v (.bool r1.2))])) [] er1 ?_
 refine zo (iv r1.1) ?_
 refine zo (bv r1.2) ?_
 refine ze ?_
 refine zi fun r2 hr2 => ?_
 obtain ⟨qr2, er2, exr2, rfl⟩ := Z5z (x0) .sh r2 hr2
 refine zc [] (.p (.lst .sh (r2.map Zc))) [] er2 ?_
 refine zi fun r3 hr3 => ?_
 obtain ⟨qr3, er3, exr3, rfl⟩ := Zgv (r2) (x1) .sh .sh r3 hr3
 refine zc [] (.p (.tup [(.v (.int .i64 r3.1)), (.v (.bool r3.2))])) [] er3 ?_
 refine zo (iv r3.1) ?_
 refine zo (bv r3.2) ?_
 refine ze ?_
 refine zo (bv (r1.1 == r3.1)) ?_
 refine za ((r1.1 == r3.1)) ?_ ?_
 ·refine zo (bv (r1.2 == r3.2)) ?_
  exact zr ((bv (r1.2 == r3.2)), []) ⟨_, rfl⟩
 ·exact zr ((bv false), []) ⟨_, rfl⟩
noncomputable def Z3O (x0 : List Z0) (x1 : List Bool) : Option (Bool) :=
 (Z1u x0).bind fun r1 =>
 if ((!r1)) = true then
 (Z3P)
 else
 (if ((decide (20 < (x1.length : Int)))) = true then
 (Z3P)
 else
 (Z3Q x0 x1))
theorem ZbO (x0 : List Z0) (x1 : List Bool) (ox0 : Own) (ox1 : Own) : Sim (Z21) (Z3O x0 x1) (Zwv 0 (.p (.lst ox0 (x0.map Z6))) (.p (.lst ox1 (x1.map eB))) []) := by
 unfold Z3O
 refine zf (ZBe ..) ?_
 refine ze ?_
 refine zi fun r1 hr1 => ?_
 obtain ⟨qr1, er1, exr1, rfl⟩ := Z3c (x0) .sh r1 hr1
 refine zc [] (bv r1) [] er1 ?_
 refine zo (bv (!r1)) ?_
 refine za ((!r1)) ?_ ?_
 ·exact zk (Z7x )
 ·refine zo (iv (x1.length : Int)) ?_ (Eq.trans (by kernel_rfl) (Z14 (P := PP) (t := 30) (d := 4) (by kernel_rfl) eB (shrO ox1) x1))
  refine zo (bv (decide (20 < (x1.length : Int)))) ?_
  refine za ((decide (20 < (x1.length : Int)))) ?_ ?_
  ·exact zk (Z7x )
  ·exact zk (ZbP (x0) (x1) ox0 ox1)
noncomputable def Z4N (x0 : List Z0) (x1 : List Bool) : Option (Bool) :=
 (Z2z).bind fun r1 =>
 if ((!r1)) = true then
 (some (false))
 else
 (Z3O x0 x1)
theorem Zdd (x0 : List Z0) (x1 : List Bool) (ox0 : Own) (ox1 : Own) : Sim (Z21) (Z4N x0 x1) (EE 4 [(.p (.lst ox0 (x0.map Z6))), (.p (.lst ox1 (x1.map eB)))] []) := by
 unfold Z4N
 refine zf (ZFw ..) ?_
 refine ze ?_
 refine ze ?_
 refine zi fun r1 hr1 => ?_
 obtain ⟨qr1, er1, exr1, rfl⟩ := Z3V  r1 hr1
 refine zc [] (bv r1) [] er1 ?_
 refine zo (bv (!r1)) ?_
 refine za ((!r1)) ?_ ?_
 ·refine ze ?_
  exact zr ((bv false), []) ⟨_, rfl⟩
 ·exact zk (ZbO (x0) (x1) ox0 ox1)
theorem ZdD (x0 : List Z0) (x1 : List Bool) {r} (h : Z4N x0 x1 = some r) : Z73 x0 x1 = some r :=
 ZR (fun _ _ ha hb => RRun.uniq (Zeh) (ha .ex .ex) (hb .ex .ex)) (fun ox0 ox1 => Zdd x0 x1 ox0 ox1 r h)
noncomputable def Z3N (x0 : List Z0) : Option (Bool) :=
 (Z2b x0).bind fun r1 =>
 (Z1B x0).bind fun r2 =>
 (Z3f r2).bind fun r3 =>
 some ((r1 == r3))
theorem ZbN (x0 : List Z0) (ox0 : Own) : Sim (Z2g) (Z3N x0) (ZwC 0 (.p (.lst ox0 (x0.map Z6))) []) := by
 unfold Z3N
 refine zf (ZBi ..) ?_
 refine ze ?_
 refine zi fun r1 hr1 => ?_
 obtain ⟨qr1, er1, exr1, rfl⟩ := Z9I (x0) .sh r1 hr1
 refine zc [] (iv r1) [] er1 ?_
 refine zi fun r2 hr2 => ?_
 obtain ⟨qr2, er2, exr2, rfl⟩ := Z5z (x0) .sh r2 hr2
 refine zc [] (.p (.lst .sh (r2.map Zc))) [] er2 ?_
 refine zi fun r3 hr3 => ?_
 obtain ⟨qr3, er3, exr3, rfl⟩ := Zgu (r2) .sh r3 hr3
 refine zc [] (iv r3) [] er3 ?_
 refine zo (bv (r1 == r3)) ?_
 exact zr ((bv (r1 == r3)), []) ⟨_, rfl⟩
noncomputable def Z3M (x0 : List Z0) : Option (Bool) :=
 (Z1u x0).bind fun r1 =>
 if ((!r1)) = true then
 (some (true))
 else
 (Z3N x0)
theorem ZbM (x0 : List Z0) (ox0 : Own) : Sim (Z2g) (Z3M x0) (ZwB 0 (.p (.lst ox0 (x0.map Z6))) []) := by
 unfold Z3M
 refine zf (ZBh ..) ?_
 refine ze ?_
 refine zi fun r1 hr1 => ?_
 obtain ⟨qr1, er1, exr1, rfl⟩ := Z3c (x0) .sh r1 hr1
 refine zc [] (bv r1) [] er1 ?_
 refine zo (bv (!r1)) ?_
 refine za ((!r1)) ?_ ?_
 ·refine ze ?_
  exact zr ((bv true), []) ⟨_, rfl⟩
 ·exact zk (ZbN (x0) ox0)
noncomputable def Z4M (x0 : List Z0) : Option (Bool) :=
 (Z2z).bind fun r1 =>
 if ((!r1)) = true then
 (some (false))
 else
 (Z3M x0)
theorem Zdc (x0 : List Z0) (ox0 : Own) : Sim (Z2g) (Z4M x0) (EE 5 [(.p (.lst ox0 (x0.map Z6)))] []) := by
 unfold Z4M
 refine zf (ZFz ..) ?_
 refine ze ?_
 refine ze ?_
 refine zi fun r1 hr1 => ?_
 obtain ⟨qr1, er1, exr1, rfl⟩ := Z3V  r1 hr1
 refine zc [] (bv r1) [] er1 ?_
 refine zo (bv (!r1)) ?_
 refine za ((!r1)) ?_ ?_
 ·refine ze ?_
  exact zr ((bv false), []) ⟨_, rfl⟩
 ·exact zk (ZbM (x0) ox0)
theorem ZdC (x0 : List Z0) {r} (h : Z4M x0 = some r) : Z72 x0 = some r :=
 ZR (fun _ _ ha hb => RRun.uniq (Zeg) (ha .ex) (hb .ex)) (fun ox0 => Zdc x0 ox0 r h)
noncomputable def Z38  : Option (Bool) :=
 some (true)
theorem Z5i  : Sim (Z1l) (Z38) (Zpf 0  []) := by
 unfold Z38
 refine zf (ZBl ..) ?_
 refine ze ?_
 exact zr ((bv true), []) ⟨_, rfl⟩
noncomputable def Z6q (x1 : Int) (b0 : Z0) : Option (Bool) :=
 Z3b (([] : List Z0)) x1 0 b0
theorem ZcJ (x1 : Int) (b0 : Z0) (ob0_Log : Own) : Sim (Z1l) (Z6q x1 b0) (ZwK 0 (iv x1) (.ptr 0 0) [(Z1 b0 ob0_Log)]) := by
 unfold Z6q
 refine zf (ZBm ..) ?_
 refine ze ?_
 refine ze ?_
 exact zk (Z8R (([] : List Z0)) (x1) (0) (b0) .nl ob0_Log rfl)
noncomputable def Z4q (x1 : Int) (b0 : Z0) : Option (Bool) :=
 (Z1u (([b0] : List Z0))).bind fun r1 =>
 if ((!r1)) = true then
 (Z38)
 else
 (if ((decide (x1 < 1))) = true then
 (Z38)
 else
 (if ((decide (7 < x1))) = true then
 (Z38)
 else
 (Z6q x1 b0)))
theorem ZcI (x1 : Int) (b0 : Z0) (ob0_Log : Own) : Sim (Z1l) (Z4q x1 b0) (ZwJ 0 (iv x1) (.ptr 0 0) [(Z1 b0 ob0_Log)]) := by
 unfold Z4q
 refine zf (ZBk ..) ?_
 refine ze ?_
 refine zo (.p (.agg (Zi b0 (shrO ob0_Log)))) ?_
 refine zo (.p (.lst .ex (([b0] : List Z0).map Z6))) ?_
 refine zi fun r1 hr1 => ?_
 obtain ⟨qr1, er1, exr1, rfl⟩ := Z3c (([b0] : List Z0)) .sh r1 hr1
 refine zc [] (bv r1) [(Z1 b0 ob0_Log)] er1 ?_
 refine zo (bv (!r1)) ?_
 refine za ((!r1)) ?_ ?_
 ·exact zk (Z5i )
 ·refine zo (bv (decide (x1 < 1))) ?_
  refine za ((decide (x1 < 1))) ?_ ?_
  ·exact zk (Z5i )
  ·refine zo (bv (decide (7 < x1))) ?_
   refine za ((decide (7 < x1))) ?_ ?_
   ·exact zk (Z5i )
   ·exact zk (ZcJ (x1) (b0) ob0_Log)
noncomputable def Z5r (x0 : Z0) (x1 : Int) : Option (Bool) :=
 (Z2z).bind fun r1 =>
 if ((!r1)) = true then
 (some (false))
 else
 (Z4q x1 x0)
theorem Zek (x0 : Z0) (x1 : Int) (ox0_Log : Own) : Sim (Z1l) (Z5r x0 x1) (EE 7 [(.p (.agg (Zi x0 ox0_Log))), (iv x1)] []) := by
 unfold Z5r
 refine zf (ZFC ..) ?_
 refine ze ?_
 refine zx (.ptr 0 0) [(Z1 x0 ox0_Log)] ?_
 refine ze ?_
 refine zi fun r1 hr1 => ?_
 obtain ⟨qr1, er1, exr1, rfl⟩ := Z3V  r1 hr1
 refine zc [] (bv r1) [(Z1 x0 ox0_Log)] er1 ?_
 refine zo (bv (!r1)) ?_
 refine za ((!r1)) ?_ ?_
 ·refine ze ?_
  exact zr ((bv false), [(Z1 x0 ox0_Log)]) ⟨_, rfl⟩
 ·exact zk (ZcI (x1) (x0) ox0_Log)
theorem ZeM (x0 : Z0) (x1 : Int) {r} (h : Z5r x0 x1 = some r) : Z7X x0 x1 = some r :=
 ZR (fun _ _ ha hb => RRun.uniq (Z9U) (ha .ex) (hb .ex)) (fun ox0_Log => Zek x0 x1 ox0_Log r h)
noncomputable def Z4r (x5 : List Z0) (x24 : Int) (x25 : Int) (b0 : Z0) : Option (Bool) :=
 (lapp x5 ([b0] : List Z0)).bind fun a1 =>
 Z3b a1 x24 ((IntKind.i64.wrap (x25 + 1))) b0
theorem ZcK (x5 : List Z0) (x24 : Int) (x25 : Int) (b0 : Z0) (ox5 : Own) (ob0_Log : Own) (hox5 : Z1e ox5 = true) : Sim (Z1l) (Z4r x5 x24 x25 b0) (ZwL 0 (.ptr 0 0) (.p (.lst ox5 (x5.map Z6))) (iv x24) (iv x25) [(Z1 b0 ob0_Log)]) := by
 unfold Z4r
 refine zf (ZBn ..) ?_
 refine ze ?_
 refine zo (.p (.agg (Zi b0 (shrO ob0_Log)))) ?_
 refine zo (.p (.lst .ex (([b0] : List Z0).map Z6))) ?_
 refine zi fun a1 ha1 => ?_
 refine zo (.p (.lst .un (a1.map Z6))) ?_ (Eq.trans (by kernel_rfl) <| Z4E (n := 5) (o := ox5) (o' := .ex) (e := Z6) (ys := ([b0] : List Z0)) (fun _ => rfl) (by decide) hox5 ha1)
 refine ze ?_
 refine zo (iv (IntKind.i64.wrap (x25 + 1))) ?_
 exact zk (Z8R (a1) (x24) ((IntKind.i64.wrap (x25 + 1))) (b0) .un ob0_Log rfl)
noncomputable def Z2s (x5 : List Z0) (x6 : Int) (b0 : Z0) : Option (Bool) :=
 (Z2S x5).bind fun r1 =>
 if (r1.2.2) = true then
 ((Z2b x5).bind fun r2 =>
 if ((r2 == x6)) = true then
 ((Z1P b0 b0).bind fun r3 =>
 some (r3))
 else
 (some (false)))
 else
 (some (false))
theorem Z87 (x5 : List Z0) (x6 : Int) (b0 : Z0) (ox5 : Own) (ob0_Log : Own) (hox5 : Z1e ox5 = true) : Sim (Z1l) (Z2s x5 x6 b0) (Zpe 0 (.ptr 0 0) (.p (.lst ox5 (x5.map Z6))) (iv x6) [(Z1 b0 ob0_Log)]) := by
 unfold Z2s
 refine zf (ZA0 ..) ?_
 refine ze ?_
 refine zi fun r1 hr1 => ?_
 obtain ⟨qr1, er1, exr1, rfl⟩ := ZcO (x5) .sh r1 hr1
 refine zc [] (.p (.tup [(.v (.int .i64 r1.1)), (.v (.int .i64 r1.2.1)), (.v (.bool r1.2.2))])) [(Z1 b0 ob0_Log)] er1 ?_
 refine zo (iv r1.1) ?_
 refine zo (iv r1.2.1) ?_
 refine zo (bv r1.2.2) ?_
 refine ze ?_
 refine za (r1.2.2) ?_ ?_
 ·refine zi fun r2 hr2 => ?_
  obtain ⟨qr2, er2, exr2, rfl⟩ := Z9I (x5) .sh r2 hr2
  refine zc [] (iv r2) [(Z1 b0 ob0_Log)] er2 ?_
  refine zo (bv (r2 == x6)) ?_
  refine za ((r2 == x6)) ?_ ?_
  ·refine zo (.p (.agg (Zi b0 (shrO ob0_Log)))) ?_
   refine zo (.p (.agg (Zi b0 (shrO ob0_Log)))) ?_
   refine zi fun r3 hr3 => ?_
   obtain ⟨qr3, er3, exr3, rfl⟩ := Z5O (b0) (b0) .sh .sh r3 hr3
   refine zc [] (bv r3) [(Z1 b0 ob0_Log)] er3 ?_
   exact zr ((bv r3), [(Z1 b0 ob0_Log)]) ⟨_, rfl⟩
  ·exact zr ((bv false), [(Z1 b0 ob0_Log)]) ⟨_, rfl⟩
 ·exact zr ((bv false), [(Z1 b0 ob0_Log)]) ⟨_, rfl⟩
noncomputable def Z45 (x5 : List Z0) (b0 : Z0) : Option (Bool) :=
 (Z1K b0).bind fun r1 =>
 if (r1) = true then
 (Z2s x5 ((b0.Log.length : Int)) b0)
 else
 (Z2s x5 0 b0)
theorem Zca (x5 : List Z0) (b0 : Z0) (ox5 : Own) (ob0_Log : Own) (hox5 : Z1e ox5 = true) : Sim (Z1l) (Z45 x5 b0) (ZtK 0 (.ptr 0 0) (.p (.lst ox5 (x5.map Z6))) [(Z1 b0 ob0_Log)]) := by
 unfold Z45
 refine zf (ZzZ ..) ?_
 refine ze ?_
 refine ze ?_
 refine zo (.p (.agg (Zi b0 (shrO ob0_Log)))) ?_
 refine zi fun r1 hr1 => ?_
 obtain ⟨qr1, er1, exr1, rfl⟩ := Z4J (b0) .sh r1 hr1
 refine zc [] (bv r1) [(Z1 b0 ob0_Log)] er1 ?_
 refine za (r1) ?_ ?_
 ·refine ze ?_
  refine zo (.ptr 0 4) ?_
  refine zo (.p (.lst (shrO ob0_Log) (b0.Log.map Z7))) ?_
  refine zo (iv (b0.Log.length : Int)) ?_ (Eq.trans (by kernel_rfl) (Z14 (P := PP) (t := 37) (d := 81) (by kernel_rfl) Z7 (shrO ob0_Log) b0.Log))
  exact zk (Z87 (x5) ((b0.Log.length : Int)) (b0) ox5 ob0_Log hox5)
 ·exact zk (Z87 (x5) (0) (b0) ox5 ob0_Log hox5)
noncomputable def Z37 (x5 : List Z0) (x24 : Int) (x25 : Int) (b0 : Z0) : Option (Bool) :=
 if ((decide (x25 < x24))) = true then
 (Z4r x5 x24 x25 b0)
 else
 (Z45 x5 b0)
theorem ZcH (x5 : List Z0) (x24 : Int) (x25 : Int) (b0 : Z0) (ox5 : Own) (ob0_Log : Own) (hox5 : Z1e ox5 = true) : Sim (Z1l) (Z37 x5 x24 x25 b0) (ZmM 0 (.ptr 0 0) (.p (.lst ox5 (x5.map Z6))) (iv x24) (iv x25) [(Z1 b0 ob0_Log)]) := by
 unfold Z37
 refine zf (ZBj ..) ?_
 refine ze ?_
 refine zo (bv (decide (x25 < x24))) ?_
 refine za ((decide (x25 < x24))) ?_ ?_
 ·exact zk (ZcK (x5) (x24) (x25) (b0) ox5 ob0_Log hox5)
 ·exact zk (Zca (x5) (b0) ox5 ob0_Log hox5)
theorem Z8Q (x5 : List Z0) (x24 : Int) (x25 : Int) (b0 : Z0) {r} (h : Z37 x5 x24 x25 b0 = some r) : Z3b x5 x24 x25 b0 = some r :=
 ZR (fun _ _ ha hb => RRun.uniq (Z9U) (ha .ex .ex rfl) (hb .ex .ex rfl)) (fun ox5 ob0_Log hox5 => ZcH x5 x24 x25 b0 ox5 ob0_Log hox5 r h)
noncomputable def Z42 (b0 : Z0) (b1 : Z0) (b2 : Z0) : Option (Bool) :=
 (Z1P b0 b1).bind fun r1 =>
 if ((!r1)) = true then
 (some (true))
 else
 ((Z1P b1 b2).bind fun r2 =>
 if ((!r2)) = true then
 (some (true))
 else
 ((Z1P b0 b2).bind fun r3 =>
 some (r3)))
theorem Zc7 (b0 : Z0) (b1 : Z0) (b2 : Z0) (ob0_Log : Own) (ob1_Log : Own) (ob2_Log : Own) : Sim (Z2m) (Z42 b0 b1 b2) (ZwN 0 (.ptr 0 0) (.ptr 1 0) (.ptr 2 0) [(Z1 b0 ob0_Log), (Z1 b1 ob1_Log), (Z1 b2 ob2_Log)]) := by
 unfold Z42
 refine zf (ZBp ..) ?_
 refine ze ?_
 refine zo (.p (.agg (Zi b0 (shrO ob0_Log)))) ?_
 refine zo (.p (.agg (Zi b1 (shrO ob1_Log)))) ?_
 refine zi fun r1 hr1 => ?_
 obtain ⟨qr1, er1, exr1, rfl⟩ := Z5O (b0) (b1) .sh .sh r1 hr1
 refine zc [] (bv r1) [(Z1 b0 ob0_Log), (Z1 b1 ob1_Log), (Z1 b2 ob2_Log)] er1 ?_
 refine zo (bv (!r1)) ?_
 refine za ((!r1)) ?_ ?_
 ·exact zr ((bv true), [(Z1 b0 ob0_Log), (Z1 b1 ob1_Log), (Z1 b2 ob2_Log)]) ⟨_, rfl⟩
 ·refine zo (.p (.agg (Zi b1 (shrO ob1_Log)))) ?_
  refine zo (.p (.agg (Zi b2 (shrO ob2_Log)))) ?_
  refine zi fun r2 hr2 => ?_
  obtain ⟨qr2, er2, exr2, rfl⟩ := Z5O (b1) (b2) .sh .sh r2 hr2
  refine zc [] (bv r2) [(Z1 b0 ob0_Log), (Z1 b1 ob1_Log), (Z1 b2 ob2_Log)] er2 ?_
  refine zo (bv (!r2)) ?_
  refine za ((!r2)) ?_ ?_
  ·exact zr ((bv true), [(Z1 b0 ob0_Log), (Z1 b1 ob1_Log), (Z1 b2 ob2_Log)]) ⟨_, rfl⟩
  ·refine zo (.p (.agg (Zi b0 (shrO ob0_Log)))) ?_
   refine zo (.p (.agg (Zi b2 (shrO ob2_Log)))) ?_
   refine zi fun r3 hr3 => ?_
   obtain ⟨qr3, er3, exr3, rfl⟩ := Z5O (b0) (b2) .sh .sh r3 hr3
   refine zc [] (bv r3) [(Z1 b0 ob0_Log), (Z1 b1 ob1_Log), (Z1 b2 ob2_Log)] er3 ?_
   exact zr ((bv r3), [(Z1 b0 ob0_Log), (Z1 b1 ob1_Log), (Z1 b2 ob2_Log)]) ⟨_, rfl⟩
noncomputable def Z41 (b0 : Z0) (b1 : Z0) (b2 : Z0) : Option (Bool) :=
 (Z1u (([b0, b1, b2] : List Z0))).bind fun r1 =>
 if ((!r1)) = true then
 (some (true))
 else
 (Z42 b0 b1 b2)
theorem Zc6 (b0 : Z0) (b1 : Z0) (b2 : Z0) (ob0_Log : Own) (ob1_Log : Own) (ob2_Log : Own) : Sim (Z2m) (Z41 b0 b1 b2) (ZwM 0 (.ptr 0 0) (.ptr 1 0) (.ptr 2 0) [(Z1 b0 ob0_Log), (Z1 b1 ob1_Log), (Z1 b2 ob2_Log)]) := by
 unfold Z41
 refine zf (ZBo ..) ?_
 refine ze ?_
 refine zo (.p (.agg (Zi b0 (shrO ob0_Log)))) ?_
 refine zo (.p (.agg (Zi b1 (shrO ob1_Log)))) ?_
 refine zo (.p (.agg (Zi b2 (shrO ob2_Log)))) ?_
 refine zo (.p (.lst .ex (([b0, b1, b2] : List Z0).map Z6))) ?_
 refine zi fun r1 hr1 => ?_
 obtain ⟨qr1, er1, exr1, rfl⟩ := Z3c (([b0, b1, b2] : List Z0)) .sh r1 hr1
 refine zc [] (bv r1) [(Z1 b0 ob0_Log), (Z1 b1 ob1_Log), (Z1 b2 ob2_Log)] er1 ?_
 refine zo (bv (!r1)) ?_
 refine za ((!r1)) ?_ ?_
 ·refine ze ?_
  exact zr ((bv true), [(Z1 b0 ob0_Log), (Z1 b1 ob1_Log), (Z1 b2 ob2_Log)]) ⟨_, rfl⟩
 ·exact zk (Zc7 (b0) (b1) (b2) ob0_Log ob1_Log ob2_Log)
noncomputable def Z5b (x0 : Z0) (x1 : Z0) (x2 : Z0) : Option (Bool) :=
 (Z2z).bind fun r1 =>
 if ((!r1)) = true then
 (some (false))
 else
 (Z41 x0 x1 x2)
theorem ZdB (x0 : Z0) (x1 : Z0) (x2 : Z0) (ox0_Log : Own) (ox1_Log : Own) (ox2_Log : Own) : Sim (Z2m) (Z5b x0 x1 x2) (EE 8 [(.p (.agg (Zi x0 ox0_Log))), (.p (.agg (Zi x1 ox1_Log))), (.p (.agg (Zi x2 ox2_Log)))] []) := by
 unfold Z5b
 refine zf (ZFG ..) ?_
 refine ze ?_
 refine zx (.ptr 0 0) [(Z1 x0 ox0_Log)] ?_
 refine zx (.ptr 1 0) [(Z1 x0 ox0_Log), (Z1 x1 ox1_Log)] ?_
 refine zx (.ptr 2 0) [(Z1 x0 ox0_Log), (Z1 x1 ox1_Log), (Z1 x2 ox2_Log)] ?_
 refine ze ?_
 refine zi fun r1 hr1 => ?_
 obtain ⟨qr1, er1, exr1, rfl⟩ := Z3V  r1 hr1
 refine zc [] (bv r1) [(Z1 x0 ox0_Log), (Z1 x1 ox1_Log), (Z1 x2 ox2_Log)] er1 ?_
 refine zo (bv (!r1)) ?_
 refine za ((!r1)) ?_ ?_
 ·refine ze ?_
  exact zr ((bv false), [(Z1 x0 ox0_Log), (Z1 x1 ox1_Log), (Z1 x2 ox2_Log)]) ⟨_, rfl⟩
 ·exact zk (Zc6 (x0) (x1) (x2) ox0_Log ox1_Log ox2_Log)
theorem Zei (x0 : Z0) (x1 : Z0) (x2 : Z0) {r} (h : Z5b x0 x1 x2 = some r) : Z7n x0 x1 x2 = some r :=
 ZR (fun _ _ ha hb => RRun.uniq (ZeH) (ha .ex .ex .ex) (hb .ex .ex .ex)) (fun ox0_Log ox1_Log ox2_Log => ZdB x0 x1 x2 ox0_Log ox1_Log ox2_Log r h)
noncomputable def Z4p  : Option (Bool) :=
 some (false)
theorem Z8o  : Sim (Z1D) (Z4p) (Zrc 0  []) := by
 unfold Z4p
 refine zf (ZBt ..) ?_
 refine ze ?_
 exact zr ((bv false), []) ⟨_, rfl⟩
noncomputable def Z44  : Option (Bool) :=
 some (true)
theorem Zc9  : Sim (Z1D) (Z44) (ZtY 0  []) := by
 unfold Z44
 refine zf (ZAe ..) ?_
 refine ze ?_
 exact zr ((bv true), []) ⟨_, rfl⟩
noncomputable def Z43 (x8 : Bool) (b0 : Z0) (b1 : Z0) : Option (Bool) :=
 (Z2F b0 b1).bind fun r1 =>
 if ((r1.2 == 0)) = true then
 (some (x8))
 else
 (Z44)
theorem Zc8 (x8 : Bool) (b0 : Z0) (b1 : Z0) (ob0_Log : Own) (ob1_Log : Own) : Sim (Z1D) (Z43 x8 b0 b1) (ZtX 0 (.ptr 0 0) (.ptr 1 0) (bv x8) [(Z1 b0 ob0_Log), (Z1 b1 ob1_Log)]) := by
 unfold Z43
 refine zf (ZAd ..) ?_
 refine ze ?_
 refine zo (.p (.agg (Zi b0 (shrO ob0_Log)))) ?_
 refine zo (.p (.agg (Zi b1 (shrO ob1_Log)))) ?_
 refine zi fun r1 hr1 => ?_
 obtain ⟨qr1, er1, exr1, rfl⟩ := ZeB (b0) (b1) .sh .sh r1 hr1
 refine zc [] (.p (.tup [(.lst .sh (r1.1.map ZO)), (.v (.int .i64 r1.2))])) [(Z1 b0 ob0_Log), (Z1 b1 ob1_Log)] er1 ?_
 refine zo (.p (.lst .sh (r1.1.map ZO))) ?_
 refine zo (iv r1.2) ?_
 refine ze ?_
 refine zo (bv (r1.2 == 0)) ?_
 refine za ((r1.2 == 0)) ?_ ?_
 ·refine ze ?_
  exact zr ((bv x8), [(Z1 b0 ob0_Log), (Z1 b1 ob1_Log)]) ⟨_, rfl⟩
 ·exact zk (Zc9 )
noncomputable def Z1n (x8 : Bool) (b0 : Z0) (b1 : Z0) : Option (Bool) :=
 (Z1P b0 b1).bind fun r1 =>
 if ((!(r1 == x8))) = true then
 (Z4p)
 else
 ((Z1P b0 b0).bind fun r2 =>
 if ((!r2)) = true then
 (Z4p)
 else
 (Z43 x8 b0 b1))
theorem Z3p (x8 : Bool) (b0 : Z0) (b1 : Z0) (ob0_Log : Own) (ob1_Log : Own) : Sim (Z1D) (Z1n x8 b0 b1) (ZmN 0 (.ptr 0 0) (.ptr 1 0) (bv x8) [(Z1 b0 ob0_Log), (Z1 b1 ob1_Log)]) := by
 unfold Z1n
 refine zf (ZBs ..) ?_
 refine ze ?_
 refine zo (.p (.agg (Zi b0 (shrO ob0_Log)))) ?_
 refine zo (.p (.agg (Zi b1 (shrO ob1_Log)))) ?_
 refine zi fun r1 hr1 => ?_
 obtain ⟨qr1, er1, exr1, rfl⟩ := Z5O (b0) (b1) .sh .sh r1 hr1
 refine zc [] (bv r1) [(Z1 b0 ob0_Log), (Z1 b1 ob1_Log)] er1 ?_
 refine zo (bv (!(r1 == x8))) ?_
 refine za ((!(r1 == x8))) ?_ ?_
 ·exact zk (Z8o )
 ·refine zo (.p (.agg (Zi b0 (shrO ob0_Log)))) ?_
  refine zo (.p (.agg (Zi b0 (shrO ob0_Log)))) ?_
  refine zi fun r2 hr2 => ?_
  obtain ⟨qr2, er2, exr2, rfl⟩ := Z5O (b0) (b0) .sh .sh r2 hr2
  refine zc [] (bv r2) [(Z1 b0 ob0_Log), (Z1 b1 ob1_Log)] er2 ?_
  refine zo (bv (!r2)) ?_
  refine za ((!r2)) ?_ ?_
  ·exact zk (Z8o )
  ·exact zk (Zc8 (x8) (b0) (b1) ob0_Log ob1_Log)
noncomputable def Z4o (b0 : Z0) (b1 : Z0) : Option (Bool) :=
 (Z1B (([b0, b1] : List Z0))).bind fun r1 =>
 (lget r1 0).bind fun a2 =>
 (lget r1 1).bind fun a3 =>
 if ((decide (a2.View ≤ a3.View))) = true then
 (if ((decide (a2.Normal ≤ a3.Normal))) = true then
 (if ((decide (a2.Commit ≤ a3.Commit))) = true then
 ((Z3v a2 a3).bind fun r4 =>
 Z1n ((!r4)) b0 b1)
 else
 (Z1n false b0 b1))
 else
 (Z1n false b0 b1))
 else
 (Z1n false b0 b1)
theorem ZcG (b0 : Z0) (b1 : Z0) (ob0_Log : Own) (ob1_Log : Own) : Sim (Z1D) (Z4o b0 b1) (ZwP 0 (.ptr 0 0) (.ptr 1 0) [(Z1 b0 ob0_Log), (Z1 b1 ob1_Log)]) := by
 unfold Z4o
 refine zf (ZBr ..) ?_
 refine ze ?_
 refine zo (.p (.agg (Zi b0 (shrO ob0_Log)))) ?_
 refine zo (.p (.agg (Zi b1 (shrO ob1_Log)))) ?_
 refine zo (.p (.lst .ex (([b0, b1] : List Z0).map Z6))) ?_
 refine zi fun r1 hr1 => ?_
 obtain ⟨qr1, er1, exr1, rfl⟩ := Z5z (([b0, b1] : List Z0)) .sh r1 hr1
 refine zc [] (.p (.lst .sh (r1.map Zc))) [(Z1 b0 ob0_Log), (Z1 b1 ob1_Log)] er1 ?_
 refine ze ?_
 refine zi fun a2 ha2 => ?_
 refine zo (.cptr (ZP a2 .sh)) ?_ (Eq.trans (by kernel_rfl) (Z1i (o := .sh) (k := .i64) (n := 5) (e := Zc) (cs := Z1x) (fun _ => rfl) (fun _ => rfl) (by decide) ha2))
 refine zo (.p (.agg (ZP a2 .sh))) ?_
 refine zi fun a3 ha3 => ?_
 refine zo (.cptr (ZP a3 .sh)) ?_ (Eq.trans (by kernel_rfl) (Z1i (o := .sh) (k := .i64) (n := 5) (e := Zc) (cs := Z1x) (fun _ => rfl) (fun _ => rfl) (by decide) ha3))
 refine zo (.p (.agg (ZP a3 .sh))) ?_
 refine zz (.ptr 2 0) [(Z1 b0 ob0_Log), (Z1 b1 ob1_Log), (ZK (Z2.mk 0 0 0 0 ([] : List Zo)) .nl)] ?_
 refine zz (.ptr 3 0) [(Z1 b0 ob0_Log), (Z1 b1 ob1_Log), (ZK (Z2.mk 0 0 0 0 ([] : List Zo)) .nl), (ZK (Z2.mk 0 0 0 0 ([] : List Zo)) .nl)] ?_
 refine zt [(Z1 b0 ob0_Log), (Z1 b1 ob1_Log), (ZK a2 .sh), (ZK (Z2.mk 0 0 0 0 ([] : List Zo)) .nl)] ?_
 refine zt [(Z1 b0 ob0_Log), (Z1 b1 ob1_Log), (ZK a2 .sh), (ZK a3 .sh)] ?_
 refine zg ?_
 refine zg ?_
 refine zg ?_
 refine zg ?_
 refine zg ?_
 refine ze ?_
 refine zo (.ptr 3 0) ?_
 refine zo (iv a3.View) ?_
 refine zo (.ptr 2 0) ?_
 refine zo (iv a2.View) ?_
 refine zo (bv (decide (a2.View ≤ a3.View))) ?_
 refine za ((decide (a2.View ≤ a3.View))) ?_ ?_
 ·refine zo (.ptr 3 1) ?_
  refine zo (iv a3.Normal) ?_
  refine zo (.ptr 2 1) ?_
  refine zo (iv a2.Normal) ?_
  refine zo (bv (decide (a2.Normal ≤ a3.Normal))) ?_
  refine za ((decide (a2.Normal ≤ a3.Normal))) ?_ ?_
  ·refine zo (.ptr 3 2) ?_
   refine zo (iv a3.Commit) ?_
   refine zo (.ptr 2 2) ?_
   refine zo (iv a2.Commit) ?_
   refine zo (bv (decide (a2.Commit ≤ a3.Commit))) ?_
   refine za ((decide (a2.Commit ≤ a3.Commit))) ?_ ?_
   ·refine zo (.p (.agg (ZP a2 .sh))) ?_
    refine zo (.p (.agg (ZP a3 .sh))) ?_
    refine zi fun r4 hr4 => ?_
    obtain ⟨qr4, er4, exr4, rfl⟩ := Zho (a2) (a3) .sh .sh r4 hr4
    refine zc [] (bv r4) [(Z1 b0 ob0_Log), (Z1 b1 ob1_Log), (ZK a2 .sh), (ZK a3 .sh)] er4 ?_
    refine zo (bv (!r4)) ?_
    exact zk (Z3p ((!r4)) (b0) (b1) ob0_Log ob1_Log)
   ·exact zk (Z3p (false) (b0) (b1) ob0_Log ob1_Log)
  ·exact zk (Z3p (false) (b0) (b1) ob0_Log ob1_Log)
 ·exact zk (Z3p (false) (b0) (b1) ob0_Log ob1_Log)
noncomputable def Z4n (b0 : Z0) (b1 : Z0) : Option (Bool) :=
 (Z1u (([b0, b1] : List Z0))).bind fun r1 =>
 if ((!r1)) = true then
 (some (true))
 else
 (Z4o b0 b1)
theorem ZcF (b0 : Z0) (b1 : Z0) (ob0_Log : Own) (ob1_Log : Own) : Sim (Z1D) (Z4n b0 b1) (ZwO 0 (.ptr 0 0) (.ptr 1 0) [(Z1 b0 ob0_Log), (Z1 b1 ob1_Log)]) := by
 unfold Z4n
 refine zf (ZBq ..) ?_
 refine ze ?_
 refine zo (.p (.agg (Zi b0 (shrO ob0_Log)))) ?_
 refine zo (.p (.agg (Zi b1 (shrO ob1_Log)))) ?_
 refine zo (.p (.lst .ex (([b0, b1] : List Z0).map Z6))) ?_
 refine zi fun r1 hr1 => ?_
 obtain ⟨qr1, er1, exr1, rfl⟩ := Z3c (([b0, b1] : List Z0)) .sh r1 hr1
 refine zc [] (bv r1) [(Z1 b0 ob0_Log), (Z1 b1 ob1_Log)] er1 ?_
 refine zo (bv (!r1)) ?_
 refine za ((!r1)) ?_ ?_
 ·refine ze ?_
  exact zr ((bv true), [(Z1 b0 ob0_Log), (Z1 b1 ob1_Log)]) ⟨_, rfl⟩
 ·exact zk (ZcG (b0) (b1) ob0_Log ob1_Log)
noncomputable def Z5q (x0 : Z0) (x1 : Z0) : Option (Bool) :=
 (Z2z).bind fun r1 =>
 if ((!r1)) = true then
 (some (false))
 else
 (Z4n x0 x1)
theorem Zej (x0 : Z0) (x1 : Z0) (ox0_Log : Own) (ox1_Log : Own) : Sim (Z1D) (Z5q x0 x1) (EE 9 [(.p (.agg (Zi x0 ox0_Log))), (.p (.agg (Zi x1 ox1_Log)))] []) := by
 unfold Z5q
 refine zf (ZFH ..) ?_
 refine ze ?_
 refine zx (.ptr 0 0) [(Z1 x0 ox0_Log)] ?_
 refine zx (.ptr 1 0) [(Z1 x0 ox0_Log), (Z1 x1 ox1_Log)] ?_
 refine ze ?_
 refine zi fun r1 hr1 => ?_
 obtain ⟨qr1, er1, exr1, rfl⟩ := Z3V  r1 hr1
 refine zc [] (bv r1) [(Z1 x0 ox0_Log), (Z1 x1 ox1_Log)] er1 ?_
 refine zo (bv (!r1)) ?_
 refine za ((!r1)) ?_ ?_
 ·refine ze ?_
  exact zr ((bv false), [(Z1 x0 ox0_Log), (Z1 x1 ox1_Log)]) ⟨_, rfl⟩
 ·exact zk (ZcF (x0) (x1) ox0_Log ox1_Log)
theorem ZeL (x0 : Z0) (x1 : Z0) {r} (h : Z5q x0 x1 = some r) : Z7W x0 x1 = some r :=
 ZR (fun _ _ ha hb => RRun.uniq (Zfg) (ha .ex .ex) (hb .ex .ex)) (fun ox0_Log ox1_Log => Zej x0 x1 ox0_Log ox1_Log r h)
end Go.Proofs.YtiigbcahdaoedaaGreatDoor.N3
end
