/- Unit's Split walked: a range over a function. Condition: the tables lie as they are laid. -/
import Derived.RangeFuncNested
import Derived.RangeFuncBox
import Derived.RangeFuncLeaves
import Derived.Shelf.Abstract
import Derived.WalkKit
import Derived.OwnWalkIn
import Derived.TacticsInMore
import Derived.LoopNIn
import Derived.LoopIn
import Derived.Maps.AppendAt
import Derived.Test.YtbecmoihajlobaaDoorProg

section
set_option linter.unusedSimpArgs false
set_option linter.unusedVariables false
/- The iterator over units, and Split, over what Next tells. -/
namespace Go.Proofs
open Go.RowKit Go.Shelf

attribute [local go_sem] Oper.semAt_some

/-- The units from a place on. -/
def Tryd.from (U : Nat → Int) (N : Nat → Nat) (len : Nat) : Nat → Nat → List Int
  | 0, _ => []
  | k + 1, i => if i < len then U i :: Tryd.from U N len k (i + N i) else []

theorem Tryd.from_fuel {U : Nat → Int} {N : Nat → Nat} {len : Nat} (hN : ∀ i, i < len → 1 ≤ N i) : ∀ k k' i, len - i ≤ k → len - i ≤ k' → Tryd.from U N len k i = Tryd.from U N len k' i
  | 0, 0, _, _, _ => rfl
  | 0, k' + 1, i, h, _ => by rw [Tryd.from, Tryd.from, if_neg (by omega)]
  | k + 1, 0, i, _, h => by rw [Tryd.from, Tryd.from, if_neg (by omega)]
  | k + 1, k' + 1, i, h, h' => by
    rw [Tryd.from, Tryd.from]
    split
    · rename_i hi
      have := hN i hi
      rw [Tryd.from_fuel hN k k' (i + N i) (by omega) (by omega)]
    · rfl

theorem Tryd.from_step {U : Nat → Int} {N : Nat → Nat} {len i : Nat} (hN : ∀ i, i < len → 1 ≤ N i) (hi : i < len) : Tryd.from U N len len i = U i :: Tryd.from U N len len (i + N i) := by
  obtain ⟨k, rfl⟩ : ∃ k, len = k + 1 := ⟨len - 1, by omega⟩
  rw [Tryd.from, if_pos hi]
  have := hN i hi
  rw [Tryd.from_fuel hN k (k + 1) (i + N i) (by omega) (by omega)]

theorem Tryd.from_end {U : Nat → Int} {N : Nat → Nat} {len i k : Nat} (hi : ¬ i < len) : Tryd.from U N len k i = [] := by
  cases k with
  | zero => rfl
  | succ k => rw [Tryd.from, if_neg hi]

theorem Tryd.from_len {U : Nat → Int} {N : Nat → Nat} {len : Nat} : ∀ k i, (Tryd.from U N len k i).length ≤ k
  | 0, _ => Nat.le_refl _
  | k + 1, i => by
    rw [Tryd.from]
    split
    · simpa using Tryd.from_len k (i + N i)
    · simp

/-- What a round keeps: what lay below, and the bytes' box. -/
def Tryd.Kp (n₀ Bn : Nat) (v : Value) (W W' : World) : Prop := Below n₀ W W' ∧ (Boxed W Bn 22 v → Boxed W' Bn 22 v)

/-- A loop's measure. -/
def Tryd.toGo (len : Nat) : Value → Nat
  | .int _ i => len - i.toNat
  | _ => 0

set_option maxRecDepth 100000 in
set_option maxHeartbeats 1000000 in
/-- The iterator's text: unit by unit. -/
theorem Tryd.all1_in (F : Fence) (n : Nat) (h27 : F.fn 27) (h10 : F.fn 10) (hro : F.round = none) (hn : 2 ≤ n) (l Bn n₀ : Nat) (a : Option Addr) (len cap : Nat) (U : Nat → Int) (N : Nat → Nat)
    (hN : ∀ i, i < len → 1 ≤ N i ∧ N i ≤ 4) (hlen : len ≤ 1099511627776) (w0 : World)
    (hX : ∀ (m : Nat) (W : World) (i : Nat), Below n₀ w0 W → i < len → CallsIn F m Tryd.prog 10 #[.slice a len cap, .int .i64 i] W fun e W' => e = .returned (.tuple #[.int .i64 (U i), .int .i64 (N i)]) ∧ Below W.heap.size W W')
    (J Jx : List Int → World → Prop) (B0 : Nat) (hJ : AbidesFrom B0 J)
    (hY : ∀ pre x W, J pre W → pre.length < len → YieldAt F (n - 1) Tryd.prog l #[.int .i64 x] W fun e W' =>
      (e = .returned (.bool true) ∧ J (pre ++ [x]) W' ∧ Tryd.Kp n₀ Bn (.slice a len cap) W W') ∨ (e = .returned (.bool false) ∧ Jx (pre ++ [x]) W'))
    (W : World) (hW0 : Below n₀ w0 W) (hn0 : n₀ ≤ W.heap.size) (hc : Boxed W Bn 22 (.slice a len cap)) (h0 : J [] W) :
    CallsIn F n Tryd.prog 27 #[.func (.yield l) #[] #[], .pointer (some ⟨Bn, 0, none⟩)] W fun e W' => (∃ v, e = .returned v) ∧
      ((∃ ys, ys = Tryd.from U N len len 0 ∧ J ys W') ∨ (∃ pre, pre <+: Tryd.from U N len len 0 ∧ Jx pre W')) := by
  have hN1 : ∀ i, i < len → 1 ≤ N i := fun i hi => (hN i hi).1
  have h1 : 1 ≤ n := by omega
  refine callsIn_of_wp Tryd.func27 rfl h27 ?_ hro
  simp only [Tryd.ntmps27, List.size_toArray, List.length_cons, List.length_nil, Nat.reduceAdd, Nat.reduceSub, Array.replicate_succ, Array.replicate_zero, List.push_toArray, List.append_toArray, List.nil_append, List.cons_append]
  gi_wp2
  gi_loopw [3] (fun p wr => ∃ (pre : List Int) (i : Nat), p = .int .i64 i ∧ Tryd.from U N len len 0 = pre ++ Tryd.from U N len len i ∧ pre.length ≤ i ∧ i ≤ len + 4 ∧ Below n₀ w0 wr ∧ n₀ ≤ wr.heap.size ∧ Boxed wr Bn 22 (.slice a len cap) ∧ J pre wr)
    (fun p wr => Tryd.toGo len p)
  case atStart =>
    exact ⟨[], 0, rfl, rfl, Nat.le_refl _, by omega, hW0, hn0, hc, h0⟩
  case round =>
    obtain ⟨pre, i, rfl, hx, hpl, hi4, hb, hsz, hB, hJs⟩ := hrel
    have hbox := hB.cell
    by_cases hi : i < len
    · have hlt : (i : Int) < (len : Int) := by omega
      obtain ⟨hN1', hN4⟩ := hN i hi
      gi_wp2_with (gi_at_call 10; refine (hX _ _ _ hb hi).mono ?_; rintro e w1 ⟨rfl, hb1⟩)
      have hJ1 : J pre w1 := hJ pre wr w1 none hJs ⟨hb1.os, hb1.tape, hb1.output, hb1.size, fun k hk _ => hb1.block k hk⟩ (fun r e => by cases e)
      have hbw : Below n₀ w0 w1 := hb.trans (hb1.mono hsz)
      have hB1 : Boxed w1 Bn 22 (.slice a len cap) := (hb1.block Bn hB.lt).trans hB
      obtain ⟨fn, tmps, assign, body, hy, hR⟩ := hY pre (U i) w1 hJ1 (by omega)
      gi_wp2
      rw [hy]
      gi_wp2
      refine hR.mono ?_
      rintro e W3 (⟨rfl, hJ3, hk3⟩ | ⟨rfl, hJx3⟩)
      · have hadd : wrap64 ((i : Int) + (N i : Int)) = ((i + N i : Nat) : Int) := by unfold wrap64; omega
        gi_wp2
        have hcast : (i : Int) + (N i : Int) = ((i + N i : Nat) : Int) := by omega
        rw [hcast]
        refine ⟨⟨pre ++ [U i], i + N i, rfl, ?_, by simp; omega, by omega, hbw.trans hk3.1, by have := hk3.1.size; have := hb1.size; omega, hk3.2 hB1, hJ3⟩, ?_⟩
        · rw [hx, Tryd.from_step hN1 hi, List.append_assoc]
          rfl
        · show len - (((i + N i : Nat) : Int)).toNat < len - ((i : Int)).toNat
          omega
      · gi_wp2
        refine bodyPost_ret (results_none rfl _ _ _) rfl ?_
        refine ⟨⟨_, rfl⟩, .inr ⟨pre ++ [U i], ?_, hJx3⟩⟩
        rw [hx, Tryd.from_step hN1 hi]
        exact ⟨Tryd.from U N len len (i + N i), by simp⟩
    · have hlt : ¬ ((i : Int) < (len : Int)) := by omega
      gi_wp2
      go_end0
      refine ⟨⟨_, rfl⟩, .inl ?_⟩
      rw [Tryd.from_end hi, List.append_nil]
      exact hJs

set_option maxHeartbeats 1000000 in
/-- The iterator's maker: the bytes are boxed. -/
theorem Tryd.all_in (F : Fence) (n : Nat) (h23 : F.fn 23) (hro : F.round = none) (a : Option Addr) (len cap : Nat) (w : World) :
    CallsIn F n Tryd.prog 23 #[.slice a len cap] w fun e w' => e = .returned (.func (.func 27) #[] #[.pointer (some ⟨w.heap.size, 0, none⟩)]) ∧ w' = w.alloc (.cells #[.slice a len cap] 22) := by
  refine callsIn_of_wp Tryd.func23 rfl h23 ?_ hro
  simp only [Tryd.ntmps23, List.size_toArray, List.length_cons, List.length_nil, Nat.reduceAdd, Nat.reduceSub, Array.replicate_succ, Array.replicate_zero, List.push_toArray, List.append_toArray, List.nil_append, List.cons_append]
  gi_wp2
  go_ret
  exact ⟨rfl, rfl⟩

/-- All units come, one behind the other. -/
theorem Tryd.all_stops (F : Fence) (n : Nat) (h27 : F.fn 27) (h10 : F.fn 10) (hro : F.round = none) (hn : 2 ≤ n) (Bn n₀ : Nat) (a : Option Addr) (len cap : Nat) (U : Nat → Int) (N : Nat → Nat)
    (hN : ∀ i, i < len → 1 ≤ N i ∧ N i ≤ 4) (hlen : len ≤ 1099511627776) (w : World)
    (hX : ∀ (m : Nat) (W : World) (i : Nat), Below n₀ w W → i < len → CallsIn F m Tryd.prog 10 #[.slice a len cap, .int .i64 i] W fun e W' => e = .returned (.tuple #[.int .i64 (U i), .int .i64 (N i)]) ∧ Below W.heap.size W W')
    (hn₀ : n₀ ≤ w.heap.size) (hc : Boxed w Bn 22 (.slice a len cap)) :
    SeqStopsK F n Tryd.prog 27 #[.pointer (some ⟨Bn, 0, none⟩)] (fun x : Int => #[Value.int .i64 x]) (Tryd.Kp n₀ Bn (.slice a len cap)) (fun ys => ys = Tryd.from U N len len 0) (fun pre => pre <+: Tryd.from U N len len 0) len w := fun l J Jx W hW hJ _ hY h0 =>
  Tryd.all1_in F n h27 h10 hro hn l Bn n₀ a len cap U N hN hlen w hX J Jx W.heap.size hJ hY W (hW.mono hn₀) (Nat.le_trans hn₀ hW.size) ((hW.block Bn hc.lt).trans hc) h0

theorem Tryd.info3 : (Tryd.prog.info? 3).map (fun i => (i.zero, i.size, i.bytes)) = some (some (.int .i64 0), 1, 8) := by kernel_rfl

set_option maxRecDepth 100000 in
set_option maxHeartbeats 2000000 in
/-- Split, over what Next tells: the units, in a block of their own. -/
theorem Tryd.Split_in (F : Fence) (n : Nat) (h13 : F.fn 13) (h23 : F.fn 23) (h27 : F.fn 27) (h10 : F.fn 10) (hro : F.round = none) (hn : 4 ≤ n) (a : Option Addr) (len cap : Nat) (U : Nat → Int) (N : Nat → Nat)
    (hN : ∀ i, i < len → 1 ≤ N i ∧ N i ≤ 4) (hlen : len ≤ 1099511627776) (w : World)
    (hX : ∀ (m : Nat) (W : World) (i : Nat), Below w.heap.size w W → i < len → CallsIn F m Tryd.prog 10 #[.slice a len cap, .int .i64 i] W fun e W' => e = .returned (.tuple #[.int .i64 (U i), .int .i64 (N i)]) ∧ Below W.heap.size W W') :
    CallsIn F n Tryd.prog 13 #[.slice a len cap] w fun e W' => ∃ v, e = .returned v ∧ W'.ownsRow w.heap.size 3 1 v (Tryd.from U N len len 0).length ((Tryd.from U N len len 0).map (Value.int .i64)) ∧
      (v = .slice none 0 0 ↔ Tryd.from U N len len 0 = []) ∧ Below w.heap.size w W' := by
  have h1 : 1 ≤ n := by omega
  obtain ⟨i0, hi, hz0, hz1, hz2⟩ := info_parts Tryd.info3
  refine callsIn_of_wp_marks Tryd.func13 rfl h13 ?_ hro
  simp only [Tryd.ntmps13, List.size_toArray, List.length_cons, List.length_nil, Nat.reduceAdd, Nat.reduceSub, Array.replicate_succ, Array.replicate_zero, List.push_toArray, List.append_toArray, List.nil_append, List.cons_append]
  gi_wp2_with (gi_at_call 23; refine (Tryd.all_in F (n - 1) h23 hro _ _ _ _).mono ?_; rintro e w' ⟨rfl, rfl⟩)
  have bO := Boxed.new w 27 (.slice none 0 0)
  have bN := Boxed.new (w.alloc (.cells #[.slice none 0 0] 27)) 22 (.slice a len cap)
  rw [World.size_alloc] at bN
  have hB0 : Below w.heap.size w ((w.alloc (.cells #[.slice none 0 0] 27)).alloc (.cells #[.slice a len cap] 22)) := ((Below.refl _ w).alloc (Nat.le_refl _) _).alloc (by simp) _
  have hKb : ∀ (W : World) (l : Nat) (o o' : Obj), ((w.alloc (.cells #[.slice none 0 0] 27)).alloc (.cells #[.slice a len cap] 22)).heap.size ≤ l → W.heap[l]? = some o → o.isCells = false → o.isWalk = false →
      Tryd.Kp w.heap.size (w.heap.size + 1) (.slice a len cap) W (W.putObj l o') := by
    intro W l o o' hl ho hcells hwalk
    refine ⟨belowK_b (w := w) (Nat.le_refl _) W l o o' (by simp at hl; omega) ho hcells hwalk, fun hbx => ?_⟩
    exact hbx.kept (grownBy_putObj' W l o') (fun e => by simp at e hl; omega)
  have hKt : ∀ {A B C : World}, Tryd.Kp w.heap.size (w.heap.size + 1) (.slice a len cap) A B → Tryd.Kp w.heap.size (w.heap.size + 1) (.slice a len cap) B C → Tryd.Kp w.heap.size (w.heap.size + 1) (.slice a len cap) A C :=
    fun h k => ⟨h.1.trans k.1, fun hb => k.2 (h.2 hb)⟩
  refine wpIn_rangeFunc_ownG hro h1 (gf := 27) (lb := #[.pointer (some ⟨w.heap.size + 1, 0, none⟩)]) rfl h27 (enters_of Tryd.func27 (by kernel_rfl) rfl)
    (Tryd.all_stops F (n - 1) h27 h10 hro (by omega) (w.heap.size + 1) w.heap.size a len cap U N hN hlen _ (fun m W i hb hi => hX m W i (hB0.trans hb) hi) (by simp; omega) bN) hKt hKb (Below.refl _ _) (fun _ => rfl)
    (fun pre W => (∃ v, Boxed W w.heap.size 27 v ∧ W.ownsRow w.heap.size 3 1 v pre.length (pre.map (Value.int .i64)) ∧ (v = .slice none 0 0 ↔ pre = [])) ∧ (Boxed W (w.heap.size + 1) 22 (.slice a len cap) ∧ Below w.heap.size w W))
    (fun _ _ _ => False)
    (OwnFrom.and (Own.from (holdsRow_own w.heap.size w.heap.size 27 3 1 (fun pre => pre.length) (fun pre => pre.map (Value.int .i64)) (fun pre v => v = .slice none 0 0 ↔ pre = [])) _)
      (OwnFrom.and (Own.from (boxed_own (w.heap.size + 1) 22 (fun _ => .slice a len cap)) _) (ownFrom_below (Nat.le_refl _) (by simp; omega))))
    (fun _ _ _ _ _ hs _ _ => hs)
    ⟨⟨_, bO.alloc _, World.ownsRow_nil _ _ _ _, by simp⟩, bN, hB0⟩
    (fun x => { tmps := #[.slice a len cap, undef, .slice none 0 0, .pointer (some ⟨w.heap.size, 0, none⟩), .int .i64 x, .slice a len cap, .func (.func 27) #[] #[.pointer (some ⟨w.heap.size + 1, 0, none⟩)], .int .i64 x, undef, undef, undef, undef, undef], defers := [] }) ?assign ?body ?done ?stop
  case assign =>
    intro l x W K hK
    gi_wp2
    exact hK
  case body =>
    rintro l pre x W ⟨⟨v, hv, hrow, hnil⟩, hbN, hB⟩ hlt
    have hc := hv.cell
    gi_wp2_with (gi_at_builtin; refine wpListIn_append_own _ rfl _ _ 27 rfl w.heap.size 3 i0 (.int .i64 0) 1 8 Tryd.underlying27 hi hz0 hz1 hz2 rfl (by decide) _ _ _ rfl (hrow.alloc _) ⟨W.heap.size, 0, none⟩ 1 1 [.int .i64 x] rfl rfl (cell_one_new _ _ _) (by simp [Value.oneCell']) (by unfold maxLen; omega) (by omega) (by have := hB.size; simp; omega) ?_; intro v' w1 hown' hgrow _; obtain ⟨g', cap', rfl⟩ := ownsRow_succ hown'; obtain ⟨hv1, hv2, hr2, hk2, hb2⟩ := hv.appended (by decide) hrow hB.size (Nat.le_refl _) hown' hgrow; have hN1 := (hbN.alloc _).kept hgrow (hbN.not_row (by decide) hrow); have hN2 := hN1.kept (grownBy_setCell' w1 w.heap.size (.slice (some ⟨g', 0, none⟩) (pre.length + 1) cap')) (by simp); have hc1 := hv1.cell; have hf1 := hv1.frozen)
    exact ⟨hk2.from _, ⟨hb2, fun _ => hN2⟩, ⟨_, hv2, by simpa using hr2, by simp⟩, hN2, hB.trans hb2⟩
  case done =>
    rintro D ys W hD rfl ⟨⟨v, hv, hrow, hnil⟩, _, hB⟩ hK
    have hc := hv.cell
    gi_wp2
    refine ⟨by simp, .inl ⟨_, _, rfl, run_takeDeferred hK, ?_⟩⟩
    exact ⟨_, results_tmp rfl _ _ _, v, rfl, ownsRow_putObj hrow _ hK rfl, hnil, hB.trans (belowK_b (w := w) (Nat.le_refl _) W D _ _ (by simp at hD; omega) hK rfl rfl)⟩
  case stop =>
    rintro D c pre W _ _ h _
    exact h.elim
end Go.Proofs
end
