/- From the rows' data to the evaluator's; the witness. Condition: the tables lie as they are laid. -/
import Derived.Test.YtadodmjdkphddaaDoorExt
import Derived.Test.YtadodmjdkphddaaDoorEqs
import Derived.Test.YtadodmjdkphddaaDoorRows
import Derived.WalkKit
import Derived.ProofKit
import Derived.OpenShut
import Derived.ChangeOld
import Derived.ChangeMaps5
import Derived.Below
import Derived.LaidMore
import Derived.Lib.LaidU8T
import Derived.Lib.LaidIn
import Derived.Stop.Joined
import Derived.Test.YtadodmjdkphddaaDoorSim

section
set_option linter.unusedSimpArgs false
set_option linter.unusedVariables false
namespace Go.Proofs.YtadodmjdkphddaaDoor
open Go Go.Abs Go.RowKit Go.ChangeShapes Go.WideShapes Go.ChangeAt
namespace N2
theorem xspec : XSpec Tryd.prog (Tabs 0 1) XX := by
 intro f m hm args B r h w S β vals hI he
 unfold XX at hm
 split at hm
 ·rename_i hf
  subst hf
  simp only [Option.some.injEq] at hm
  subst hm
  exact decode_spec h w S β vals hI he
 split at hm
 ·rename_i hf
  subst hf
  simp only [Option.some.injEq] at hm
  subst hm
  exact normal_spec h w S β vals he
 split at hm
 ·rename_i hf
  subst hf
  simp only [Option.some.injEq] at hm
  subst hm
  exact concat_spec h w S β vals he
 ·simp at hm
theorem progOk : Go.Abs.progOk PP XX HH = true := by kernel_rfl
theorem fspec : FSpec PP (Tabs 0 1) EE := E_sound (Tabs.pers 0 1) mixed xspec progOk
end N2
theorem own : ownKnob Tryd.prog.godebug = none := by kernel_rfl
theorem laidOut : laidOutB Tryd.prog = true := by kernel_rfl
def ren8 : Go.Shelf.Ren := ⟨fun n => n, fun | 119 => 98 | 138 => 101 | 139 => 102 | n => n, fun | 3 => 0 | 4 => 1 | n => n⟩
theorem u8types : U8Types Tryd.prog ren8 := ⟨Tryd.underlying5, Tryd.underlying98, Tryd.underlying101, Tryd.underlying102⟩
def laidL : List (String × DataW Unit) := [("unicode/utf8.acceptRanges", Rows.laid_unicode_utf8_acceptRanges), ("unicode/utf8.first", Rows.laid_unicode_utf8_first)]
theorem acc_data : (Rows.laid_unicode_utf8_acceptRanges : DataW Unit) = Lib.acceptData := by kernel_rfl
theorem first_data : Rows.laid_unicode_utf8_first = Lib.firstData := by kernel_rfl
theorem tabs_of {W : World} (h : laidMetH Tryd.prog laidL W) : Lib.Utf8Tabs 0 1 W := by
 rw [MakeChecks.laidMetH_plain _ _ _ (by kernel_rfl)] at h
 have e : laidL = [("unicode/utf8.acceptRanges", Lib.acceptData), ("unicode/utf8.first", Lib.firstData)] := by unfold laidL; rw [acc_data, first_data]
 rw [e] at h
 exact utf8Tabs_of_readsT u8types ⟨by kernel_rfl, by kernel_rfl, by kernel_rfl, by kernel_rfl, by kernel_rfl, by kernel_rfl, by kernel_rfl⟩ (Lib.laidMet.reads h (.tail _ (.head _))) (Lib.laidMet.reads h (.head _))
noncomputable def laidWorld (os : Os) : World :=
 let w0 := World.holding Tryd.prog os ⟨#[], #[], []⟩
 let put (h : Array Obj) (g : Nat) (cs : Array Value) : Array Obj := h.modify g fun
  | .cells _ t frozen => .cells cs t frozen
  | o => o
 let h1 := put w0.heap 0 (Lib.firstTab.map fun z => Value.int .u8 z).toArray
 let h2 := put h1 1 ((List.range 16).flatMap fun i => [Value.int .u8 (Lib.accLo i), Value.int .u8 (Lib.accHi i)]).toArray
 { w0 with heap := h2 }
theorem laid_met (os : Os) (args : Array Value) : laidMetH Tryd.prog laidL ((laidWorld os).forCall (fun _ _ => 0) ⟨#[], args, []⟩).memory := by
 rw [MakeChecks.laidMetH_plain _ _ _ (by kernel_rfl)]
 have e : laidL = [("unicode/utf8.acceptRanges", Lib.acceptData), ("unicode/utf8.first", Lib.firstData)] := by unfold laidL; rw [acc_data, first_data]
 rw [e]
 exact (LaidIn.of_run (l := [("unicode/utf8.acceptRanges", Lib.acceptData), ("unicode/utf8.first", Lib.firstData)]) [0, 1] 8 (by kernel_rfl) (by kernel_rfl) (by kernel_rfl) (by kernel_rfl)).met
end Go.Proofs.YtadodmjdkphddaaDoor
end
section
set_option linter.unusedSimpArgs false
set_option linter.unusedVariables false
namespace Go.Proofs.YtadodmjdkphddaaDoor
open Go Go.Abs Go.RowKit Go.ChangeShapes Go.WideShapes Go.ChangeAt
set_option maxRecDepth 100000
theorem spot_none {W : World} {a : Addr} {v : Value} (h : W.cell? (a.add 0) = some v) : a.spot = none := by
 unfold World.cell? at h
 split at h
 ·cases ha : a.spot with
  | none => rfl
  | some s => unfold Addr.add at h; rw [if_pos rfl, ha] at h; simp at h
 ·simp at h
theorem ints_rel {W : World} {k : IntKind} {a : Addr} {len cap : Nat} {zs : List Int} (hl : len ≤ cap) (hz : len ≤ zs.length) (hc : ∀ i, i < zs.length → W.cell? (a.add i) = some (.int k (zs.getD i 0))) :
  PRel W (Old W) (.lst .sh ((zs.take len).map fun z => .v (.int k z))) (.slice (some a) len cap) := by
 have hlen : ((zs.take len).map fun z => PV.v (.int k z)).length = len := by simp; omega
 have hcell : ∀ (i : Nat), i < len → a.spot = none ∧ W.cell? ⟨a.block, a.off + i, none⟩ = some (.int k (zs.getD i 0)) ∧ a.block < W.heap.size := by
  intro i hi
  have h := hc i (by omega)
  have hs := spot_none (hc 0 (by omega))
  have ha : a = ⟨a.block, a.off, none⟩ := by cases a; simp at hs; simp [hs]
  rw [ha, add_none] at h
  refine ⟨hs, h, ?_⟩
  unfold World.cell? at h
  cases hh : W.heap[a.block]? with
  | none => simp only [hh] at h; simp at h
  | some x => exact (Array.getElem?_eq_some_iff.1 hh).1
 have key := PRel.lst (w := W) (S := Old W) .sh ((zs.take len).map fun z => PV.v (.int k z)) (some a) cap a.block a.off 1 (fun i _ => .int k (zs.getD i 0)) (by rw [hlen]; exact hl) (by simp) (by simp) (by simp) (by simp)
  (fun hne => by
   have h0 : 0 < len := by
    rcases Nat.eq_zero_or_pos len with e | e
    ·subst e; simp at hne
    ·exact e
   have hs := (hcell 0 h0).1
   refine ⟨by cases a; simp at hs; simp [hs], by omega, fun e he => ?_⟩
   obtain ⟨z, _, rfl⟩ := List.mem_map.1 he
   rfl)
  (fun i e j c he hj => by
   rw [List.getElem?_map] at he
   obtain ⟨z, hz', rfl⟩ := Option.map_eq_some_iff.1 he
   have hi : i < len := by have := (List.getElem?_eq_some_iff.1 hz').1; simp at this; omega
   cases j with
   | succ j => simp [pcells] at hj
   | zero =>
    simp only [pcells, List.getElem?_cons_zero, Option.some.injEq] at hj
    subst hj
    simp only [Nat.mul_one, Nat.add_zero]
    exact ⟨(hcell i hi).2.1, (hcell i hi).2.2, rfl⟩)
  (fun i e j c he hj => by
   rw [List.getElem?_map] at he
   obtain ⟨z, hz', rfl⟩ := Option.map_eq_some_iff.1 he
   have hi : i < len := by have := (List.getElem?_eq_some_iff.1 hz').1; simp at this; omega
   cases j with
   | succ j => simp [pcells] at hj
   | zero =>
    simp only [pcells, List.getElem?_cons_zero, Option.some.injEq] at hj
    subst hj
    have : zs.getD i 0 = z := by
     rw [List.getElem?_take, if_pos hi] at hz'
     rw [List.getD_eq_getElem?_getD, hz']
     rfl
    rw [this]
    exact .v _ rfl)
 rw [hlen] at key
 exact key
theorem nil_rel (W : World) (S : Stay) : PRel W S (.lst .sh []) (.slice none 0 0) := .lst .sh [] none 0 0 0 0 (fun _ _ => undef) (Nat.le_refl _) (by simp) (by simp) (by simp) (fun _ => rfl) (by simp) (by simp) (by simp)
theorem row_ints {H : Type} {enc : TypeId × Value → H} {W : World} {base : Nat} {v : Value} {d : DataW H} {ps : List MemPlace} (hv : Value.okWide Tryd.prog W .any base 46 v) (h : DataW.Trod enc Tryd.prog W 0 (fun _ => true) true 46 v d ps) :
  ∃ l : List Int, (∀ z ∈ l, (Lit.int .i64 z).wf = true) ∧ PRel W (Old W) (.lst .sh (l.map (eI .i64))) v := by
 obtain ⟨a, len, cap, rfl⟩ := okWide_slice Tryd.underlying46 hv
 obtain ⟨n, hn⟩ := h
 rcases open_ints Tryd.underlying46 Tryd.underlying3 (by kernel_rfl) hn with ⟨h1, _⟩ | ⟨a', len', cap', zs, h1, _, hl, _, hlen, _, hc, hw⟩
 ·simp only [Value.cells, List.cons.injEq, Value.slice.injEq, and_true] at h1
  obtain ⟨rfl, rfl, rfl⟩ := h1
  exact ⟨[], by simp, nil_rel W _⟩
 ·simp only [Value.cells, List.cons.injEq, Value.slice.injEq, and_true] at h1
  obtain ⟨rfl, rfl, rfl⟩ := h1
  have hz : len ≤ zs.length := by rw [hlen]; split <;> omega
  exact ⟨zs.take len, fun z hz => hw z (List.mem_of_mem_take hz), ints_rel (W := W) hl hz hc⟩
end Go.Proofs.YtadodmjdkphddaaDoor
end
