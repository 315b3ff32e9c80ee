/- slices.Sorted over maps.Keys does what is said of it. No condition. -/
import Derived.Test.YtbmmhbpalkepeaaEvD
import Derived.Test.YtbmmhbpalkepeaaShelf

set_option linter.unusedSimpArgs false
set_option linter.unusedVariables false
set_option linter.defProp false
section
namespace Go.Proofs.Ytbmmhbpalkepeaa
open Go Go.Abs
def keysOf (es : List (Int × PV)) : List Int := (es.map (·.1)).mergeSort (fun a b => decide (a ≤ b))
def Z5C : List AV → List Row → Option Res
 | [.clo f [] [.ptr i 0]], B => if f = 49 then match B[i]? with
  | some [.mp j] => match (B[j]?).bind mdOf with
   | some es => if es.length ≤ 1048576 ∧ ∀ q ∈ es, -9223372036854775808 ≤ q.1 ∧ q.1 ≤ 9223372036854775807 then some (.p (.lst .sh ((keysOf es).map fun n => .v (.int .i64 n))), B) else none
   | none => none
  | _ => none else none
 | _, _ => none
def ZdZ : List AV → List Row → Option Res := fun _ _ => none
end Go.Proofs.Ytbmmhbpalkepeaa
end
section
namespace Go.Proofs.Ytbmmhbpalkepeaa
open Go Go.Abs Go.RowKit Go.Maps Go.Sort Go.Shelf
theorem Zme (m : Nat) : AnyZI.SortsIn Try.prog Try.sortedA_ren Fence.wide m :=
 ⟨fun blk off cap ss W hH hblk hsz => callsIn_wide.2 (AnyM.slices_Sort_int Try.sortA blk off cap ss W hH hblk hsz),
  fun p cap W => callsIn_wide.2 (AnyM.slices_Sort_int_none Try.sortA p cap W)⟩
theorem Zkn : Plain Try.prog 30 := ⟨_, Try.func30, by kernel_rfl, by kernel_rfl⟩
abbrev RR : Value → Option (DataW Unit × List MemPlace) := fun _ => some (.nil, [])
theorem ZgU {n : Int} (h1 : -9223372036854775808 ≤ n) (h2 : n ≤ 9223372036854775807) : keyOf Try.prog 3 (.int .i64 n) = some (.int .i64 n) := by
 have e : keyOf Try.prog 3 (.int .i64 n) = mapKey Try.prog 3 (.int .i64 n) := by unfold keyOf; rw [Try.underlying3]
 rw [e]
 unfold mapKey
 rw [Try.underlying3]
 have e1 : IntKind.min .i64 = -9223372036854775808 := by decide
 have e2 : IntKind.max .i64 = 9223372036854775807 := by decide
 have hw : (Lit.int .i64 n).wf = true := by simp only [Lit.wf, e1, e2, q5_, decide_eq_true_eq]; omega
 simp [hw]
theorem ZcA {e : MapEntry} {n : Int} (hk : e.key = .int .i64 n) (h1 : -9223372036854775808 ≤ n) (h2 : n ≤ 9223372036854775807) : WideElems.rd Try.prog 3 RR e = some (.int .i64 n, .nil) := by
 unfold WideElems.rd
 rw [hk, ZgU h1 h2]
 rfl
theorem Z4o {α : Type} {a : Array α} {i : Nat} {x : α} (h : a.toList[i]? = some x) : a[i]? = some x := by simpa using h
theorem ZgW {w : World} {S : Stay} {b : Nat} {es : List (Int × PV)} (h : Z2E w S b es) (hl : es.length ≤ 1048576) (hr : ∀ q ∈ es, -9223372036854775808 ≤ q.1 ∧ q.1 ≤ 9223372036854775807) :
  ∃ D : DataW Unit, w.ownsMap Try.prog 3 RR b es.length D ∧ (intKeys D).Perm (es.map (·.1)) ∧ Maps.size D = es.length := by
 obtain ⟨ents, clock, hb, hsz, he, h4, h5, h6⟩ := h
 have hent : ∀ (i : Nat) (x : MapEntry), ents.toList[i]? = some x → ∃ q, es[i]? = some q ∧ x.key = .int .i64 q.1 ∧ -9223372036854775808 ≤ q.1 ∧ q.1 ≤ 9223372036854775807 := by
  intro i x hx
  have hi : i < es.length := by have := (q1_.1 hx).1; simp at this; omega
  have hq : es[i]? = some es[i] := q2_ hi
  obtain ⟨k, _⟩ := he i x es[i] (Z4o hx) hq
  exact ⟨es[i], hq, k, hr _ (Zcz hi)⟩
 have hkeys : ents.toList.map (fun x => WideElems.rg Try.prog 3 RR x) = es.map fun q => (Lit.int .i64 q.1, DataW.nil) := by
  apply Z7b
  intro i
  rw [q6_, q6_]
  cases hx : ents.toList[i]? with
  | none =>
   have : es.length ≤ i := by
    have := List.getElem?_eq_none_iff.1 hx
    simp at this
    omega
   rw [Z3L this]
   rfl
  | some x =>
   obtain ⟨q, hq, hk, r1, r2⟩ := hent i x hx
   rw [hq]
   simp only [Z2x, WideElems.rg, ZcA hk r1 r2, Zcv]
 have hfit : WideElems.Fit Try.prog 3 RR ents clock := by
  refine ⟨by rw [hsz]; exact Z8b hl (by decide), ⟨?_, ?_, ?_⟩, ?_⟩
  ·intro x hx
   obtain ⟨i, hi⟩ := Zcu hx
   exact h4 i x (Z4o hi)
  ·rw [Zfq, Zcy, Zaa]
   intro i j hi hj hij e
   have hi' : ents[i]? = some ents.toList[i] := Z4o (q2_ hi)
   have hj' : ents[j]? = some ents.toList[j] := Z4o (q2_ hj)
   have := h5 i j _ _ hi' hj' e
   omega
  ·rw [Zfq, Zcy, Zaa]
   intro i j hi hj hij e
   obtain ⟨q, hq, hk, _⟩ := hent i _ (q2_ hi)
   obtain ⟨q', hq', hk', _⟩ := hent j _ (q2_ hj)
   rw [hk, hk'] at e
   have e : q.1 = q'.1 := by simpa using e
   have hn := Zaa.1 (Zfq.1 h6) i j (by simp; exact (q1_.1 hq).1) (by simp; exact (q1_.1 hq').1) hij
   apply hn
   simp only [List.getElem_map]
   rw [(q1_.1 hq).2, (q1_.1 hq').2, e]
  ·intro x hx
   obtain ⟨i, hi⟩ := Zcu hx
   obtain ⟨q, hq, hk, r1, r2⟩ := hent i x hi
   exact ⟨_, ZcA hk r1 r2⟩
 refine ⟨.map ((ents.toList.map (WideElems.rg Try.prog 3 RR)).foldr DataW.insert []), ⟨ents, clock, hb, hfit, by omega, rfl⟩, ?_, ?_⟩
 ·unfold intKeys
  refine ((WideShapes.sorted_perm _).map _).trans ?_
  rw [hkeys, Zco]
  exact List.Perm.of_eq rfl
 ·show ((ents.toList.map (WideElems.rg Try.prog 3 RR)).foldr DataW.insert []).length = _
  rw [(WideShapes.sorted_perm _).length_eq]
  simp [hsz]
theorem Zhg {w w' : World} {S : Stay} {v : Value} {l : List Int} (hrow : w'.ownsRow w.heap.size 3 1 v l.length (l.map encZ)) :
  PRel w' (fun b o => S b o ∨ (w.heap.size ≤ b ∧ b < w'.heap.size)) (.lst .sh (l.map fun n => .v (.int .i64 n))) v := by
 obtain ⟨_, ⟨rfl, hz⟩ | ⟨g, cap, cur, rfl, hg, hh, h1, h2, h3, h4⟩⟩ := hrow
 ·obtain rfl : l = [] := Za9 hz
  exact .lst .sh [] none 0 0 0 0 (fun _ _ => undef) (Z1y _) (by simp) (by simp) (by simp) (fun _ => rfl) (by simp) (by simp) (by simp)
 ·have hlt : g < w'.heap.size := (Z2z.1 hh).1
  have hcell : ∀ (i : Nat) (n : Int), l[i]? = some n → w'.cell? ⟨g, 0 + (i * 1 + 0), none⟩ = some (.int .i64 n) := by
   intro i n hn
   have hi : i < l.length := (q1_.1 hn).1
   have e : cur.toList[i]? = some (.int .i64 n) := by
    have : (cur.toList.take (l.length * 1))[i]? = some (.int .i64 n) := by rw [h4, q6_, hn]; rfl
    rw [Z3B] at this
    split at this
    ·exact this
    ·simp at this
   unfold World.cell?
   rw [hh]
   simpa using e
  have key := PRel.lst (w := w') (S := fun b o => S b o ∨ (w.heap.size ≤ b ∧ b < w'.heap.size)) .sh (l.map fun n => PV.v (.int .i64 n)) (some ⟨g, 0, none⟩) cap g 0 1 (fun i _ => .int .i64 (l.getD i 0)) (by simpa using h1) (by simp) (by simp) (by simp) (by simp)
   (fun _ => ⟨rfl, by omega, fun e he => by obtain ⟨z, _, rfl⟩ := Z1B.1 he; rfl⟩)
   (fun i e j c he hj => by
    rw [q6_] at he
    obtain ⟨z, hz', rfl⟩ := q4_.1 he
    cases j with
    | succ j => simp [Z16] at hj
    | zero =>
     simp only [Z16, Z2m, ZO] at hj
     subst hj
     refine ⟨?_, .inr ⟨hg, hlt⟩, rfl⟩
     have : l.getD i 0 = z := by rw [q9_, hz']; rfl
     rw [this]
     exact hcell i z hz')
   (fun i e j c he hj => by
    rw [q6_] at he
    obtain ⟨z, hz', rfl⟩ := q4_.1 he
    cases j with
    | succ j => simp [Z16] at hj
    | zero =>
     simp only [Z16, Z2m, ZO] at hj
     subst hj
     have : l.getD i 0 = z := by rw [q9_, hz']; rfl
     rw [this]
     exact .v _ rfl)
  simpa using key
theorem Zds {args : List AV} {B : List Row} {r : Res} (h : Z5C args B = some r) (w : World) (S : Stay) (β : Nat → Nat) (vals : Array Value) (he : Entry w S β args B vals) :
  Plain Try.prog 30 ∧ Calls Try.prog 30 vals w (Z2D w S β args B vals r) := by
 refine ⟨Zkn, ?_⟩
 unfold Z5C at h
 split at h
 case h_2 => simp at h
 rename_i f i
 split at h
 case isFalse => simp at h
 rename_i hf
 subst hf
 split at h
 case h_2 => simp at h
 rename_i j hBi
 split at h
 case h_2 => simp at h
 rename_i es hBj
 split at h
 case isFalse => simp at h
 rename_i hc
 simp only [ZO] at h
 subst h
 obtain ⟨row, hrow, hmd⟩ := Zcn.1 hBj
 obtain ⟨v, rfl⟩ : ∃ v, vals = #[v] := by
  have := he.size
  have h1 : vals.size = 1 := by simpa using this
  exact Array.size_eq_one_iff.1 h1
 have hr := he.rel 0 _ v rfl rfl
 obtain ⟨a2, rfl, ha2⟩ : ∃ a2 : Array Value, v = .func (.func 49) #[] a2 ∧ a2 = #[.pointer (some ⟨β i, 0, none⟩)] := by
  cases hr with
  | clo _ _ _ a1 a2 h1 h2 h3 h4 h5 =>
   have e1 : a1 = #[] := Array.eq_empty_of_size_eq_zero (by simpa using h1)
   obtain ⟨u, rfl⟩ := Array.size_eq_one_iff.1 (show a2.size = 1 by simpa using h2)
   have hu := h4 0 _ u rfl rfl
   subst e1
   cases hu with
   | ptr _ _ _ => exact ⟨_, rfl, rfl⟩
 subst ha2
 have hi : i < B.length := (q1_.1 hBi).1
 obtain ⟨u, hu, hur, _⟩ := he.mem.cell i _ 0 _ hBi rfl rfl
 have hu' : u = .map (some (β j)) := by cases hur with | mp _ _ => rfl
 subst hu'
 have hlt : β i < w.heap.size := he.mem.lt hi
 obtain ⟨D, hown, hperm, hsize⟩ := ZgW (he.mem.maps j row es hrow hmd) hc.1 hc.2
 have hseq : SeqGives Fence.wide 2 Try.prog 49 #[.pointer (some ⟨β i, 0, none⟩)] encZ (fun ss => ss.Perm (intKeys D)) (Maps.size D) w :=
  AnyZI.keys_gives (ρ := Try.keysA_ren) { Try.keysA with } Fence.wide _ trivial rfl (by omega) (β i) (β j) es.length D w hlt hu hown
 have hs2 : Maps.size D ≤ 1048576 := by rw [hsize]; exact hc.1
 have cS := AnyZI.sorted_in Try.sortedA Fence.wide 5 trivial trivial trivial trivial rfl (by omega) (Zme _) (enters_of Try.func48 (by kernel_rfl) rfl) 49 #[.pointer (some ⟨β i, 0, none⟩)] trivial (enters_of Try.func49 (by kernel_rfl) rfl) _ _ (Z8b hs2 (by decide)) (by omega) _ hseq
 change CallsIn _ _ Try.prog 30 _ _ _ at cS
 refine ((callsIn_wide (n := 5)).1 cS).mono ?_
 rintro e w' ⟨v, ss, rfl, hS, hrow', _, hb⟩
 have hss : ss.mergeSort (fun x y => decide (x ≤ y)) = keysOf es := by
  unfold keysOf
  refine List.Perm.eq_of_pairwise (le := fun a b => a ≤ b) (fun a b _ _ h1 h2 => by omega) ?_ ?_ ?_
  ·exact (List.pairwise_mergeSort (le := fun a b : Int => decide (a ≤ b)) (fun a b c h1 h2 => by simp at *; omega) (fun a b => by simp; omega) ss).imp fun h => by simpa using h
  ·exact (List.pairwise_mergeSort (le := fun a b : Int => decide (a ≤ b)) (fun a b c h1 h2 => by simp at *; omega) (fun a b => by simp; omega) (es.map (·.1))).imp fun h => by simpa using h
  ·exact (List.mergeSort_perm _ _).trans ((hS.trans hperm).trans (List.mergeSort_perm _ _).symm)
 have hlen : ss.length = (keysOf es).length := by rw [← hss]; simp
 rw [hss, hlen] at hrow'
 exact Z9C (S' := fun b o => S b o ∨ (w.heap.size ≤ b ∧ b < w'.heap.size)) he hb (fun _ _ h => h) (fun _ _ h => .inl h) (.p _ _ (Zhg hrow')) rfl
end Go.Proofs.Ytbmmhbpalkepeaa
end
