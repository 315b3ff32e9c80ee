/- What is given of the library to the evaluator does what is said of it. Condition: the tables lie as they are laid. -/
import Derived.Test.YteoeggbihfnbfaaGreatDoorEvD
import Derived.Test.YteoeggbihfnbfaaGreatDoorWalk

section
set_option linter.unusedSimpArgs false
set_option linter.unusedVariables false
namespace Go.Proofs.YteoeggbihfnbfaaGreatDoor
open Go Go.Abs Go.RowKit Go.Proofs.Norm
theorem mixed : Tryz.prog.follows .mixedOrders = true := by kernel_rfl
theorem size_mk (l : List UInt8) : (⟨l.toArray⟩ : ByteArray).size = l.length := by
 show l.toArray.size = _
 simp
theorem Zr9 {l : List UInt8} {j : Nat} {x : UInt8} (h : l[j]? = some x) : (⟨l.toArray⟩ : ByteArray).get! j = x := by
 show l.toArray[j]! = x
 have hj := (List.getElem?_eq_some_iff.1 h)
 obtain ⟨h1, h2⟩ := hj
 rw [getElem!_pos l.toArray j (by simpa using h1)]
 simpa using h2
theorem ZEe {w : World} {S : Stay} {β : Nat → Nat} {n : Nat} (a b : Value) (ha : scal a = true) (hb : scal b = true) : ARel w S β n (.p (.tup [.v a, .v b])) (.tuple #[a, b]) := by
 refine .p _ _ (.tup _ _ rfl (by simp [Z7B]) ?_)
 intro i c v hc hv
 match i, hc, hv with
 | 0, hc, hv => simp at hc hv; subst hc hv; exact .v _ ha
 | 1, hc, hv => simp at hc hv; subst hc hv; exact .v _ hb
 | i + 2, hc, hv => simp at hc
theorem Z8O {w : World} {S : Stay} {β : Nat → Nat} {x : PV} {B : List Row} {vals : Array Value} (he : Entry w S β [.p x] B vals) : ∃ v, vals = #[v] ∧ PRel w S x v := by
 obtain ⟨v, rfl⟩ : ∃ v, vals = #[v] := by
  have := he.size
  have h1 : vals.size = 1 := by simpa using this
  exact Array.size_eq_one_iff.1 h1
 have hr := he.rel 0 _ v rfl rfl
 exact ⟨v, rfl, by cases hr with | p _ _ h => exact h⟩
theorem ZGn : Plain Tryz.prog 146 := ⟨Tryz.f146, Tryz.func146, by kernel_rfl, by kernel_rfl⟩
theorem ZGo : Plain Tryz.prog 169 := ⟨Tryz.f169, Tryz.func169, by kernel_rfl, by kernel_rfl⟩
theorem ZGp : Plain Tryz.prog 174 := ⟨Tryz.f174, Tryz.func174, by kernel_rfl, by kernel_rfl⟩
theorem Zxj {args : List AV} {B : List Row} {r : Res} (h : ZpS args B = some r) (w : World) (S : Stay) (β : Nat → Nat) (vals : Array Value) (hI : Tabs 0 1 w S) (he : Entry w S β args B vals) :
  Plain Tryz.prog 146 ∧ Calls Tryz.prog 146 vals w (ZeK w S β args B vals r) := by
 refine ⟨ZGn, ?_⟩
 unfold ZpS at h
 split at h
 ·rename_i a1 b1 o xs
  split at h
  ·simp at h
  ·rename_i hne
   obtain ⟨l, hl, rfl⟩ := Option.map_eq_some_iff.1 h
   have hxs := Zqc hl
   subst hxs
   obtain ⟨v, rfl, hp⟩ := Z8O he
   obtain ⟨a, cap, rfl, hcap, hc⟩ := Zxe hp
   have hln : l ≠ [] := by rintro rfl; exact hne rfl
   obtain ⟨b, off, rfl, hcell⟩ := hc hln
   have := Any7.utf8_DecodeRune Tryz.lays32 ⟨l.toArray⟩ b off cap w hI.1 (by
    intro j hj
    rw [size_mk] at hj
    have hx : l[j]? = some l[j] := by simp [hj]
    rw [Zr9 hx]
    exact (hcell j _ hx).1)
   rw [size_mk] at this
   refine this.mono ?_
   rintro e w' ⟨rfl, hb⟩
   exact ZiS (S' := S) he hb (fun _ _ h => .inl h) (fun _ _ h => h) (ZEe _ _ rfl rfl) rfl
 ·simp at h
theorem ZxW {p : PV} {r : R2} (h : ZwO p = some r) : p = encR r := by
 unfold ZwO at h
 split at h
 ·cases h; rfl
 ·simp at h
theorem ZjT : ∀ {xs : List PV} {rs : List R2}, Zfn xs = some rs → xs = rs.map encR
 | [], rs, h => by simp [Zfn] at h; subst h; rfl
 | x :: r, rs, h => by
  simp only [Zfn] at h
  split at h
  ·rename_i a b ha hb
   cases h
   rw [ZxW ha, ZjT hb]
   rfl
  ·simp at h
theorem ZwR {w : World} {S : Stay} {o : Abs.Own} {rs : List R2} {v : Value} (hS : ∀ b o, S b o → b < w.heap.size) (h : PRel w S (.lst o (rs.map encR)) v) : Tryz.Lies w.heap.size w v rs := by
 obtain ⟨a, cap, rfl, h1, h2, h3⟩ := ZhV (n := 2) h (by
  unfold szOk
  simp [List.all_eq_true, encR, Z2q])
 refine ⟨a, cap, by simp, ?_⟩
 by_cases hn : rs = []
 ·exact .inl hn
 obtain ⟨b, off, rfl, h4⟩ := h3 (by simpa using hn)
 have key : ∀ i x, rs[i]? = some x → (w.cell? ⟨b, off + i * 2, none⟩ = some (.int .i64 x.1) ∧ w.cell? ⟨b, off + i * 2 + 1, none⟩ = some (.int .i64 x.2)) ∧ S b (off + (i * 2 + 0)) := by
  intro i x hx
  have hi : (rs.map encR)[i]? = some (encR x) := by rw [List.getElem?_map, hx]; rfl
  obtain ⟨u, q1, q2, _, q4⟩ := h4 i _ 0 (.v (.int .i64 x.1)) hi rfl
  obtain ⟨u', p1, p2, _, p4⟩ := h4 i _ 1 (.v (.int .i64 x.2)) hi rfl
  have e1 : u = .int .i64 x.1 := by cases q4 with | v _ _ => rfl
  have e2 : u' = .int .i64 x.2 := by cases p4 with | v _ _ => rfl
  subst e1 e2
  exact ⟨⟨q1, by rwa [show off + (i * 2 + 1) = off + i * 2 + 1 by omega] at p1⟩, q2⟩
 refine .inr ⟨b, off, rfl, ?_, fun i x hx => (key i x hx).1⟩
 cases rs with
 | nil => exact absurd rfl hn
 | cons x r => exact hS _ _ (key 0 x rfl).2
theorem ZuC : ∀ (l : List R2) (i : Nat) (x : R2), l[i]? = some x → (Tryz.flat l)[i * 2]? = some (.int .i64 x.1) ∧ (Tryz.flat l)[i * 2 + 1]? = some (.int .i64 x.2) := by
 intro l
 induction l with
 | nil => intro i x h; simp at h
 | cons y r ih =>
  intro i x h
  cases i with
  | zero => simp at h; subst h; exact ⟨rfl, rfl⟩
  | succ i =>
   have := ih i x (by simpa using h)
   rw [show (i + 1) * 2 = i * 2 + 2 by omega]
   exact this
theorem ZyA {w w' : World} {S : Stay} {v : Value} {l : List R2} (h : w'.ownsRow w.heap.size 201 2 v l.length (Tryz.flat l)) :
  PRel w' (fun b o => S b o ∨ (w.heap.size ≤ b ∧ b < w'.heap.size)) (.lst .sh (l.map encR)) v := by
 rcases h.2 with ⟨rfl, hz⟩ | ⟨g, cap, cur, rfl, hg, hh, h1, h2, h3, h4⟩
 ·obtain rfl : l = [] := List.eq_nil_of_length_eq_zero hz
  exact .lst .sh [] none 0 0 0 0 (fun _ _ => undef) (Nat.le_refl _) (by simp) (by simp) (by simp) (fun _ => rfl) (by simp) (by simp) (by simp)
 ·have hlt : g < w'.heap.size := (Array.getElem?_eq_some_iff.1 hh).1
  have hcell : ∀ t u, (Tryz.flat l)[t]? = some u → w'.cell? ⟨g, 0 + t, none⟩ = some u := by
   intro t u ht
   have := h.cells (g := g) rfl t u ht
   rwa [ZaA] at this
  have key := PRel.lst (w := w') (S := fun b o => S b o ∨ (w.heap.size ≤ b ∧ b < w'.heap.size)) .sh (l.map encR) (some ⟨g, 0, none⟩) cap g 0 2 (fun i j => ((Tryz.flat l)[i * 2 + j]?).getD undef) (by simpa using h1) (by simp) (by simp) (by simp) (by simp)
   (fun _ => ⟨rfl, by omega, fun e he => by obtain ⟨z, _, rfl⟩ := List.mem_map.1 he; rfl⟩)
   (fun i e j c he hj => by
    rw [List.getElem?_map] at he
    obtain ⟨x, hx, rfl⟩ := Option.map_eq_some_iff.1 he
    obtain ⟨q1, q2⟩ := ZuC l i x hx
    match j, hj with
    | 0, hj =>
     simp [encR, Z2q] at hj
     subst hj
     refine ⟨?_, .inr ⟨hg, hlt⟩, rfl⟩
     rw [Nat.add_zero, q1]
     exact hcell _ _ q1
    | 1, hj =>
     simp [encR, Z2q] at hj
     subst hj
     refine ⟨?_, .inr ⟨hg, hlt⟩, rfl⟩
     rw [q2]
     exact hcell _ _ q2
    | j + 2, hj => simp [encR, Z2q] at hj)
   (fun i e j c he hj => by
    rw [List.getElem?_map] at he
    obtain ⟨x, hx, rfl⟩ := Option.map_eq_some_iff.1 he
    obtain ⟨q1, q2⟩ := ZuC l i x hx
    match j, hj with
    | 0, hj =>
     simp [encR, Z2q] at hj
     subst hj
     rw [Nat.add_zero, q1]
     exact .v _ rfl
    | 1, hj =>
     simp [encR, Z2q] at hj
     subst hj
     rw [q2]
     exact .v _ rfl
    | j + 2, hj => simp [encR, Z2q] at hj)
  simpa using key
theorem ZxR {args : List AV} {B : List Row} {r : Res} (h : Zmy args B = some r) (w : World) (S : Stay) (β : Nat → Nat) (vals : Array Value) (he : Entry w S β args B vals) :
  Plain Tryz.prog 169 ∧ Calls Tryz.prog 169 vals w (ZeK w S β args B vals r) := by
 refine ⟨ZGo, ?_⟩
 unfold Zmy at h
 split at h
 case h_2 => simp at h
 rename_i a1 b1 o xs
 split at h
 case h_2 => simp at h
 rename_i rs hrs
 split at h
 case isFalse => simp at h
 rename_i hc
 cases h
 have hxs := ZjT hrs
 subst hxs
 obtain ⟨v, rfl, hp⟩ := Z8O he
 have hl := ZwR he.mem.stay hp
 obtain ⟨a, cap, rfl, _⟩ := id hl
 refine (Tryz.normal_calls rs a cap w hc.2 hc.1 (fun W0 Bs h1 h2 h3 => callsIn_wide.1 (Tryz.sortedFunc_in Fence.wide 5 trivial trivial trivial trivial trivial rfl (Nat.le_refl _) Bs a cap rs (by omega) W0 h1 h2 h3)) hl).mono ?_
 rintro e w' ⟨v, rfl, hown, hb⟩
 exact ZiS (S' := fun b o => S b o ∨ (w.heap.size ≤ b ∧ b < w'.heap.size)) he hb (fun _ _ h => h) (fun _ _ h => .inl h) (.p _ _ (ZyA hown)) rfl
theorem Zqm : ∀ {xs : List PV} {ls : List (List R2)}, Zmk xs = some ls → xs.length = ls.length ∧ ∀ (i : Nat) (l : List R2), ls[i]? = some l → ∃ o : Abs.Own, xs[i]? = some (PV.lst o (l.map encR))
 | [], ls, h => by simp [Zmk] at h; subst h; simp
 | x :: r, ls, h => by
  unfold Zmk at h
  split at h
  ·rename_i o ys b hb
   obtain ⟨l, hl, rfl⟩ := Option.map_eq_some_iff.1 h
   obtain ⟨q1, q2⟩ := Zqm hb
   refine ⟨by simp [q1], fun i m hm => ?_⟩
   cases i with
   | zero =>
    simp at hm
    subst hm
    exact ⟨o, by rw [ZjT hl]; rfl⟩
   | succ i => simpa using q2 i m (by simpa using hm)
  ·simp at h
theorem Zxh {args : List AV} {B : List Row} {r : Res} (h : Zmx args B = some r) (w : World) (S : Stay) (β : Nat → Nat) (vals : Array Value) (he : Entry w S β args B vals) :
  Plain Tryz.prog 174 ∧ Calls Tryz.prog 174 vals w (ZeK w S β args B vals r) := by
 refine ⟨ZGp, ?_⟩
 unfold Zmx at h
 split at h
 case h_2 => simp at h
 rename_i a1 b1 o xs
 split at h
 case h_2 => simp at h
 rename_i ls hls
 split at h
 case isFalse => simp at h
 rename_i hc
 cases h
 obtain ⟨q1, q2⟩ := Zqm hls
 obtain ⟨v, rfl, hp⟩ := Z8O he
 have hsz : szOk 1 xs = true := by
  unfold szOk
  rw [List.all_eq_true]
  intro e he
  obtain ⟨i, hi⟩ := List.mem_iff_getElem?.1 he
  have hlt : i < ls.length := by have := (List.getElem?_eq_some_iff.1 hi).1; omega
  obtain ⟨o, ho⟩ := q2 i _ (List.getElem?_eq_getElem hlt)
  rw [hi] at ho
  cases ho
  rfl
 obtain ⟨a, cap, rfl, _, _, h3⟩ := ZhV (n := 1) hp hsz
 have hL : Tryz.Lists w.heap.size w (.slice a ls.length cap) ls := by
  refine ⟨a, cap, rfl, ?_⟩
  by_cases hn : ls = []
  ·exact .inl hn
  obtain ⟨b, off, rfl, h4⟩ := h3 (by rintro rfl; apply hn; exact List.eq_nil_of_length_eq_zero q1.symm)
  have key : ∀ i l, ls[i]? = some l → (∃ v, w.cell? ⟨b, off + i, none⟩ = some v ∧ Tryz.Lies w.heap.size w v l) ∧ S b (off + (i * 1 + 0)) := by
   intro i l hl
   obtain ⟨o, ho⟩ := q2 i l hl
   obtain ⟨u, p1, p2, _, p4⟩ := h4 i _ 0 _ ho rfl
   rw [Nat.mul_one, Nat.add_zero] at p1
   exact ⟨⟨u, p1, ZwR he.mem.stay p4⟩, p2⟩
  refine .inr ⟨b, off, rfl, ?_, fun i l hl => (key i l hl).1⟩
  cases ls with
  | nil => exact absurd rfl hn
  | cons x r => exact he.mem.stay _ _ (key 0 x rfl).2
 rw [q1] at he ⊢
 refine (Tryz.concat_calls ls a cap w hc.2 hc.1 hL).mono ?_
 rintro e w' ⟨v, rfl, hown, hb⟩
 exact ZiS (S' := fun b o => S b o ∨ (w.heap.size ≤ b ∧ b < w'.heap.size)) he hb (fun _ _ h => h) (fun _ _ h => .inl h) (.p _ _ (ZyA hown)) rfl
end Go.Proofs.YteoeggbihfnbfaaGreatDoor
end
section
set_option linter.unusedSimpArgs false
set_option linter.unusedVariables false
namespace Go.Proofs.YteoeggbihfnbfaaGreatDoor
open Go Go.Abs Go.RowKit Go.Maps Go.Sort Go.Shelf
theorem ZI0 (m : Nat) : AnyZI.SortsIn Tryz.prog Tryz.sortedA_ren Fence.wide m :=
 ⟨fun blk off cap ss W hH hblk hsz => callsIn_wide.2 (AnyM.slices_Sort_int Tryz.sortI blk off cap ss W hH hblk hsz),
  fun p cap W => callsIn_wide.2 (AnyM.slices_Sort_int_none Tryz.sortI p cap W)⟩
theorem ZGm : Plain Tryz.prog 52 := ⟨_, Tryz.func52, by kernel_rfl, by kernel_rfl⟩
abbrev RR : Value → Option (DataW Unit × List MemPlace) := fun _ => some (.nil, [])
theorem ZCu {n : Int} (h1 : -9223372036854775808 ≤ n) (h2 : n ≤ 9223372036854775807) : keyOf Tryz.prog 3 (.int .i64 n) = some (.int .i64 n) := by
 have e : keyOf Tryz.prog 3 (.int .i64 n) = mapKey Tryz.prog 3 (.int .i64 n) := by unfold keyOf; rw [Tryz.underlying3]
 rw [e]
 unfold mapKey
 rw [Tryz.underlying3]
 have e1 : IntKind.min .i64 = -9223372036854775808 := by decide
 have e2 : IntKind.max .i64 = 9223372036854775807 := by decide
 have hw : (Lit.int .i64 n).wf = true := by simp only [Lit.wf, e1, e2, Bool.and_eq_true, decide_eq_true_eq]; omega
 simp [hw]
theorem ZwP {e : MapEntry} {n : Int} (hk : e.key = .int .i64 n) (h1 : -9223372036854775808 ≤ n) (h2 : n ≤ 9223372036854775807) : WideElems.rd Tryz.prog 3 RR e = some (.int .i64 n, .nil) := by
 unfold WideElems.rd
 rw [hk, ZCu h1 h2]
 rfl
theorem ZiV {α : Type} {a : Array α} {i : Nat} {x : α} (h : a.toList[i]? = some x) : a[i]? = some x := by simpa using h
theorem ZCx {w : World} {S : Stay} {b : Nat} {es : List (Int × PV)} (h : Zbu w S b es) (hl : es.length ≤ 1048576) (hr : ∀ q ∈ es, -9223372036854775808 ≤ q.1 ∧ q.1 ≤ 9223372036854775807) :
  ∃ D : DataW Unit, w.ownsMap Tryz.prog 3 RR b es.length D ∧ (intKeys D).Perm (es.map (·.1)) ∧ Maps.size D = es.length := by
 obtain ⟨ents, clock, hb, hsz, he, h4, h5, h6⟩ := h
 have hent : ∀ (i : Nat) (x : MapEntry), ents.toList[i]? = some x → ∃ q, es[i]? = some q ∧ x.key = .int .i64 q.1 ∧ -9223372036854775808 ≤ q.1 ∧ q.1 ≤ 9223372036854775807 := by
  intro i x hx
  have hi : i < es.length := by have := (List.getElem?_eq_some_iff.1 hx).1; simp at this; omega
  have hq : es[i]? = some es[i] := List.getElem?_eq_getElem hi
  obtain ⟨k, _⟩ := he i x es[i] (ZiV hx) hq
  exact ⟨es[i], hq, k, hr _ (List.getElem_mem hi)⟩
 have hkeys : ents.toList.map (fun x => WideElems.rg Tryz.prog 3 RR x) = es.map fun q => (Lit.int .i64 q.1, DataW.nil) := by
  apply List.ext_getElem?
  intro i
  rw [List.getElem?_map, List.getElem?_map]
  cases hx : ents.toList[i]? with
  | none =>
   have : es.length ≤ i := by
    have := List.getElem?_eq_none_iff.1 hx
    simp at this
    omega
   rw [List.getElem?_eq_none this]
   rfl
  | some x =>
   obtain ⟨q, hq, hk, r1, r2⟩ := hent i x hx
   rw [hq]
   simp only [Option.map_some, WideElems.rg, ZwP hk r1 r2, Option.getD_some]
 have hfit : WideElems.Fit Tryz.prog 3 RR ents clock := by
  refine ⟨by rw [hsz]; exact Nat.le_trans hl (by decide), ⟨?_, ?_, ?_⟩, ?_⟩
  ·intro x hx
   obtain ⟨i, hi⟩ := List.getElem?_of_mem hx
   exact h4 i x (ZiV hi)
  ·rw [List.nodup_iff_pairwise_ne, List.pairwise_map, List.pairwise_iff_getElem]
   intro i j hi hj hij e
   have hi' : ents[i]? = some ents.toList[i] := ZiV (List.getElem?_eq_getElem hi)
   have hj' : ents[j]? = some ents.toList[j] := ZiV (List.getElem?_eq_getElem hj)
   have := h5 i j _ _ hi' hj' e
   omega
  ·rw [List.nodup_iff_pairwise_ne, List.pairwise_map, List.pairwise_iff_getElem]
   intro i j hi hj hij e
   obtain ⟨q, hq, hk, _⟩ := hent i _ (List.getElem?_eq_getElem hi)
   obtain ⟨q', hq', hk', _⟩ := hent j _ (List.getElem?_eq_getElem hj)
   rw [hk, hk'] at e
   have e : q.1 = q'.1 := by simpa using e
   have hn := List.pairwise_iff_getElem.1 (List.nodup_iff_pairwise_ne.1 h6) i j (by simp; exact (List.getElem?_eq_some_iff.1 hq).1) (by simp; exact (List.getElem?_eq_some_iff.1 hq').1) hij
   apply hn
   simp only [List.getElem_map]
   rw [(List.getElem?_eq_some_iff.1 hq).2, (List.getElem?_eq_some_iff.1 hq').2, e]
  ·intro x hx
   obtain ⟨i, hi⟩ := List.getElem?_of_mem hx
   obtain ⟨q, hq, hk, r1, r2⟩ := hent i x hi
   exact ⟨_, ZwP hk r1 r2⟩
 refine ⟨.map ((ents.toList.map (WideElems.rg Tryz.prog 3 RR)).foldr DataW.insert []), ⟨ents, clock, hb, hfit, by omega, rfl⟩, ?_, ?_⟩
 ·unfold intKeys
  refine ((WideShapes.sorted_perm _).map _).trans ?_
  rw [hkeys, List.map_map]
  exact List.Perm.of_eq rfl
 ·show ((ents.toList.map (WideElems.rg Tryz.prog 3 RR)).foldr DataW.insert []).length = _
  rw [(WideShapes.sorted_perm _).length_eq]
  simp [hsz]
theorem ZCS {w w' : World} {S : Stay} {v : Value} {l : List Int} (hrow : w'.ownsRow w.heap.size 3 1 v l.length (l.map encZ)) :
  PRel w' (fun b o => S b o ∨ (w.heap.size ≤ b ∧ b < w'.heap.size)) (.lst .sh (l.map fun n => .v (.int .i64 n))) v := by
 obtain ⟨_, ⟨rfl, hz⟩ | ⟨g, cap, cur, rfl, hg, hh, h1, h2, h3, h4⟩⟩ := hrow
 ·obtain rfl : l = [] := List.eq_nil_of_length_eq_zero hz
  exact .lst .sh [] none 0 0 0 0 (fun _ _ => undef) (Nat.le_refl _) (by simp) (by simp) (by simp) (fun _ => rfl) (by simp) (by simp) (by simp)
 ·have hlt : g < w'.heap.size := (Array.getElem?_eq_some_iff.1 hh).1
  have hcell : ∀ (i : Nat) (n : Int), l[i]? = some n → w'.cell? ⟨g, 0 + (i * 1 + 0), none⟩ = some (.int .i64 n) := by
   intro i n hn
   have hi : i < l.length := (List.getElem?_eq_some_iff.1 hn).1
   have e : cur.toList[i]? = some (.int .i64 n) := by
    have : (cur.toList.take (l.length * 1))[i]? = some (.int .i64 n) := by rw [h4, List.getElem?_map, hn]; rfl
    rw [List.getElem?_take] at this
    split at this
    ·exact this
    ·simp at this
   unfold World.cell?
   rw [hh]
   simpa using e
  have key := PRel.lst (w := w') (S := fun b o => S b o ∨ (w.heap.size ≤ b ∧ b < w'.heap.size)) .sh (l.map fun n => PV.v (.int .i64 n)) (some ⟨g, 0, none⟩) cap g 0 1 (fun i _ => .int .i64 (l.getD i 0)) (by simpa using h1) (by simp) (by simp) (by simp) (by simp)
   (fun _ => ⟨rfl, by omega, fun e he => by obtain ⟨z, _, rfl⟩ := List.mem_map.1 he; rfl⟩)
   (fun i e j c he hj => by
    rw [List.getElem?_map] at he
    obtain ⟨z, hz', rfl⟩ := Option.map_eq_some_iff.1 he
    cases j with
    | succ j => simp [Z2q] at hj
    | zero =>
     simp only [Z2q, List.getElem?_cons_zero, Option.some.injEq] at hj
     subst hj
     refine ⟨?_, .inr ⟨hg, hlt⟩, rfl⟩
     have : l.getD i 0 = z := by rw [List.getD_eq_getElem?_getD, hz']; rfl
     rw [this]
     exact hcell i z hz')
   (fun i e j c he hj => by
    rw [List.getElem?_map] at he
    obtain ⟨z, hz', rfl⟩ := Option.map_eq_some_iff.1 he
    cases j with
    | succ j => simp [Z2q] at hj
    | zero =>
     simp only [Z2q, List.getElem?_cons_zero, Option.some.injEq] at hj
     subst hj
     have : l.getD i 0 = z := by rw [List.getD_eq_getElem?_getD, hz']; rfl
     rw [this]
     exact .v _ rfl)
  simpa using key
theorem Zy1 {args : List AV} {B : List Row} {r : Res} (h : Zmz args B = some r) (w : World) (S : Stay) (β : Nat → Nat) (vals : Array Value) (he : Entry w S β args B vals) :
  Plain Tryz.prog 52 ∧ Calls Tryz.prog 52 vals w (ZeK w S β args B vals r) := by
 refine ⟨ZGm, ?_⟩
 unfold Zmz at h
 split at h
 case h_2 => simp at h
 rename_i f i
 split at h
 case isFalse => simp at h
 rename_i hf
 subst hf
 split at h
 case h_2 => simp at h
 rename_i j hBi
 split at h
 case h_2 => simp at h
 rename_i es hBj
 split at h
 case isFalse => simp at h
 rename_i hc
 simp only [Option.some.injEq] at h
 subst h
 obtain ⟨row, hrow, hmd⟩ := Option.bind_eq_some_iff.1 hBj
 obtain ⟨v, rfl⟩ : ∃ v, vals = #[v] := by
  have := he.size
  have h1 : vals.size = 1 := by simpa using this
  exact Array.size_eq_one_iff.1 h1
 have hr := he.rel 0 _ v rfl rfl
 obtain ⟨a2, rfl, ha2⟩ : ∃ a2 : Array Value, v = .func (.func 78) #[] a2 ∧ a2 = #[.pointer (some ⟨β i, 0, none⟩)] := by
  cases hr with
  | clo _ _ _ a1 a2 h1 h2 h3 h4 h5 =>
   have e1 : a1 = #[] := Array.eq_empty_of_size_eq_zero (by simpa using h1)
   obtain ⟨u, rfl⟩ := Array.size_eq_one_iff.1 (show a2.size = 1 by simpa using h2)
   have hu := h4 0 _ u rfl rfl
   subst e1
   cases hu with
   | ptr _ _ _ => exact ⟨_, rfl, rfl⟩
 subst ha2
 have hi : i < B.length := (List.getElem?_eq_some_iff.1 hBi).1
 obtain ⟨u, hu, hur, _⟩ := he.mem.cell i _ 0 _ hBi rfl rfl
 have hu' : u = .map (some (β j)) := by cases hur with | mp _ _ => rfl
 subst hu'
 have hlt : β i < w.heap.size := he.mem.lt hi
 obtain ⟨D, hown, hperm, hsize⟩ := ZCx (he.mem.maps j row es hrow hmd) hc.1 hc.2
 have hseq : SeqGives Fence.wide 2 Tryz.prog 78 #[.pointer (some ⟨β i, 0, none⟩)] encZ (fun ss => ss.Perm (intKeys D)) (Maps.size D) w :=
  AnyZI.keys_gives (ρ := Tryz.keysA_ren) { Tryz.keysA with } Fence.wide _ trivial rfl (by omega) (β i) (β j) es.length D w hlt hu hown
 have hs2 : Maps.size D ≤ 1048576 := by rw [hsize]; exact hc.1
 have cS := AnyZI.sorted_in Tryz.sortedA Fence.wide 5 trivial trivial trivial trivial rfl (by omega) (ZI0 _) (enters_of Tryz.func77 (by kernel_rfl) rfl) 78 #[.pointer (some ⟨β i, 0, none⟩)] trivial (enters_of Tryz.func78 (by kernel_rfl) rfl) _ _ (Nat.le_trans hs2 (by decide)) (by omega) _ hseq
 change CallsIn _ _ Tryz.prog 52 _ _ _ at cS
 refine ((callsIn_wide (n := 5)).1 cS).mono ?_
 rintro e w' ⟨v, ss, rfl, hS, hrow', _, hb⟩
 have hss : ss.mergeSort (fun x y => decide (x ≤ y)) = keysOf es := by
  unfold keysOf
  refine List.Perm.eq_of_pairwise (le := fun a b => a ≤ b) (fun a b _ _ h1 h2 => by omega) ?_ ?_ ?_
  ·exact (List.pairwise_mergeSort (le := fun a b : Int => decide (a ≤ b)) (fun a b c h1 h2 => by simp at *; omega) (fun a b => by simp; omega) ss).imp fun h => by simpa using h
  ·exact (List.pairwise_mergeSort (le := fun a b : Int => decide (a ≤ b)) (fun a b c h1 h2 => by simp at *; omega) (fun a b => by simp; omega) (es.map (·.1))).imp fun h => by simpa using h
  ·exact (List.mergeSort_perm _ _).trans ((hS.trans hperm).trans (List.mergeSort_perm _ _).symm)
 have hlen : ss.length = (keysOf es).length := by rw [← hss]; simp
 rw [hss, hlen] at hrow'
 exact ZiS (S' := fun b o => S b o ∨ (w.heap.size ≤ b ∧ b < w'.heap.size)) he hb (fun _ _ h => h) (fun _ _ h => .inl h) (.p _ _ (ZCS hrow')) rfl
end Go.Proofs.YteoeggbihfnbfaaGreatDoor
end
