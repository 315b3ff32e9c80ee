/- What is given of the library to the evaluator does what is said of it. Condition: the tables lie as they are laid. -/
import Derived.Test.YteoeggbihfnbfaaGreatDoorEvD
import Derived.Test.YteoeggbihfnbfaaGreatDoorWalk
import Derived.Shelf.SlicesE.Clone
import Derived.Laws.OwnMore
import Derived.WalkKit
import Derived.Lib.Walk

set_option linter.unusedSimpArgs false
set_option linter.unusedVariables false
set_option linter.defProp false
section
namespace Go.Proofs.YteoeggbihfnbfaaGreatDoor
open Go Go.Abs Go.RowKit Go.Proofs.Norm
theorem mixed : Tryz.prog.follows .mixedOrders = true := by kernel_rfl
theorem size_mk (l : List UInt8) : (⟨l.toArray⟩ : ByteArray).size = l.length := by
 show l.toArray.size = _
 simp
theorem Zu5 {l : List UInt8} {j : Nat} {x : UInt8} (h : l[j]? = some x) : (⟨l.toArray⟩ : ByteArray).get! j = x := by
 show l.toArray[j]! = x
 have hj := (q3_.1 h)
 obtain ⟨h1, h2⟩ := hj
 rw [getElem!_pos l.toArray j (by simpa using h1)]
 simpa using h2
theorem ZIY {w : World} {S : Stay} {β : Nat → Nat} {n : Nat} (a b : Value) (ha : scal a = true) (hb : scal b = true) : ARel w S β n (.p (.tup [.v a, .v b])) (.tuple #[a, b]) := by
 refine .p _ _ (.tup _ _ rfl (by simp [Z8Q]) ?_)
 intro i c v hc hv
 match i, hc, hv with
 | 0, hc, hv => simp at hc hv; subst hc hv; exact .v _ ha
 | 1, hc, hv => simp at hc hv; subst hc hv; exact .v _ hb
 | i + 2, hc, hv => simp at hc
theorem Z9s {w : World} {S : Stay} {β : Nat → Nat} {x : PV} {B : List Row} {vals : Array Value} (he : Entry w S β [.p x] B vals) : ∃ v, vals = #[v] ∧ PRel w S x v := by
 obtain ⟨v, rfl⟩ : ∃ v, vals = #[v] := by
  have := he.size
  have h1 : vals.size = 1 := by simpa using this
  exact Array.size_eq_one_iff.1 h1
 have hr := he.rel 0 _ v rfl rfl
 exact ⟨v, rfl, by cases hr with | p _ _ h => exact h⟩
theorem ZLd : Plain Tryz.prog 146 := ⟨Tryz.f146, Tryz.func146, by kernel_rfl, by kernel_rfl⟩
theorem ZLf : Plain Tryz.prog 169 := ⟨Tryz.f169, Tryz.func169, by kernel_rfl, by kernel_rfl⟩
theorem ZLg : Plain Tryz.prog 174 := ⟨Tryz.f174, Tryz.func174, by kernel_rfl, by kernel_rfl⟩
theorem ZBu {args : List AV} {B : List Row} {r : Res} (h : ZsT args B = some r) (w : World) (S : Stay) (β : Nat → Nat) (vals : Array Value) (hI : Tabs 0 1 w S) (he : Entry w S β args B vals) :
  Plain Tryz.prog 146 ∧ Calls Tryz.prog 146 vals w (ZcU w S β args B vals r) := by
 refine ⟨ZLd, ?_⟩
 unfold ZsT at h
 split at h
 ·rename_i a1 b1 o xs
  split at h
  ·simp at h
  ·rename_i hne
   obtain ⟨l, hl, rfl⟩ := q4_.1 h
   have hxs := Ztf hl
   subst hxs
   obtain ⟨v, rfl, hp⟩ := Z9s he
   obtain ⟨a, cap, rfl, hcap, hc⟩ := ZBo hp
   have hln : l ≠ [] := by rintro rfl; exact hne rfl
   obtain ⟨b, off, rfl, hcell⟩ := hc hln
   have := Any7.utf8_DecodeRune Tryz.lays32 ⟨l.toArray⟩ b off cap w hI.1 (by
    intro j hj
    rw [size_mk] at hj
    have hx : l[j]? = some l[j] := by simp [hj]
    rw [Zu5 hx]
    exact (hcell j _ hx).1)
   rw [size_mk] at this
   refine this.mono ?_
   rintro e w' ⟨rfl, hb⟩
   exact Zil (S' := S) he hb (fun _ _ h => .inl h) (fun _ _ h => h) (ZIY _ _ rfl rfl) rfl
 ·simp at h
theorem ZC7 {p : PV} {r : R2} (h : ZAV p = some r) : p = encR r := by
 unfold ZAV at h
 split at h
 ·cases h; rfl
 ·simp at h
theorem Zm6 : ∀ {xs : List PV} {rs : List R2}, Zhp xs = some rs → xs = rs.map encR
 | [], rs, h => by simp [Zhp] at h; subst h; rfl
 | x :: r, rs, h => by
  simp only [Zhp] at h
  split at h
  ·rename_i a b ha hb
   cases h
   rw [ZC7 ha, Zm6 hb]
   rfl
  ·simp at h
theorem ZAY {w : World} {S : Stay} {o : Abs.Own} {rs : List R2} {v : Value} (hS : ∀ b o, S b o → b < w.heap.size) (h : PRel w S (.lst o (rs.map encR)) v) : Tryz.Lies w.heap.size w v rs := by
 obtain ⟨a, cap, rfl, h1, h2, h3⟩ := Zho (n := 2) h (by
  unfold szOk
  simp [Za5, encR, Z2n])
 refine ⟨a, cap, by simp, ?_⟩
 by_cases hn : rs = []
 ·exact .inl hn
 obtain ⟨b, off, rfl, h4⟩ := h3 (by simpa using hn)
 have key : ∀ i x, rs[i]? = some x → (w.cell? ⟨b, off + i * 2, none⟩ = some (.int .i64 x.1) ∧ w.cell? ⟨b, off + i * 2 + 1, none⟩ = some (.int .i64 x.2)) ∧ S b (off + (i * 2 + 0)) := by
  intro i x hx
  have hi : (rs.map encR)[i]? = some (encR x) := by rw [q5_, hx]; rfl
  obtain ⟨u, q1, q2, _, q4⟩ := h4 i _ 0 (.v (.int .i64 x.1)) hi rfl
  obtain ⟨u', p1, p2, _, p4⟩ := h4 i _ 1 (.v (.int .i64 x.2)) hi rfl
  have e1 : u = .int .i64 x.1 := by cases q4 with | v _ _ => rfl
  have e2 : u' = .int .i64 x.2 := by cases p4 with | v _ _ => rfl
  subst e1 e2
  exact ⟨⟨q1, by rwa [show off + (i * 2 + 1) = off + i * 2 + 1 by omega] at p1⟩, q2⟩
 refine .inr ⟨b, off, rfl, ?_, fun i x hx => (key i x hx).1⟩
 cases rs with
 | nil => exact absurd rfl hn
 | cons x r => exact hS _ _ (key 0 x rfl).2
theorem Zyp : ∀ (l : List R2) (i : Nat) (x : R2), l[i]? = some x → (Tryz.flat l)[i * 2]? = some (.int .i64 x.1) ∧ (Tryz.flat l)[i * 2 + 1]? = some (.int .i64 x.2) := by
 intro l
 induction l with
 | nil => intro i x h; simp at h
 | cons y r ih =>
  intro i x h
  cases i with
  | zero => simp at h; subst h; exact ⟨rfl, rfl⟩
  | succ i =>
   have := ih i x (by simpa using h)
   rw [show (i + 1) * 2 = i * 2 + 2 by omega]
   exact this
theorem ZCP {w w' : World} {S : Stay} {v : Value} {l : List R2} (h : w'.ownsRow w.heap.size 201 2 v l.length (Tryz.flat l)) :
  PRel w' (fun b o => S b o ∨ (w.heap.size ≤ b ∧ b < w'.heap.size)) (.lst .sh (l.map encR)) v := by
 rcases h.2 with ⟨rfl, hz⟩ | ⟨g, cap, cur, rfl, hg, hh, h1, h2, h3, h4⟩
 ·obtain rfl : l = [] := Zjr hz
  exact .lst .sh [] none 0 0 0 0 (fun _ _ => undef) (q7_ _) (by simp) (by simp) (by simp) (fun _ => rfl) (by simp) (by simp) (by simp)
 ·have hlt : g < w'.heap.size := (Z9R.1 hh).1
  have hcell : ∀ t u, (Tryz.flat l)[t]? = some u → w'.cell? ⟨g, 0 + t, none⟩ = some u := by
   intro t u ht
   have := h.cells (g := g) rfl t u ht
   rwa [ZaI] at this
  have key := PRel.lst (w := w') (S := fun b o => S b o ∨ (w.heap.size ≤ b ∧ b < w'.heap.size)) .sh (l.map encR) (some ⟨g, 0, none⟩) cap g 0 2 (fun i j => ((Tryz.flat l)[i * 2 + j]?).getD undef) (by simpa using h1) (by simp) (by simp) (by simp) (by simp)
   (fun _ => ⟨rfl, by omega, fun e he => by obtain ⟨z, _, rfl⟩ := Z7n.1 he; rfl⟩)
   (fun i e j c he hj => by
    rw [q5_] at he
    obtain ⟨x, hx, rfl⟩ := q4_.1 he
    obtain ⟨q1, q2⟩ := Zyp l i x hx
    match j, hj with
    | 0, hj =>
     simp [encR, Z2n] at hj
     subst hj
     refine ⟨?_, .inr ⟨hg, hlt⟩, rfl⟩
     rw [Ziq, q1]
     exact hcell _ _ q1
    | 1, hj =>
     simp [encR, Z2n] at hj
     subst hj
     refine ⟨?_, .inr ⟨hg, hlt⟩, rfl⟩
     rw [q2]
     exact hcell _ _ q2
    | j + 2, hj => simp [encR, Z2n] at hj)
   (fun i e j c he hj => by
    rw [q5_] at he
    obtain ⟨x, hx, rfl⟩ := q4_.1 he
    obtain ⟨q1, q2⟩ := Zyp l i x hx
    match j, hj with
    | 0, hj =>
     simp [encR, Z2n] at hj
     subst hj
     rw [Ziq, q1]
     exact .v _ rfl
    | 1, hj =>
     simp [encR, Z2n] at hj
     subst hj
     rw [q2]
     exact .v _ rfl
    | j + 2, hj => simp [encR, Z2n] at hj)
  simpa using key
theorem ZC2 {args : List AV} {B : List Row} {r : Res} (h : ZoU args B = some r) (w : World) (S : Stay) (β : Nat → Nat) (vals : Array Value) (he : Entry w S β args B vals) :
  Plain Tryz.prog 169 ∧ Calls Tryz.prog 169 vals w (ZcU w S β args B vals r) := by
 refine ⟨ZLf, ?_⟩
 unfold ZoU at h
 split at h
 case h_2 => simp at h
 rename_i a1 b1 o xs
 split at h
 case h_2 => simp at h
 rename_i rs hrs
 split at h
 case isFalse => simp at h
 rename_i hc
 cases h
 have hxs := Zm6 hrs
 subst hxs
 obtain ⟨v, rfl, hp⟩ := Z9s he
 have hl := ZAY he.mem.stay hp
 obtain ⟨a, cap, rfl, _⟩ := id hl
 refine (Tryz.normal_calls rs a cap w hc.2 hc.1 (fun W0 Bs h1 h2 h3 => callsIn_wide.1 (Tryz.sortedFunc_in Fence.wide 5 trivial trivial trivial trivial trivial rfl (q7_ _) Bs a cap rs (by omega) W0 h1 h2 h3)) hl).mono ?_
 rintro e w' ⟨v, rfl, hown, hb⟩
 exact Zil (S' := fun b o => S b o ∨ (w.heap.size ≤ b ∧ b < w'.heap.size)) he hb (fun _ _ h => h) (fun _ _ h => .inl h) (.p _ _ (ZCP hown)) rfl
theorem Ztp : ∀ {xs : List PV} {ls : List (List R2)}, Zoz xs = some ls → xs.length = ls.length ∧ ∀ (i : Nat) (l : List R2), ls[i]? = some l → ∃ o : Abs.Own, xs[i]? = some (PV.lst o (l.map encR))
 | [], ls, h => by simp [Zoz] at h; subst h; simp
 | x :: r, ls, h => by
  unfold Zoz at h
  split at h
  ·rename_i o ys b hb
   obtain ⟨l, hl, rfl⟩ := q4_.1 h
   obtain ⟨q1, q2⟩ := Ztp hb
   refine ⟨by simp [q1], fun i m hm => ?_⟩
   cases i with
   | zero =>
    simp at hm
    subst hm
    exact ⟨o, by rw [Zm6 hl]; rfl⟩
   | succ i => simpa using q2 i m (by simpa using hm)
  ·simp at h
theorem ZBs {args : List AV} {B : List Row} {r : Res} (h : ZoT args B = some r) (w : World) (S : Stay) (β : Nat → Nat) (vals : Array Value) (he : Entry w S β args B vals) :
  Plain Tryz.prog 174 ∧ Calls Tryz.prog 174 vals w (ZcU w S β args B vals r) := by
 refine ⟨ZLg, ?_⟩
 unfold ZoT at h
 split at h
 case h_2 => simp at h
 rename_i a1 b1 o xs
 split at h
 case h_2 => simp at h
 rename_i ls hls
 split at h
 case isFalse => simp at h
 rename_i hc
 cases h
 obtain ⟨q1, q2⟩ := Ztp hls
 obtain ⟨v, rfl, hp⟩ := Z9s he
 have hsz : szOk 1 xs = true := by
  unfold szOk
  rw [Za5]
  intro e he
  obtain ⟨i, hi⟩ := Zjs.1 he
  have hlt : i < ls.length := by have := (q3_.1 hi).1; omega
  obtain ⟨o, ho⟩ := q2 i _ (q2_ hlt)
  rw [hi] at ho
  cases ho
  rfl
 obtain ⟨a, cap, rfl, _, _, h3⟩ := Zho (n := 1) hp hsz
 have hL : Tryz.Lists w.heap.size w (.slice a ls.length cap) ls := by
  refine ⟨a, cap, rfl, ?_⟩
  by_cases hn : ls = []
  ·exact .inl hn
  obtain ⟨b, off, rfl, h4⟩ := h3 (by rintro rfl; apply hn; exact Zjr q1.symm)
  have key : ∀ i l, ls[i]? = some l → (∃ v, w.cell? ⟨b, off + i, none⟩ = some v ∧ Tryz.Lies w.heap.size w v l) ∧ S b (off + (i * 1 + 0)) := by
   intro i l hl
   obtain ⟨o, ho⟩ := q2 i l hl
   obtain ⟨u, p1, p2, _, p4⟩ := h4 i _ 0 _ ho rfl
   rw [Nat.mul_one, Ziq] at p1
   exact ⟨⟨u, p1, ZAY he.mem.stay p4⟩, p2⟩
  refine .inr ⟨b, off, rfl, ?_, fun i l hl => (key i l hl).1⟩
  cases ls with
  | nil => exact absurd rfl hn
  | cons x r => exact he.mem.stay _ _ (key 0 x rfl).2
 rw [q1] at he ⊢
 refine (Tryz.concat_calls ls a cap w hc.2 hc.1 hL).mono ?_
 rintro e w' ⟨v, rfl, hown, hb⟩
 exact Zil (S' := fun b o => S b o ∨ (w.heap.size ≤ b ∧ b < w'.heap.size)) he hb (fun _ _ h => h) (fun _ _ h => .inl h) (.p _ _ (ZCP hown)) rfl
end Go.Proofs.YteoeggbihfnbfaaGreatDoor
end
section
namespace Go.Proofs.YteoeggbihfnbfaaGreatDoor
open Go Go.Abs Go.RowKit Go.Maps Go.Sort Go.Shelf
theorem ZN7 (m : Nat) : AnyZI.SortsIn Tryz.prog Tryz.sortedA_ren Fence.wide m :=
 ⟨fun blk off cap ss W hH hblk hsz => callsIn_wide.2 (AnyM.slices_Sort_int Tryz.sortI blk off cap ss W hH hblk hsz),
  fun p cap W => callsIn_wide.2 (AnyM.slices_Sort_int_none Tryz.sortI p cap W)⟩
theorem ZLc : Plain Tryz.prog 52 := ⟨_, Tryz.func52, by kernel_rfl, by kernel_rfl⟩
abbrev RR : Value → Option (DataW Unit × List MemPlace) := fun _ => some (.nil, [])
theorem ZHd {n : Int} (h1 : -9223372036854775808 ≤ n) (h2 : n ≤ 9223372036854775807) : keyOf Tryz.prog 3 (.int .i64 n) = some (.int .i64 n) := by
 have e : keyOf Tryz.prog 3 (.int .i64 n) = mapKey Tryz.prog 3 (.int .i64 n) := by unfold keyOf; rw [Tryz.underlying3]
 rw [e]
 unfold mapKey
 rw [Tryz.underlying3]
 have e1 : IntKind.min .i64 = -9223372036854775808 := by decide
 have e2 : IntKind.max .i64 = 9223372036854775807 := by decide
 have hw : (Lit.int .i64 n).wf = true := by simp only [Lit.wf, e1, e2, q6_, decide_eq_true_eq]; omega
 simp [hw]
theorem ZAW {e : MapEntry} {n : Int} (hk : e.key = .int .i64 n) (h1 : -9223372036854775808 ≤ n) (h2 : n ≤ 9223372036854775807) : WideElems.rd Tryz.prog 3 RR e = some (.int .i64 n, .nil) := by
 unfold WideElems.rd
 rw [hk, ZHd h1 h2]
 rfl
theorem Zlg {α : Type} {a : Array α} {i : Nat} {x : α} (h : a.toList[i]? = some x) : a[i]? = some x := by simpa using h
theorem ZHg {w : World} {S : Stay} {b : Nat} {es : List (Int × PV)} (h : ZcV w S b es) (hl : es.length ≤ 1048576) (hr : ∀ q ∈ es, -9223372036854775808 ≤ q.1 ∧ q.1 ≤ 9223372036854775807) :
  ∃ D : DataW Unit, w.ownsMap Tryz.prog 3 RR b es.length D ∧ (intKeys D).Perm (es.map (·.1)) ∧ Maps.size D = es.length := by
 obtain ⟨ents, clock, hb, hsz, he, h4, h5, h6⟩ := h
 have hent : ∀ (i : Nat) (x : MapEntry), ents.toList[i]? = some x → ∃ q, es[i]? = some q ∧ x.key = .int .i64 q.1 ∧ -9223372036854775808 ≤ q.1 ∧ q.1 ≤ 9223372036854775807 := by
  intro i x hx
  have hi : i < es.length := by have := (q3_.1 hx).1; simp at this; omega
  have hq : es[i]? = some es[i] := q2_ hi
  obtain ⟨k, _⟩ := he i x es[i] (Zlg hx) hq
  exact ⟨es[i], hq, k, hr _ (ZrP hi)⟩
 have hkeys : ents.toList.map (fun x => WideElems.rg Tryz.prog 3 RR x) = es.map fun q => (Lit.int .i64 q.1, DataW.nil) := by
  apply ZrS
  intro i
  rw [q5_, q5_]
  cases hx : ents.toList[i]? with
  | none =>
   have : es.length ≤ i := by
    have := List.getElem?_eq_none_iff.1 hx
    simp at this
    omega
   rw [Zh3 this]
   rfl
  | some x =>
   obtain ⟨q, hq, hk, r1, r2⟩ := hent i x hx
   rw [hq]
   simp only [Za6, WideElems.rg, ZAW hk r1 r2, Option.getD_some]
 have hfit : WideElems.Fit Tryz.prog 3 RR ents clock := by
  refine ⟨by rw [hsz]; exact Zip hl (by decide), ⟨?_, ?_, ?_⟩, ?_⟩
  ·intro x hx
   obtain ⟨i, hi⟩ := ZAP hx
   exact h4 i x (Zlg hi)
  ·rw [ZFe, List.pairwise_map, ZFf]
   intro i j hi hj hij e
   have hi' : ents[i]? = some ents.toList[i] := Zlg (q2_ hi)
   have hj' : ents[j]? = some ents.toList[j] := Zlg (q2_ hj)
   have := h5 i j _ _ hi' hj' e
   omega
  ·rw [ZFe, List.pairwise_map, ZFf]
   intro i j hi hj hij e
   obtain ⟨q, hq, hk, _⟩ := hent i _ (q2_ hi)
   obtain ⟨q', hq', hk', _⟩ := hent j _ (q2_ hj)
   rw [hk, hk'] at e
   have e : q.1 = q'.1 := by simpa using e
   have hn := ZFf.1 (ZFe.1 h6) i j (by simp; exact (q3_.1 hq).1) (by simp; exact (q3_.1 hq').1) hij
   apply hn
   simp only [List.getElem_map]
   rw [(q3_.1 hq).2, (q3_.1 hq').2, e]
  ·intro x hx
   obtain ⟨i, hi⟩ := ZAP hx
   obtain ⟨q, hq, hk, r1, r2⟩ := hent i x hi
   exact ⟨_, ZAW hk r1 r2⟩
 refine ⟨.map ((ents.toList.map (WideElems.rg Tryz.prog 3 RR)).foldr DataW.insert []), ⟨ents, clock, hb, hfit, by omega, rfl⟩, ?_, ?_⟩
 ·unfold intKeys
  refine ((WideShapes.sorted_perm _).map _).trans ?_
  rw [hkeys, Zqi]
  exact List.Perm.of_eq rfl
 ·show ((ents.toList.map (WideElems.rg Tryz.prog 3 RR)).foldr DataW.insert []).length = _
  rw [(WideShapes.sorted_perm _).length_eq]
  simp [hsz]
theorem ZHB {w w' : World} {S : Stay} {v : Value} {l : List Int} (hrow : w'.ownsRow w.heap.size 3 1 v l.length (l.map encZ)) :
  PRel w' (fun b o => S b o ∨ (w.heap.size ≤ b ∧ b < w'.heap.size)) (.lst .sh (l.map fun n => .v (.int .i64 n))) v := by
 obtain ⟨_, ⟨rfl, hz⟩ | ⟨g, cap, cur, rfl, hg, hh, h1, h2, h3, h4⟩⟩ := hrow
 ·obtain rfl : l = [] := Zjr hz
  exact .lst .sh [] none 0 0 0 0 (fun _ _ => undef) (q7_ _) (by simp) (by simp) (by simp) (fun _ => rfl) (by simp) (by simp) (by simp)
 ·have hlt : g < w'.heap.size := (Z9R.1 hh).1
  have hcell : ∀ (i : Nat) (n : Int), l[i]? = some n → w'.cell? ⟨g, 0 + (i * 1 + 0), none⟩ = some (.int .i64 n) := by
   intro i n hn
   have hi : i < l.length := (q3_.1 hn).1
   have e : cur.toList[i]? = some (.int .i64 n) := by
    have : (cur.toList.take (l.length * 1))[i]? = some (.int .i64 n) := by rw [h4, q5_, hn]; rfl
    rw [Zio] at this
    split at this
    ·exact this
    ·simp at this
   unfold World.cell?
   rw [hh]
   simpa using e
  have key := PRel.lst (w := w') (S := fun b o => S b o ∨ (w.heap.size ≤ b ∧ b < w'.heap.size)) .sh (l.map fun n => PV.v (.int .i64 n)) (some ⟨g, 0, none⟩) cap g 0 1 (fun i _ => .int .i64 (l.getD i 0)) (by simpa using h1) (by simp) (by simp) (by simp) (by simp)
   (fun _ => ⟨rfl, by omega, fun e he => by obtain ⟨z, _, rfl⟩ := Z7n.1 he; rfl⟩)
   (fun i e j c he hj => by
    rw [q5_] at he
    obtain ⟨z, hz', rfl⟩ := q4_.1 he
    cases j with
    | succ j => simp [Z2n] at hj
    | zero =>
     simp only [Z2n, Zc7, q1_] at hj
     subst hj
     refine ⟨?_, .inr ⟨hg, hlt⟩, rfl⟩
     have : l.getD i 0 = z := by rw [Za3, hz']; rfl
     rw [this]
     exact hcell i z hz')
   (fun i e j c he hj => by
    rw [q5_] at he
    obtain ⟨z, hz', rfl⟩ := q4_.1 he
    cases j with
    | succ j => simp [Z2n] at hj
    | zero =>
     simp only [Z2n, Zc7, q1_] at hj
     subst hj
     have : l.getD i 0 = z := by rw [Za3, hz']; rfl
     rw [this]
     exact .v _ rfl)
  simpa using key
theorem ZCd {args : List AV} {B : List Row} {r : Res} (h : ZoV args B = some r) (w : World) (S : Stay) (β : Nat → Nat) (vals : Array Value) (he : Entry w S β args B vals) :
  Plain Tryz.prog 52 ∧ Calls Tryz.prog 52 vals w (ZcU w S β args B vals r) := by
 refine ⟨ZLc, ?_⟩
 unfold ZoV at h
 split at h
 case h_2 => simp at h
 rename_i f i
 split at h
 case isFalse => simp at h
 rename_i hf
 subst hf
 split at h
 case h_2 => simp at h
 rename_i j hBi
 split at h
 case h_2 => simp at h
 rename_i es hBj
 split at h
 case isFalse => simp at h
 rename_i hc
 simp only [q1_] at h
 subst h
 obtain ⟨row, hrow, hmd⟩ := ZAG.1 hBj
 obtain ⟨v, rfl⟩ : ∃ v, vals = #[v] := by
  have := he.size
  have h1 : vals.size = 1 := by simpa using this
  exact Array.size_eq_one_iff.1 h1
 have hr := he.rel 0 _ v rfl rfl
 obtain ⟨a2, rfl, ha2⟩ : ∃ a2 : Array Value, v = .func (.func 78) #[] a2 ∧ a2 = #[.pointer (some ⟨β i, 0, none⟩)] := by
  cases hr with
  | clo _ _ _ a1 a2 h1 h2 h3 h4 h5 =>
   have e1 : a1 = #[] := Array.eq_empty_of_size_eq_zero (by simpa using h1)
   obtain ⟨u, rfl⟩ := Array.size_eq_one_iff.1 (show a2.size = 1 by simpa using h2)
   have hu := h4 0 _ u rfl rfl
   subst e1
   cases hu with
   | ptr _ _ _ => exact ⟨_, rfl, rfl⟩
 subst ha2
 have hi : i < B.length := (q3_.1 hBi).1
 obtain ⟨u, hu, hur, _⟩ := he.mem.cell i _ 0 _ hBi rfl rfl
 have hu' : u = .map (some (β j)) := by cases hur with | mp _ _ => rfl
 subst hu'
 have hlt : β i < w.heap.size := he.mem.lt hi
 obtain ⟨D, hown, hperm, hsize⟩ := ZHg (he.mem.maps j row es hrow hmd) hc.1 hc.2
 have hseq : SeqGives Fence.wide 2 Tryz.prog 78 #[.pointer (some ⟨β i, 0, none⟩)] encZ (fun ss => ss.Perm (intKeys D)) (Maps.size D) w :=
  AnyZI.keys_gives (ρ := Tryz.keysA_ren) { Tryz.keysA with } Fence.wide _ trivial rfl (by omega) (β i) (β j) es.length D w hlt hu hown
 have hs2 : Maps.size D ≤ 1048576 := by rw [hsize]; exact hc.1
 have cS := AnyZI.sorted_in Tryz.sortedA Fence.wide 5 trivial trivial trivial trivial rfl (by omega) (ZN7 _) (enters_of Tryz.func77 (by kernel_rfl) rfl) 78 #[.pointer (some ⟨β i, 0, none⟩)] trivial (enters_of Tryz.func78 (by kernel_rfl) rfl) _ _ (Zip hs2 (by decide)) (by omega) _ hseq
 change CallsIn _ _ Tryz.prog 52 _ _ _ at cS
 refine ((callsIn_wide (n := 5)).1 cS).mono ?_
 rintro e w' ⟨v, ss, rfl, hS, hrow', _, hb⟩
 have hss : ss.mergeSort (fun x y => decide (x ≤ y)) = keysOf es := by
  unfold keysOf
  refine List.Perm.eq_of_pairwise (le := fun a b => a ≤ b) (fun a b _ _ h1 h2 => by omega) ?_ ?_ ?_
  ·exact (List.pairwise_mergeSort (le := fun a b : Int => decide (a ≤ b)) (fun a b c h1 h2 => by simp at *; omega) (fun a b => by simp; omega) ss).imp fun h => by simpa using h
  ·exact (List.pairwise_mergeSort (le := fun a b : Int => decide (a ≤ b)) (fun a b c h1 h2 => by simp at *; omega) (fun a b => by simp; omega) (es.map (·.1))).imp fun h => by simpa using h
  ·exact (List.mergeSort_perm _ _).trans ((hS.trans hperm).trans (List.mergeSort_perm _ _).symm)
 have hlen : ss.length = (keysOf es).length := by rw [← hss]; simp
 rw [hss, hlen] at hrow'
 exact Zil (S' := fun b o => S b o ∨ (w.heap.size ≤ b ∧ b < w'.heap.size)) he hb (fun _ _ h => h) (fun _ _ h => .inl h) (.p _ _ (ZHB hrow')) rfl
end Go.Proofs.YteoeggbihfnbfaaGreatDoor
end
section
namespace Go.Proofs.YteoeggbihfnbfaaGreatDoor
open Go Go.Abs Go.RowKit Go.Shelf Go.Lib
theorem ZBl {P : Program} {w : World} (base : Nat) (t ty e : TypeId) (i : TypeInfo) (size : Nat) (ht : P.underlying t = some (.slice e)) (hi : P.info? e = some i)
  (v : Value) (n : Nat) (xs : List Value) (hown : w.ownsRow base e size v n xs) (a : Option Addr) (c : Nat) :
  (Builtin.append_ #[t, t] ty #[v, .slice a 0 c]).run P w = .ok v w := by
 rcases hown.2 with ⟨rfl, rfl⟩ | ⟨g, cap, cur, rfl, _, _, hnc, _⟩
 ·cases a <;> simp [Builtin.append_, run_underlying ht, sizeOf, typeInfo, hi, Builtin.lenOf, Builtin.firstCells, loadCells, loadCellsFrom]
 ·cases a <;> simp [Builtin.append_, run_underlying ht, sizeOf, typeInfo, hi, Builtin.lenOf, Builtin.firstCells, loadCells, loadCellsFrom, hnc, storeCells]
theorem Zs3 {P : Program} {w : World} {ops : Array Oper} {rest : List Oper} {o : Oper} {a : Act} {Q : Exit → Act → World → Prop} (hgd : o.guard = none) (s x : Operand) (t : TypeId)
  (ho : o.op = .call { callee := .builtin .append, args := #[s, x], argTypes := #[t, t] })
  (base : Nat) (e : TypeId) (i : TypeInfo) (size : Nat) (ht : P.underlying t = some (.slice e)) (hi : P.info? e = some i)
  (v : Value) (n : Nat) (xs : List Value) (hs : a.eval s = v) (hown : w.ownsRow base e size v n xs) (ao : Option Addr) (c : Nat) (hx : a.eval x = .slice ao 0 c)
  (h : wpList P ops Q rest (a.put o.dst v) w) : wpList P ops Q (o :: rest) a w := by
 refine wpList_plain hgd fun K hK => ?_
 have hrun := ZBl (P := P) (w := w) base t o.type e i size ht hi v n xs hown ao c
 unfold Oper.wp
 simp [execOp, ho, resolve, invoke, builtin, hs, hx, hrun, Result.andThen]
 exact hK _ _ h
noncomputable def ZFj : TypeInfo := (Tryz.prog.info? 43).get (by kernel_rfl)
theorem ZB1 : Tryz.prog.info? 43 = some ZFj := by kernel_rfl
theorem ZLe : Plain Tryz.prog 62 := ⟨Tryz.f62, Tryz.func62, by kernel_rfl, by kernel_rfl⟩
set_option maxHeartbeats 1000000 in
set_option maxRecDepth 100000 in
theorem ZBr (a : Addr) (c : Nat) (w : World) : Calls Tryz.prog 62 #[.slice (some a) 0 c] w fun e w' => ∃ v', e = .returned v' ∧ w'.ownsRow w.heap.size 43 5 v' 0 [] ∧ Below w.heap.size w w' := by
 have qn : ∀ (w : World) (a : Option Addr) (n c n' c' : Nat), (binOp .eql 22 (.slice a n c) (.slice none n' c')).run Tryz.prog w = .ok (.bool a.isNone) w := fun w a n c n' c' => Lib.run_eql_slice_nil w _ _ a n c n' c' Tryz.underlying22
 go_enter Tryz.func62, Tryz.ntmps62
 go_wp2_with (at_builtin; refine Zs3 rfl _ _ 22 rfl w.heap.size 43 ZFj 5 Tryz.underlying22 ZB1 _ 0 [] rfl (World.ownsRow_made w #[] 0 (q7_ _) (Nat.zero_le _) (by simp)) (some a) c rfl ?_)
 go_wp2
 go_ret
 exact ⟨_, rfl, World.ownsRow_made w #[] 0 (q7_ _) (Nat.zero_le _) (by simp), (Below.refl _ w).alloc (q7_ _) _⟩
def pv : PV → Value
 | .v x => x
 | _ => undef
def Zdu (xs : List PV) : List Value := (xs.flatMap Z2n).map pv
theorem flat_len {n : Nat} : ∀ {xs : List PV}, (∀ e ∈ xs, (Z2n e).length = n) → (xs.flatMap Z2n).length = xs.length * n
 | [], _ => by simp
 | e :: xs, h => by
  rw [List.flatMap_cons, Za4, h e (by simp), flat_len fun x hx => h x (by simp [hx]), Z7t, Zir]
  omega
theorem flat_get {n : Nat} : ∀ {xs : List PV}, (∀ e ∈ xs, (Z2n e).length = n) → ∀ (i j : Nat) (e : PV) (c : PV), xs[i]? = some e → (Z2n e)[j]? = some c → (xs.flatMap Z2n)[i * n + j]? = some c
 | [], _, i, j, e, c, h, _ => by simp at h
 | x :: xs, hn, i, j, e, c, h, hc => by
  have hx := hn x (by simp)
  rw [List.flatMap_cons]
  cases i with
  | zero =>
   simp only [Zc7, q1_] at h
   subst h
   have hj : j < (Z2n x).length := (q3_.1 hc).1
   rw [Zh4, Nat.zero_mul, ZkD, if_pos hj]
   exact hc
  | succ i =>
   have ih := flat_get (fun y hy => hn y (Zm3 _ hy)) i j e c (by simpa using h) hc
   rw [Zh4, if_neg (by rw [hx, Zir]; omega), hx]
   rw [show (i + 1) * n + j - n = i * n + j by rw [Zir]; omega]
   exact ih
theorem ZKN {n : Nat} {xs : List PV} (h0 : 0 < n) (hn : ∀ e ∈ xs, (Z2n e).length = n) {k : Nat} {c : PV} (h : (xs.flatMap Z2n)[k]? = some c) : ∃ i j e, k = i * n + j ∧ xs[i]? = some e ∧ (Z2n e)[j]? = some c := by
 have hk := (q3_.1 h).1
 rw [flat_len hn] at hk
 have hi : k / n < xs.length := Nat.div_lt_of_lt_mul (by rw [Nat.mul_comm]; exact hk)
 have hj : k % n < n := Nat.mod_lt _ h0
 have he : xs[k / n]? = some xs[k / n] := q2_ hi
 have hl := hn xs[k / n] (ZrP hi)
 have hc : (Z2n xs[k / n])[k % n]? = some ((Z2n xs[k / n])[k % n]'(by omega)) := q2_ (by omega)
 have e : k / n * n + k % n = k := by rw [Nat.mul_comm]; exact Nat.div_add_mod k n
 have := flat_get hn _ _ _ _ he hc
 rw [e, h] at this
 exact ⟨k / n, k % n, _, e.symm, he, by rw [hc]; exact this.symm⟩
theorem ZIK {w w' : World} {S : Stay} {v : Value} {xs : List PV} {n t : Nat} (h0 : 0 < n) (hn : ∀ e ∈ xs, (Z2n e).length = n) (hv : ∀ e ∈ xs, ∀ c ∈ Z2n e, ZsJ c = true) (h : w'.ownsRow w.heap.size t n v xs.length (Zdu xs)) :
  PRel w' (fun b o => S b o ∨ (w.heap.size ≤ b ∧ b < w'.heap.size)) (.lst .sh xs) v := by
 rcases h.2 with ⟨rfl, hz⟩ | ⟨g, cap, cur, rfl, hg, hh, h1, h2, h3, h4⟩
 ·obtain rfl : xs = [] := Zjr hz
  exact .lst .sh [] none 0 0 0 0 (fun _ _ => undef) (q7_ _) (by simp) (by simp) (by simp) (fun _ => rfl) (by simp) (by simp) (by simp)
 ·have hlt : g < w'.heap.size := (Z9R.1 hh).1
  have hcell : ∀ t u, (Zdu xs)[t]? = some u → w'.cell? ⟨g, 0 + t, none⟩ = some u := by
   intro t u ht
   have := h.cells (g := g) rfl t u ht
   rwa [ZaI] at this
  refine PRel.lst (w := w') (S := fun b o => S b o ∨ (w.heap.size ≤ b ∧ b < w'.heap.size)) .sh xs (some ⟨g, 0, none⟩) cap g 0 n (fun i j => ((Zdu xs)[i * n + j]?).getD undef) (by simpa using h1) (by simp) (by simp) (by simp) (by simp) (fun _ => ⟨rfl, h0, hn⟩) ?_ ?_
  ·intro i e j c he hj
   have hf := flat_get hn i j e c he hj
   have hcv : (Zdu xs)[i * n + j]? = some (pv c) := by unfold Zdu; rw [q5_, hf]; rfl
   have hc := hv e (q8_ he) c (q8_ hj)
   refine ⟨?_, .inr ⟨hg, hlt⟩, ?_⟩
   ·rw [hcv]
    exact hcell _ _ hcv
   ·cases c <;> simp [ZsJ] at hc
    rfl
  ·intro i e j c he hj
   have hf := flat_get hn i j e c he hj
   have hcv : (Zdu xs)[i * n + j]? = some (pv c) := by unfold Zdu; rw [q5_, hf]; rfl
   have hc := hv e (q8_ he) c (q8_ hj)
   rw [hcv]
   cases c <;> simp [ZsJ] at hc
   exact .v _ hc
theorem ZD5 {args : List AV} {B : List Row} {r : Res} (h : ZBi args B = some r) (w : World) (S : Stay) (β : Nat → Nat) (vals : Array Value) (he : Entry w S β args B vals) :
  Plain Tryz.prog 62 ∧ Calls Tryz.prog 62 vals w (ZcU w S β args B vals r) := by
 refine ⟨ZLe, ?_⟩
 unfold ZBi at h
 split at h
 case h_2 => simp at h
 rename_i o xs
 split at h
 case isFalse => simp at h
 rename_i hc
 simp only [q1_] at h
 subst h
 obtain ⟨hlen, hall⟩ := hc
 simp only [Za5, q6_, beq_iff_eq] at hall
 have hn : ∀ e ∈ xs, (Z2n e).length = 5 := fun e he => (hall e he).1
 have hv : ∀ e ∈ xs, ∀ c ∈ Z2n e, ZsJ c = true := fun e he => (hall e he).2
 obtain ⟨v, rfl, hp⟩ := Z9s he
 obtain ⟨a, cap, rfl, h1, h2, h3⟩ := Zho (n := 5) hp (by unfold szOk; simp only [Za5, beq_iff_eq]; exact hn)
 have fin : ∀ {v' : Value} {w' : World}, w'.ownsRow w.heap.size 43 5 v' xs.length (Zdu xs) → Below w.heap.size w w' → ZcU w S β [.p (.lst o xs)] B #[.slice a xs.length cap] (.p (.lst .sh xs), B) (.returned v') w' := fun hrow hb =>
  Zil (S' := fun b o => S b o ∨ (w.heap.size ≤ b ∧ b < _)) he hb (fun _ _ h => h) (fun _ _ h => .inl h) (.p _ _ (ZIK (by omega) hn hv hrow)) rfl
 by_cases hx : xs = []
 ·subst hx
  cases a with
  | none =>
   obtain rfl := h2 rfl
   refine (AnyE.slices_Clone_nil Tryz.cloneA 0 0 w).mono ?_
   rintro e w' ⟨rfl, rfl⟩
   exact fin (World.ownsRow_nil _ _ _ _) (Below.refl _ _)
  | some a =>
   refine (ZBr a cap w).mono ?_
   rintro e w' ⟨v', rfl, hrow, hb⟩
   exact fin hrow hb
 ·obtain ⟨b, off, rfl, h4⟩ := h3 hx
  have key : ∀ j u, (Zdu xs)[j]? = some u → w.cell? ⟨b, off + j, none⟩ = some u ∧ u.oneCell' = true := by
   intro k u hu
   unfold Zdu at hu
   rw [q5_] at hu
   obtain ⟨c, hcc, rfl⟩ := q4_.1 hu
   obtain ⟨i, j, e, rfl, q1, q2⟩ := ZKN (by omega) hn hcc
   obtain ⟨u, p1, _, _, p4⟩ := h4 i e j c q1 q2
   have hc := hv e (q8_ q1) c (q8_ q2)
   obtain ⟨x, rfl, hsx⟩ : ∃ x, c = .v x ∧ scal x = true := by
    cases c <;> simp [ZsJ] at hc
    exact ⟨_, rfl, hc⟩
   have : u = x := by cases p4 with | v _ _ => rfl
   subst this
   refine ⟨p1, ?_⟩
   show u.oneCell' = true
   cases u <;> first | rfl | (simp [scal] at hsx)
  have := AnyE.slices_Clone Tryz.cloneA ZFj (.agg #[.int .i64 0, .int .i64 0, .int .i64 0, .int .i64 0, .string ⟨#[]⟩]) 5 48 ZB1 (by kernel_rfl) (by kernel_rfl) (by kernel_rfl) rfl (by decide) Tryz.sizeOf43 b off xs.length cap (Zdu xs) w
   (by unfold Zdu; rw [Zdr, flat_len hn]) (by unfold maxLen; omega) (by omega) (fun j u hu => (key j u hu).1) (fun u hu => by
    obtain ⟨k, hk⟩ := ZAP hu
    exact (key k u hk).2)
  refine this.mono ?_
  rintro e w' ⟨v', rfl, hrow, _, hb⟩
  exact fin hrow hb
end Go.Proofs.YteoeggbihfnbfaaGreatDoor
end
