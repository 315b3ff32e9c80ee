/- What is given of the library to the evaluator does what is said of it. Condition: the tables lie as they are laid. -/
import Derived.Test.YtadodmjdkphddaaDoorEvD
import Derived.Test.YtadodmjdkphddaaDoorWalk

section
set_option linter.unusedSimpArgs false
set_option linter.unusedVariables false
namespace Go.Proofs.YtadodmjdkphddaaDoor
open Go Go.Abs Go.RowKit Go.Proofs.Norm
theorem mixed : Tryd.prog.follows .mixedOrders = true := by kernel_rfl
theorem size_mk (l : List UInt8) : (⟨l.toArray⟩ : ByteArray).size = l.length := by
 show l.toArray.size = _
 simp
theorem ZgY {l : List UInt8} {j : Nat} {x : UInt8} (h : l[j]? = some x) : (⟨l.toArray⟩ : ByteArray).get! j = x := by
 show l.toArray[j]! = x
 have hj := (List.getElem?_eq_some_iff.1 h)
 obtain ⟨h1, h2⟩ := hj
 rw [getElem!_pos l.toArray j (by simpa using h1)]
 simpa using h2
theorem Zqc {w : World} {S : Stay} {β : Nat → Nat} {n : Nat} (a b : Value) (ha : scal a = true) (hb : scal b = true) : ARel w S β n (.p (.tup [.v a, .v b])) (.tuple #[a, b]) := by
 refine .p _ _ (.tup _ _ rfl (by simp [Z59]) ?_)
 intro i c v hc hv
 match i, hc, hv with
 | 0, hc, hv => simp at hc hv; subst hc hv; exact .v _ ha
 | 1, hc, hv => simp at hc hv; subst hc hv; exact .v _ hb
 | i + 2, hc, hv => simp at hc
theorem Z5R {w : World} {S : Stay} {β : Nat → Nat} {x : PV} {B : List Row} {vals : Array Value} (he : Entry w S β [.p x] B vals) : ∃ v, vals = #[v] ∧ PRel w S x v := by
 obtain ⟨v, rfl⟩ : ∃ v, vals = #[v] := by
  have := he.size
  have h1 : vals.size = 1 := by simpa using this
  exact Array.size_eq_one_iff.1 h1
 have hr := he.rel 0 _ v rfl rfl
 exact ⟨v, rfl, by cases hr with | p _ _ h => exact h⟩
theorem Zr1 : Plain Tryd.prog 53 := ⟨Tryd.f53, Tryd.func53, by kernel_rfl, by kernel_rfl⟩
theorem Zr2 : Plain Tryd.prog 68 := ⟨Tryd.f68, Tryd.func68, by kernel_rfl, by kernel_rfl⟩
theorem Zr3 : Plain Tryd.prog 72 := ⟨Tryd.f72, Tryd.func72, by kernel_rfl, by kernel_rfl⟩
theorem Zld {args : List AV} {B : List Row} {r : Res} (h : Zgh args B = some r) (w : World) (S : Stay) (β : Nat → Nat) (vals : Array Value) (hI : Tabs 0 1 w S) (he : Entry w S β args B vals) :
  Plain Tryd.prog 53 ∧ Calls Tryd.prog 53 vals w (Zal w S β args B vals r) := by
 refine ⟨Zr1, ?_⟩
 unfold Zgh at h
 split at h
 ·rename_i a1 b1 o xs
  split at h
  ·simp at h
  ·rename_i hne
   obtain ⟨l, hl, rfl⟩ := Option.map_eq_some_iff.1 h
   have hxs := Zgy hl
   subst hxs
   obtain ⟨v, rfl, hp⟩ := Z5R he
   obtain ⟨a, cap, rfl, hcap, hc⟩ := Zla hp
   have hln : l ≠ [] := by rintro rfl; exact hne rfl
   obtain ⟨b, off, rfl, hcell⟩ := hc hln
   have := Any7.utf8_DecodeRune Tryd.lays32 ⟨l.toArray⟩ b off cap w hI.1 (by
    intro j hj
    rw [size_mk] at hj
    have hx : l[j]? = some l[j] := by simp [hj]
    rw [ZgY hx]
    exact (hcell j _ hx).1)
   rw [size_mk] at this
   refine this.mono ?_
   rintro e w' ⟨rfl, hb⟩
   exact ZeT (S' := S) he hb (fun _ _ h => .inl h) (fun _ _ h => h) (Zqc _ _ rfl rfl) rfl
 ·simp at h
theorem Zlq {p : PV} {r : R2} (h : ZkO p = some r) : p = encR r := by
 unfold ZkO at h
 split at h
 ·cases h; rfl
 ·simp at h
theorem Zcy : ∀ {xs : List PV} {rs : List R2}, Z9M xs = some rs → xs = rs.map encR
 | [], rs, h => by simp [Z9M] at h; subst h; rfl
 | x :: r, rs, h => by
  simp only [Z9M] at h
  split at h
  ·rename_i a b ha hb
   cases h
   rw [Zlq ha, Zcy hb]
   rfl
  ·simp at h
theorem ZkQ {w : World} {S : Stay} {o : Abs.Own} {rs : List R2} {v : Value} (hS : ∀ b o, S b o → b < w.heap.size) (h : PRel w S (.lst o (rs.map encR)) v) : Tryd.Lies w.heap.size w v rs := by
 obtain ⟨a, cap, rfl, h1, h2, h3⟩ := Zbg (n := 2) h (by
  unfold szOk
  simp [List.all_eq_true, encR, Z1L])
 refine ⟨a, cap, by simp, ?_⟩
 by_cases hn : rs = []
 ·exact .inl hn
 obtain ⟨b, off, rfl, h4⟩ := h3 (by simpa using hn)
 have key : ∀ i x, rs[i]? = some x → (w.cell? ⟨b, off + i * 2, none⟩ = some (.int .i64 x.1) ∧ w.cell? ⟨b, off + i * 2 + 1, none⟩ = some (.int .i64 x.2)) ∧ S b (off + (i * 2 + 0)) := by
  intro i x hx
  have hi : (rs.map encR)[i]? = some (encR x) := by rw [List.getElem?_map, hx]; rfl
  obtain ⟨u, q1, q2, _, q4⟩ := h4 i _ 0 (.v (.int .i64 x.1)) hi rfl
  obtain ⟨u', p1, p2, _, p4⟩ := h4 i _ 1 (.v (.int .i64 x.2)) hi rfl
  have e1 : u = .int .i64 x.1 := by cases q4 with | v _ _ => rfl
  have e2 : u' = .int .i64 x.2 := by cases p4 with | v _ _ => rfl
  subst e1 e2
  exact ⟨⟨q1, by rwa [show off + (i * 2 + 1) = off + i * 2 + 1 by omega] at p1⟩, q2⟩
 refine .inr ⟨b, off, rfl, ?_, fun i x hx => (key i x hx).1⟩
 cases rs with
 | nil => exact absurd rfl hn
 | cons x r => exact hS _ _ (key 0 x rfl).2
theorem ZiM : ∀ (l : List R2) (i : Nat) (x : R2), l[i]? = some x → (Tryd.flat l)[i * 2]? = some (.int .i64 x.1) ∧ (Tryd.flat l)[i * 2 + 1]? = some (.int .i64 x.2) := by
 intro l
 induction l with
 | nil => intro i x h; simp at h
 | cons y r ih =>
  intro i x h
  cases i with
  | zero => simp at h; subst h; exact ⟨rfl, rfl⟩
  | succ i =>
   have := ih i x (by simpa using h)
   rw [show (i + 1) * 2 = i * 2 + 2 by omega]
   exact this
theorem Zm1 {w w' : World} {S : Stay} {v : Value} {l : List R2} (h : w'.ownsRow w.heap.size 39 2 v l.length (Tryd.flat l)) :
  PRel w' (fun b o => S b o ∨ (w.heap.size ≤ b ∧ b < w'.heap.size)) (.lst .sh (l.map encR)) v := by
 rcases h.2 with ⟨rfl, hz⟩ | ⟨g, cap, cur, rfl, hg, hh, h1, h2, h3, h4⟩
 ·obtain rfl : l = [] := List.eq_nil_of_length_eq_zero hz
  exact .lst .sh [] none 0 0 0 0 (fun _ _ => undef) (Nat.le_refl _) (by simp) (by simp) (by simp) (fun _ => rfl) (by simp) (by simp) (by simp)
 ·have hlt : g < w'.heap.size := (Array.getElem?_eq_some_iff.1 hh).1
  have hcell : ∀ t u, (Tryd.flat l)[t]? = some u → w'.cell? ⟨g, 0 + t, none⟩ = some u := by
   intro t u ht
   have := h.cells (g := g) rfl t u ht
   rwa [Z7d] at this
  have key := PRel.lst (w := w') (S := fun b o => S b o ∨ (w.heap.size ≤ b ∧ b < w'.heap.size)) .sh (l.map encR) (some ⟨g, 0, none⟩) cap g 0 2 (fun i j => ((Tryd.flat l)[i * 2 + j]?).getD undef) (by simpa using h1) (by simp) (by simp) (by simp) (by simp)
   (fun _ => ⟨rfl, by omega, fun e he => by obtain ⟨z, _, rfl⟩ := List.mem_map.1 he; rfl⟩)
   (fun i e j c he hj => by
    rw [List.getElem?_map] at he
    obtain ⟨x, hx, rfl⟩ := Option.map_eq_some_iff.1 he
    obtain ⟨q1, q2⟩ := ZiM l i x hx
    match j, hj with
    | 0, hj =>
     simp [encR, Z1L] at hj
     subst hj
     refine ⟨?_, .inr ⟨hg, hlt⟩, rfl⟩
     rw [Nat.add_zero, q1]
     exact hcell _ _ q1
    | 1, hj =>
     simp [encR, Z1L] at hj
     subst hj
     refine ⟨?_, .inr ⟨hg, hlt⟩, rfl⟩
     rw [q2]
     exact hcell _ _ q2
    | j + 2, hj => simp [encR, Z1L] at hj)
   (fun i e j c he hj => by
    rw [List.getElem?_map] at he
    obtain ⟨x, hx, rfl⟩ := Option.map_eq_some_iff.1 he
    obtain ⟨q1, q2⟩ := ZiM l i x hx
    match j, hj with
    | 0, hj =>
     simp [encR, Z1L] at hj
     subst hj
     rw [Nat.add_zero, q1]
     exact .v _ rfl
    | 1, hj =>
     simp [encR, Z1L] at hj
     subst hj
     rw [q2]
     exact .v _ rfl
    | j + 2, hj => simp [encR, Z1L] at hj)
  simpa using key
theorem Zlk {args : List AV} {B : List Row} {r : Res} (h : Zeg args B = some r) (w : World) (S : Stay) (β : Nat → Nat) (vals : Array Value) (he : Entry w S β args B vals) :
  Plain Tryd.prog 68 ∧ Calls Tryd.prog 68 vals w (Zal w S β args B vals r) := by
 refine ⟨Zr2, ?_⟩
 unfold Zeg at h
 split at h
 case h_2 => simp at h
 rename_i a1 b1 o xs
 split at h
 case h_2 => simp at h
 rename_i rs hrs
 split at h
 case isFalse => simp at h
 rename_i hc
 cases h
 have hxs := Zcy hrs
 subst hxs
 obtain ⟨v, rfl, hp⟩ := Z5R he
 have hl := ZkQ he.mem.stay hp
 obtain ⟨a, cap, rfl, _⟩ := id hl
 refine (Tryd.normal_calls rs a cap w hc.2 hc.1 (fun W0 Bs h1 h2 h3 => callsIn_wide.1 (Tryd.sortedFunc_in Fence.wide 5 trivial trivial trivial trivial trivial rfl (Nat.le_refl _) Bs a cap rs (by omega) W0 h1 h2 h3)) hl).mono ?_
 rintro e w' ⟨v, rfl, hown, hb⟩
 exact ZeT (S' := fun b o => S b o ∨ (w.heap.size ≤ b ∧ b < w'.heap.size)) he hb (fun _ _ h => h) (fun _ _ h => .inl h) (.p _ _ (Zm1 hown)) rfl
theorem ZgE : ∀ {xs : List PV} {ls : List (List R2)}, Ze4 xs = some ls → xs.length = ls.length ∧ ∀ (i : Nat) (l : List R2), ls[i]? = some l → ∃ o : Abs.Own, xs[i]? = some (PV.lst o (l.map encR))
 | [], ls, h => by simp [Ze4] at h; subst h; simp
 | x :: r, ls, h => by
  unfold Ze4 at h
  split at h
  ·rename_i o ys b hb
   obtain ⟨l, hl, rfl⟩ := Option.map_eq_some_iff.1 h
   obtain ⟨q1, q2⟩ := ZgE hb
   refine ⟨by simp [q1], fun i m hm => ?_⟩
   cases i with
   | zero =>
    simp at hm
    subst hm
    exact ⟨o, by rw [Zcy hl]; rfl⟩
   | succ i => simpa using q2 i m (by simpa using hm)
  ·simp at h
theorem Zlc {args : List AV} {B : List Row} {r : Res} (h : Zef args B = some r) (w : World) (S : Stay) (β : Nat → Nat) (vals : Array Value) (he : Entry w S β args B vals) :
  Plain Tryd.prog 72 ∧ Calls Tryd.prog 72 vals w (Zal w S β args B vals r) := by
 refine ⟨Zr3, ?_⟩
 unfold Zef at h
 split at h
 case h_2 => simp at h
 rename_i a1 b1 o xs
 split at h
 case h_2 => simp at h
 rename_i ls hls
 split at h
 case isFalse => simp at h
 rename_i hc
 cases h
 obtain ⟨q1, q2⟩ := ZgE hls
 obtain ⟨v, rfl, hp⟩ := Z5R he
 have hsz : szOk 1 xs = true := by
  unfold szOk
  rw [List.all_eq_true]
  intro e he
  obtain ⟨i, hi⟩ := List.mem_iff_getElem?.1 he
  have hlt : i < ls.length := by have := (List.getElem?_eq_some_iff.1 hi).1; omega
  obtain ⟨o, ho⟩ := q2 i _ (List.getElem?_eq_getElem hlt)
  rw [hi] at ho
  cases ho
  rfl
 obtain ⟨a, cap, rfl, _, _, h3⟩ := Zbg (n := 1) hp hsz
 have hL : Tryd.Lists w.heap.size w (.slice a ls.length cap) ls := by
  refine ⟨a, cap, rfl, ?_⟩
  by_cases hn : ls = []
  ·exact .inl hn
  obtain ⟨b, off, rfl, h4⟩ := h3 (by rintro rfl; apply hn; exact List.eq_nil_of_length_eq_zero q1.symm)
  have key : ∀ i l, ls[i]? = some l → (∃ v, w.cell? ⟨b, off + i, none⟩ = some v ∧ Tryd.Lies w.heap.size w v l) ∧ S b (off + (i * 1 + 0)) := by
   intro i l hl
   obtain ⟨o, ho⟩ := q2 i l hl
   obtain ⟨u, p1, p2, _, p4⟩ := h4 i _ 0 _ ho rfl
   rw [Nat.mul_one, Nat.add_zero] at p1
   exact ⟨⟨u, p1, ZkQ he.mem.stay p4⟩, p2⟩
  refine .inr ⟨b, off, rfl, ?_, fun i l hl => (key i l hl).1⟩
  cases ls with
  | nil => exact absurd rfl hn
  | cons x r => exact he.mem.stay _ _ (key 0 x rfl).2
 rw [q1] at he ⊢
 refine (Tryd.concat_calls ls a cap w hc.2 hc.1 hL).mono ?_
 rintro e w' ⟨v, rfl, hown, hb⟩
 exact ZeT (S' := fun b o => S b o ∨ (w.heap.size ≤ b ∧ b < w'.heap.size)) he hb (fun _ _ h => h) (fun _ _ h => .inl h) (.p _ _ (Zm1 hown)) rfl
end Go.Proofs.YtadodmjdkphddaaDoor
end
