/- What is given of the library to the evaluator does what is said of it. Condition: none. -/
import Derived.Test.YtiigbcahdaoedaaGreatDoorEvA
import Derived.KernelRfl
import Derived.Test.YtiigbcahdaoedaaGreatDoorEvD
import Derived.Test.YtiigbcahdaoedaaGreatDoorEvB
import Derived.Test.YtiigbcahdaoedaaGreatDoorShelf
import Derived.Shelf.SlicesE.Clone
import Derived.Laws.OwnMore
import Derived.WalkKit
import Derived.Lib.Walk

set_option linter.unusedSimpArgs false
set_option linter.unusedVariables false
set_option linter.defProp false
section
namespace Go.Abs
open Go
def ZCu (_ : List AV) (_ : List Row) : Option Res := none
def Zkf : PV → Bool
 | .v x => scal x
 | _ => false
def Zmy (args : List AV) (B : List Row) : Option Res :=
 match args with
 | [.p (.lst _ xs)] => if xs.length ≤ 1048576 ∧ (xs.all fun e => (Z1j e).length == 5 && (Z1j e).all Zkf) = true then some (.p (.lst .sh xs), B) else none
 | _ => none
end Go.Abs
end
section
namespace Go.Proofs.YtiigbcahdaoedaaGreatDoor
open Go Go.Abs Go.RowKit Go.Shelf Go.Lib
theorem ZCV {w : World} {S : Stay} {β : Nat → Nat} {x : PV} {B : List Row} {vals : Array Value} (he : Entry w S β [.p x] B vals) : ∃ v, vals = #[v] ∧ PRel w S x v := by
 obtain ⟨v, rfl⟩ : ∃ v, vals = #[v] := by
  have := he.size
  have h1 : vals.size = 1 := by simpa using this
  exact Array.size_eq_one_iff.1 h1
 have hr := he.rel 0 _ v rfl rfl
 exact ⟨v, rfl, by cases hr with | p _ _ h => exact h⟩
theorem ZuJ {P : Program} {w : World} (base : Nat) (t ty e : TypeId) (i : TypeInfo) (size : Nat) (ht : P.underlying t = some (.slice e)) (hi : P.info? e = some i)
  (v : Value) (n : Nat) (xs : List Value) (hown : w.ownsRow base e size v n xs) (a : Option Addr) (c : Nat) :
  (Builtin.append_ #[t, t] ty #[v, .slice a 0 c]).run P w = .ok v w := by
 rcases hown.2 with ⟨rfl, rfl⟩ | ⟨g, cap, cur, rfl, _, _, hnc, _⟩
 ·cases a <;> simp [Builtin.append_, run_underlying ht, sizeOf, typeInfo, hi, Builtin.lenOf, Builtin.firstCells, loadCells, loadCellsFrom]
 ·cases a <;> simp [Builtin.append_, run_underlying ht, sizeOf, typeInfo, hi, Builtin.lenOf, Builtin.firstCells, loadCells, loadCellsFrom, hnc, storeCells]
theorem Zmx {P : Program} {w : World} {ops : Array Oper} {rest : List Oper} {o : Oper} {a : Act} {Q : Exit → Act → World → Prop} (hgd : o.guard = none) (s x : Operand) (t : TypeId)
  (ho : o.op = .call { callee := .builtin .append, args := #[s, x], argTypes := #[t, t] })
  (base : Nat) (e : TypeId) (i : TypeInfo) (size : Nat) (ht : P.underlying t = some (.slice e)) (hi : P.info? e = some i)
  (v : Value) (n : Nat) (xs : List Value) (hs : a.eval s = v) (hown : w.ownsRow base e size v n xs) (ao : Option Addr) (c : Nat) (hx : a.eval x = .slice ao 0 c)
  (h : wpList P ops Q rest (a.put o.dst v) w) : wpList P ops Q (o :: rest) a w := by
 refine wpList_plain hgd fun K hK => ?_
 have hrun := ZuJ (P := P) (w := w) base t o.type e i size ht hi v n xs hown ao c
 unfold Oper.wp
 simp [execOp, ho, resolve, invoke, builtin, hs, hx, hrun, Result.andThen]
 exact hK _ _ h
noncomputable def Zxj : TypeInfo := (Tryz.prog.info? 104).get (by kernel_rfl)
theorem Zut : Tryz.prog.info? 104 = some Zxj := by kernel_rfl
theorem ZD5 : Plain Tryz.prog 56 := ⟨Tryz.f56, Tryz.func56, by kernel_rfl, by kernel_rfl⟩
set_option maxHeartbeats 1000000 in
set_option maxRecDepth 100000 in
theorem ZuN (a : Addr) (c : Nat) (w : World) : Calls Tryz.prog 56 #[.slice (some a) 0 c] w fun e w' => ∃ v', e = .returned v' ∧ w'.ownsRow w.heap.size 104 5 v' 0 [] ∧ Below w.heap.size w w' := by
 have qn : ∀ (w : World) (a : Option Addr) (n c n' c' : Nat), (binOp .eql 49 (.slice a n c) (.slice none n' c')).run Tryz.prog w = .ok (.bool a.isNone) w := fun w a n c n' c' => Lib.run_eql_slice_nil w _ _ a n c n' c' Tryz.underlying49
 go_enter Tryz.func56, Tryz.ntmps56
 go_wp2_with (at_builtin; refine Zmx rfl _ _ 49 rfl w.heap.size 104 Zxj 5 Tryz.underlying49 Zut _ 0 [] rfl (World.ownsRow_made w #[] 0 (Z2w _) (Nat.zero_le _) (by simp)) (some a) c rfl ?_)
 go_wp2
 go_ret
 exact ⟨_, rfl, World.ownsRow_made w #[] 0 (Z2w _) (Nat.zero_le _) (by simp), (Below.refl _ w).alloc (Z2w _) _⟩
def pv : PV → Value
 | .v x => x
 | _ => undef
def Zak (xs : List PV) : List Value := (xs.flatMap Z1j).map pv
theorem Znw {n : Nat} : ∀ {xs : List PV}, (∀ e ∈ xs, (Z1j e).length = n) → (xs.flatMap Z1j).length = xs.length * n
 | [], _ => by simp
 | e :: xs, h => by
  rw [List.flatMap_cons, ZaC, h e (by simp), Znw fun x hx => h x (by simp [hx]), Zbc, Zf3]
  omega
theorem flat_get {n : Nat} : ∀ {xs : List PV}, (∀ e ∈ xs, (Z1j e).length = n) → ∀ (i j : Nat) (e : PV) (c : PV), xs[i]? = some e → (Z1j e)[j]? = some c → (xs.flatMap Z1j)[i * n + j]? = some c
 | [], _, i, j, e, c, h, _ => by simp at h
 | x :: xs, hn, i, j, e, c, h, hc => by
  have hx := hn x (by simp)
  rw [List.flatMap_cons]
  cases i with
  | zero =>
   simp only [Z5U, q1_] at h
   subst h
   have hj : j < (Z1j x).length := (q3_.1 hc).1
   rw [ZcT, Nat.zero_mul, ZiN, if_pos hj]
   exact hc
  | succ i =>
   have ih := flat_get (fun y hy => hn y (List.mem_cons_of_mem _ hy)) i j e c (by simpa using h) hc
   rw [ZcT, if_neg (by rw [hx, Zf3]; omega), hx]
   rw [show (i + 1) * n + j - n = i * n + j by rw [Zf3]; omega]
   exact ih
theorem ZCK {n : Nat} {xs : List PV} (h0 : 0 < n) (hn : ∀ e ∈ xs, (Z1j e).length = n) {k : Nat} {c : PV} (h : (xs.flatMap Z1j)[k]? = some c) : ∃ i j e, k = i * n + j ∧ xs[i]? = some e ∧ (Z1j e)[j]? = some c := by
 have hk := (q3_.1 h).1
 rw [Znw hn] at hk
 have hi : k / n < xs.length := Nat.div_lt_of_lt_mul (by rw [Nat.mul_comm]; exact hk)
 have hj : k % n < n := Nat.mod_lt _ h0
 have he : xs[k / n]? = some xs[k / n] := q2_ hi
 have hl := hn xs[k / n] (Z8S hi)
 have hc : (Z1j xs[k / n])[k % n]? = some ((Z1j xs[k / n])[k % n]'(by omega)) := q2_ (by omega)
 have e : k / n * n + k % n = k := by rw [Nat.mul_comm]; exact Nat.div_add_mod k n
 have := flat_get hn _ _ _ _ he hc
 rw [e, h] at this
 exact ⟨k / n, k % n, _, e.symm, he, by rw [hc]; exact this.symm⟩
theorem ZBN {w w' : World} {S : Stay} {v : Value} {xs : List PV} {n t : Nat} (h0 : 0 < n) (hn : ∀ e ∈ xs, (Z1j e).length = n) (hv : ∀ e ∈ xs, ∀ c ∈ Z1j e, Zkf c = true) (h : w'.ownsRow w.heap.size t n v xs.length (Zak xs)) :
  PRel w' (fun b o => S b o ∨ (w.heap.size ≤ b ∧ b < w'.heap.size)) (.lst .sh xs) v := by
 rcases h.2 with ⟨rfl, hz⟩ | ⟨g, cap, cur, rfl, hg, hh, h1, h2, h3, h4⟩
 ·obtain rfl : xs = [] := List.eq_nil_of_length_eq_zero hz
  exact .lst .sh [] none 0 0 0 0 (fun _ _ => undef) (Z2w _) (by simp) (by simp) (by simp) (fun _ => rfl) (by simp) (by simp) (by simp)
 ·have hlt : g < w'.heap.size := (Zbb.1 hh).1
  have hcell : ∀ t u, (Zak xs)[t]? = some u → w'.cell? ⟨g, 0 + t, none⟩ = some u := by
   intro t u ht
   have := h.cells (g := g) rfl t u ht
   rwa [Z9o] at this
  refine PRel.lst (w := w') (S := fun b o => S b o ∨ (w.heap.size ≤ b ∧ b < w'.heap.size)) .sh xs (some ⟨g, 0, none⟩) cap g 0 n (fun i j => ((Zak xs)[i * n + j]?).getD undef) (by simpa using h1) (by simp) (by simp) (by simp) (by simp) (fun _ => ⟨rfl, h0, hn⟩) ?_ ?_
  ·intro i e j c he hj
   have hf := flat_get hn i j e c he hj
   have hcv : (Zak xs)[i * n + j]? = some (pv c) := by unfold Zak; rw [q7_, hf]; rfl
   have hc := hv e (q6_ he) c (q6_ hj)
   refine ⟨?_, .inr ⟨hg, hlt⟩, ?_⟩
   ·rw [hcv]
    exact hcell _ _ hcv
   ·cases c <;> simp [Zkf] at hc
    rfl
  ·intro i e j c he hj
   have hf := flat_get hn i j e c he hj
   have hcv : (Zak xs)[i * n + j]? = some (pv c) := by unfold Zak; rw [q7_, hf]; rfl
   have hc := hv e (q6_ he) c (q6_ hj)
   rw [hcv]
   cases c <;> simp [Zkf] at hc
   exact .v _ hc
theorem ZvN {args : List AV} {B : List Row} {r : Res} (h : Zmy args B = some r) (w : World) (S : Stay) (β : Nat → Nat) (vals : Array Value) (he : Entry w S β args B vals) :
  Plain Tryz.prog 56 ∧ Calls Tryz.prog 56 vals w (Za0 w S β args B vals r) := by
 refine ⟨ZD5, ?_⟩
 unfold Zmy at h
 split at h
 case h_2 => simp at h
 rename_i o xs
 split at h
 case isFalse => simp at h
 rename_i hc
 simp only [q1_] at h
 subst h
 obtain ⟨hlen, hall⟩ := hc
 simp only [Z5a, q9_, beq_iff_eq] at hall
 have hn : ∀ e ∈ xs, (Z1j e).length = 5 := fun e he => (hall e he).1
 have hv : ∀ e ∈ xs, ∀ c ∈ Z1j e, Zkf c = true := fun e he => (hall e he).2
 obtain ⟨v, rfl, hp⟩ := ZCV he
 obtain ⟨a, cap, rfl, h1, h2, h3⟩ := ZfO (n := 5) hp (by unfold szOk; simp only [Z5a, beq_iff_eq]; exact hn)
 have fin : ∀ {v' : Value} {w' : World}, w'.ownsRow w.heap.size 104 5 v' xs.length (Zak xs) → Below w.heap.size w w' → Za0 w S β [.p (.lst o xs)] B #[.slice a xs.length cap] (.p (.lst .sh xs), B) (.returned v') w' := fun hrow hb =>
  ZpI (S' := fun b o => S b o ∨ (w.heap.size ≤ b ∧ b < _)) he hb (fun _ _ h => h) (fun _ _ h => .inl h) (.p _ _ (ZBN (by omega) hn hv hrow)) rfl
 by_cases hx : xs = []
 ·subst hx
  cases a with
  | none =>
   obtain rfl := h2 rfl
   refine (AnyE.slices_Clone_nil Tryz.cloneA 0 0 w).mono ?_
   rintro e w' ⟨rfl, rfl⟩
   exact fin (World.ownsRow_nil _ _ _ _) (Below.refl _ _)
  | some a =>
   refine (ZuN a cap w).mono ?_
   rintro e w' ⟨v', rfl, hrow, hb⟩
   exact fin hrow hb
 ·obtain ⟨b, off, rfl, h4⟩ := h3 hx
  have key : ∀ j u, (Zak xs)[j]? = some u → w.cell? ⟨b, off + j, none⟩ = some u ∧ u.oneCell' = true := by
   intro k u hu
   unfold Zak at hu
   rw [q7_] at hu
   obtain ⟨c, hcc, rfl⟩ := q4_.1 hu
   obtain ⟨i, j, e, rfl, q1, q2⟩ := ZCK (by omega) hn hcc
   obtain ⟨u, p1, _, _, p4⟩ := h4 i e j c q1 q2
   have hc := hv e (q6_ q1) c (q6_ q2)
   obtain ⟨x, rfl, hsx⟩ : ∃ x, c = .v x ∧ scal x = true := by
    cases c <;> simp [Zkf] at hc
    exact ⟨_, rfl, hc⟩
   have : u = x := by cases p4 with | v _ _ => rfl
   subst this
   refine ⟨p1, ?_⟩
   show u.oneCell' = true
   cases u <;> first | rfl | (simp [scal] at hsx)
  have := AnyE.slices_Clone Tryz.cloneA Zxj (.agg #[.int .i64 0, .int .i64 0, .int .i64 0, .int .i64 0, .string ⟨#[]⟩]) 5 48 Zut (by kernel_rfl) (by kernel_rfl) (by kernel_rfl) rfl (by decide) Tryz.sizeOf104 b off xs.length cap (Zak xs) w
   (by unfold Zak; rw [q8_, Znw hn]) (by unfold maxLen; omega) (by omega) (fun j u hu => (key j u hu).1) (fun u hu => by
    obtain ⟨k, hk⟩ := Zxg hu
    exact (key k u hk).2)
  refine this.mono ?_
  rintro e w' ⟨v', rfl, hrow, _, hb⟩
  exact fin hrow hb
end Go.Proofs.YtiigbcahdaoedaaGreatDoor
end
