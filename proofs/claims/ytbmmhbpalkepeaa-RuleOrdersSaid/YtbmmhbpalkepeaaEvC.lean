/- The evaluator: operations in a row, drawn orders, loops. No condition. -/
import Derived.Test.YtbmmhbpalkepeaaEvB
import Derived.Scope

set_option linter.unusedSimpArgs false
set_option linter.unusedVariables false
set_option linter.defProp false
section
namespace Go.Abs
open Go
def wk (H : Hints) (f : FuncId) (o : Oper) : List Operand :=
 match o.op with
 | .move x | .assign x | .extract x _ => if Z3f H f o.dst then [x] else []
 | .box _ x => [x]
 | .store _ _ x => [x]
 | .mapUpdate _ _ _ x => [x]
 | .insert _ _ _ x => [x]
 | .convert s d x => match Nat.beq s d with | true => [x] | false => []
 | .call c =>
  match c.callee with
  | .builtin .append => match c.args.toList with
   | [x, _] => [x]
   | _ => []
  | .value (.func g) => if H.raw g then c.args.toList else []
  | _ => []
 | _ => []
section
variable (P : Program) (H : Hints) (f : FuncId) (G : GF)
noncomputable def Fop (o : Oper) (sl : Sl) (B : List Row) : Option (AV × List Row) := stepOp P H f G o sl B fun v _ B => some (v, B)
theorem Z1M {α β γ : Type} (x : Option α) (k : α → Option β) (k' : β → Option γ) : ob (ob x k) k' = ob x fun a => ob (k a) k' := by cases x <;> rfl
theorem Z1b {α β : Type} (a : α) (k : α → Option β) : ob (some a) k = k a := rfl
theorem Z3k {α β : Type} (k : α → Option β) : ob (none : Option α) k = none := rfl
theorem Zh1 {α β : Type} (c : Prop) [Decidable c] (x y : Option α) (k : α → Option β) : ob (if c then x else y) k = if c then ob x k else ob y k := by split <;> rfl
theorem Zmw {α β : Type} (c : Bool) (x y : Option α) (k : α → Option β) : ob (br c x y) k = br c (ob x k) (ob y k) := by cases c <;> rfl
theorem Zm3 {α β : Type} (x : AV) (j : Bool → Option α) (k : α → Option β) : ob (asB x j) k = asB x fun b => ob (j b) k := by
 unfold asB hi
 split <;> rfl
theorem Zjg (x : AV) (B : List Row) (j : AV → List Row → Option Res) (k : Res → Option Res) : ob (bx x B j) k = bx x B fun v B => ob (j v B) k := by
 unfold bx; split <;> rfl
theorem Zmx {α : Type} (P : Program) (t : TypeId) (B : List Row) (j : AV → List Row → Option Res) (k : Res → Option Res) : ob (bz P t B j) k = bz P t B fun v B => ob (j v B) k := by
 unfold bz; rw [Z1M]; congr; funext z; exact Zjg z B j k
theorem Zm4 (n : Nat) (a x : AV) (B : List Row) (j : List Row → Option Res) (k : Res → Option Res) : ob (stN n a x B j) k = stN n a x B fun B => ob (j B) k := by
 unfold stN
 split
 ·rw [Z1M]
  congr
  funext row
  simp only
  split <;> rfl
 ·rfl
theorem ZgZ {β γ : Type} (x : AV) (j : Int → Option β) (k : β → Option γ) : ob (asK x j) k = asK x fun n => ob (j n) k := by
 unfold asK
 split <;> rfl
theorem ZdO (P : Program) (t : TypeId) (a b x : AV) (B : List Row) (j : List Row → Option Res) (k : Res → Option Res) : ob (xupd P t a b x B j) k = xupd P t a b x B fun B => ob (j B) k := by
 unfold xupd
 rw [Z1M]; congr; funext e
 rw [Z1M]; congr; funext q
 rw [ZgZ]; congr; funext n
 rw [Z1M]; congr; funext y
 split <;> rfl
theorem Zk9 (P : Program) (t : TypeId) (a b : AV) (B : List Row) (j : List Row → Option Res) (k : Res → Option Res) : ob (xdel P t a b B j) k = xdel P t a b B fun B => ob (j B) k := by
 unfold xdel
 rw [Z1M]; congr; funext e
 rw [Z1M]; congr; funext q
 rw [ZgZ]
theorem Zi0 (P : Program) (t : TypeId) (B : List Row) (j : AV → List Row → Option Res) (k : Res → Option Res) : ob (xmake P t B j) k = xmake P t B fun v B => ob (j v B) k := by
 unfold xmake
 rw [Z1M]
theorem ZhZ (x : AV) (B : List Row) (j : AV → List Row → Option Res) (k : Res → Option Res) : ob (ldOwn x B j) k = ldOwn x B fun v B => ob (j v B) k := by
 unfold ldOwn
 split
 ·rw [Z1M]; congr; funext row; rw [Zh1, Z1M]; rfl
 ·rfl
theorem Z86 (raw : Bool) (g : FuncId) (args : List AV) (B : List Row) (j : AV → List Row → Option Res) (k : Res → Option Res) : ob (callS raw G g args B j) k = callS raw G g args B fun v B => ob (j v B) k := by
 unfold callS
 simp only
 split
 ·rfl
 ·rw [Z1M]; congr; funext r; split <;> rfl
theorem Zh0 {α β : Type} (c : Bool) (x : Option α) (k : α → Option β) : ob (grd c x) k = grd c (ob x k) := by unfold grd hi; cases c <;> rfl
theorem ZhX (near raw : Bool) (g : FuncId) (args : List AV) (B : List Row) (j : AV → List Row → Option Res) (k : Res → Option Res) : ob (callQ near raw G g args B j) k = callQ near raw G g args B fun v B => ob (j v B) k := by
 cases near with
 | false => exact Z86 G _ _ _ _ _ _
 | true =>
  show ob (Z4F raw G g args B j) k = Z4F raw G g args B fun v B => ob (j v B) k
  unfold Z4F
  rw [Zh0, Z86]
  congr
  funext v B'
  rw [Zh0]
theorem ZhY (x : AV) (args : List AV) (B : List Row) (j : AV → List Row → Option Res) (k : Res → Option Res) : ob (callV H G x args B j) k = callV H G x args B fun v B => ob (j v B) k := by
 unfold callV
 split
 ·split
  ·rfl
  ·exact Z86 G _ _ _ _ _ _
 ·rfl
theorem Z9I (o : Oper) (sl : Sl) (B : List Row) (K : AV → Sl → List Row → Option Res) :
  stepOp P H f G o sl B K = ob (Fop P H f G o sl B) fun q => K q.1 (weakL sl (wk H f o)) q.2 := by
 unfold Fop stepOp wk
 rcases o with ⟨dst, op, ty, pos, after, guard⟩
 cases op with
 | makeFunc fn a b => cases fn <;> rfl
 | binOp op t x y yt =>
  cases y with
  | const c => simp only; split <;> simp only [Z1M, Z1b, weakL]
  | _ => simp only [Z1M, Z1b, weakL]
 | call c =>
  rcases c with ⟨cal, args, ats⟩
  cases cal with
  | builtin b =>
   cases b with
   | len =>
    simp only
    split
    ·split <;> simp only [Z1M, Z1b, weakL]
    ·rfl
   | delete =>
    simp only
    split
    ·simp only [Zk9, Z1b, weakL]
    ·rfl
   | append =>
    simp only
    split
    ·rename_i h1 h2
     simp only [h1]
     split <;> simp only [Z1M, Z1b, Z3k, weakL]
    ·rfl
   | max => simp only [Z1M, Z1b, weakL]
   | min => simp only [Z1M, Z1b, weakL]
   | _ => rfl
  | value x =>
   cases x with
   | func g =>
    simp only
    split
    ·rfl
    ·rw [ZhX]
     simp only [Z1b]
     split <;> rfl
   | _ =>
    simp only
    rw [ZhY]
    rfl
  | invoke r m => rfl
 | makeMap t r =>
  cases r with
  | none => simp only [Zi0, Z1b, weakL]
  | some r => rfl
 | mapUpdate t m k x => simp only [ZdO, Z1b, weakL]
 | insert t m k x => simp only [ZdO, Z1b, weakL]
 | move x => simp only; split <;> rfl
 | assign x => simp only; split <;> rfl
 | extract x i =>
  simp only [Z1M]
  congr
  funext v
  split <;> rfl
 | load t a =>
  simp only
  split
  ·simp only [Z1M, Zh1, Z3k, ZhZ, Z1b, weakL]
  ·simp only [Z1M, Z1b, weakL]
 | pick c a b => simp only [Zm3, Zmw, Z1b, weakL]
 | store t a x => simp only [Z1M, Zm4, Z1b, weakL]
 | box t x => simp only [Zjg, Z1b, weakL]
 | convert s d x => simp only; generalize Nat.beq s d = q; cases q <;> simp only [Z1M, Z1b, weakL]
 | alloc t => simp only [Zmx (α := Unit), Z1b, weakL]
 | slice t x lo hi mx => simp only; repeat' split <;> simp only [Z1M, Z1b, Z3k, weakL]
 | field s x fd => simp only; split <;> simp only [Z1M, Z1b, Z3k, weakL]
 | indexAddr t x i => simp only; repeat' split <;> simp only [Z1M, Z1b, Z3k, weakL]
 | _ => first | rfl | simp only [Z1M, Z1b, weakL]
def Eqv (sl sl' : Sl) : Prop := ∀ t, get sl t = get sl' t
theorem Eqv.refl (sl : Sl) : Eqv sl sl := fun _ => rfl
theorem Eqv.symm {sl sl' : Sl} (h : Eqv sl sl') : Eqv sl' sl := fun t => (h t).symm
theorem Eqv.trans {sl sl' sl2 : Sl} (h : Eqv sl sl') (k : Eqv sl' sl2) : Eqv sl sl2 := fun t => (h t).trans (k t)
theorem Eqv.ev {sl sl' : Sl} (h : Eqv sl sl') (x : Operand) : ev sl x = ev sl' x := by
 cases x with
 | tmp t => exact h t
 | const v =>
  cases v with
  | slice a n m => cases a with
   | none => cases n <;> cases m <;> rfl
   | some _ => rfl
  | _ => rfl
 | global g => rfl
 | func g => rfl
theorem Eqv.put {sl sl' : Sl} (h : Eqv sl sl') (d : Option Tmp) (v : AV) : Eqv (Go.Abs.put sl d v) (Go.Abs.put sl' d v) := by
 intro t
 cases d with
 | none => exact h t
 | some d => show get ((d, v) :: sl) t = get ((d, v) :: sl') t; rw [Z10, Z10, h t]
theorem Eqv.weak {sl sl' : Sl} (h : Eqv sl sl') (x : Operand) : Eqv (Go.Abs.weak sl x) (Go.Abs.weak sl' x) := by
 intro t
 cases x with
 | tmp u => show get ((u, shr (get sl u)) :: sl) t = get ((u, shr (get sl' u)) :: sl') t; rw [Z10, Z10, h t, h u]
 | _ => exact h t
theorem Eqv.weakL : ∀ (l : List Operand) {sl sl' : Sl}, Eqv sl sl' → Eqv (Go.Abs.weakL sl l) (Go.Abs.weakL sl' l)
 | [], _, _, h => h
 | x :: r, _, _, h => Eqv.weakL r (h.weak x)
theorem ZcQ {x y : AV} (h : x = y) {a b : List AV} (h' : a = b) {G : GF} {B : List Row} {k : AV → List Row → Option Res} : callV H G x a B k = callV H G y b B k := by rw [h, h']
theorem Z2A (o : Oper) (sl sl' : Sl) (B : List Row) (h : ∀ y, y ∈ o.op.operands → ev sl y = ev sl' y) : Fop P H f G o sl B = Fop P H f G o sl' B := by
 have evsE : ∀ (xs : Array Operand), (∀ y, y ∈ xs → ev sl y = ev sl' y) → evs sl xs = evs sl' xs := by
  intro xs hx
  unfold evs
  exact Z78 fun y hy => hx y (by simpa using hy)
 have evpE : ∀ (ps : Array (Nat × Operand)), (∀ y, y ∈ (ps.toList.map (·.2)).toArray → ev sl y = ev sl' y) → (ps.toList.map fun q => (q.1, ev sl q.2)) = ps.toList.map fun q => (q.1, ev sl' q.2) := by
  intro ps hx
  refine Z78 fun q hq => ?_
  rw [hx q.2 (by simp only [List.mem_toArray]; exact Z1B.2 ⟨q, hq, rfl⟩)]
 have evoE : ∀ (x : Option Operand), (∀ y, y ∈ x.toArray → ev sl y = ev sl' y) → evo sl x = evo sl' x := by
  intro x hx
  cases x with
  | none => rfl
  | some y => show some _ = some _; rw [hx y (by simp)]
 rcases o with ⟨dst, op, ty, pos, after, guard⟩
 unfold Fop stepOp
 cases op <;> simp only [Op.operands] at h <;> simp only []
 case move x => rw [h x (by simp)]
 case assign x => rw [h x (by simp)]
 case pick c a b => rw [h c (by simp), h a (by simp), h b (by simp)]
 case box t x => rw [h x (by simp)]
 case build t ps => rw [evpE ps h]
 case buildSlice t n ps => rw [evpE ps h]
 case load t x => rw [h x (by simp)]
 case store t x y => rw [h x (by simp), h y (by simp)]
 case nilCheck x => rw [h x (by simp)]
 case binOp op t x y yt => rw [h x (by simp), h y (by simp)]
 case unOp op t x => rw [h x (by simp)]
 case convert s d x => rw [h x (by simp)]
 case makeFunc fn a b =>
  cases fn with
  | func g => simp only; rw [evsE a fun y hy => h y (by simp [hy]), evsE b fun y hy => h y (by simp [hy])]
  | _ => rfl
 case slice t x lo hi mx =>
  rw [h x (by simp), evoE lo fun y hy => h y (by simp at hy; simp [hy]), evoE hi fun y hy => h y (by simp at hy; simp [hy]), evoE mx fun y hy => h y (by simp at hy; simp [hy])]
 case fieldAddr s x fd => rw [h x (by simp)]
 case field s x fd => rw [h x (by simp)]
 case indexAddr t x i => rw [h x (by simp), h i (by simp)]
 case extract x i => rw [h x (by simp)]
 case index t x i => rw [h x (by simp), h i (by simp)]
 case makeMap t r => cases r <;> rfl
 case lookup t x i c => rw [h x (by simp), h i (by simp)]
 case mapUpdate t m k x => rw [h m (by simp), h k (by simp), h x (by simp)]
 case insert t m k x => rw [h m (by simp), h k (by simp), h x (by simp)]
 case call c =>
  rcases c with ⟨cal, args, ats⟩
  simp only [Call.operands] at h
  have hargs : evs sl args = evs sl' args := evsE args fun y hy => h y (by simp [hy])
  cases cal with
  | builtin b =>
   cases b with
   | len =>
    simp only
    split
    ·rename_i x t h1 h2
     have hx : x ∈ args := by rw [Z32 h1]; simp
     rw [h x (by simp [hx])]
    ·rfl
   | append =>
    simp only
    split
    ·rename_i x y t t' h1 h2
     have hx : x ∈ args := by rw [Z33 h1]; simp
     have hy : y ∈ args := by rw [Z33 h1]; simp
     rw [h x (by simp [hx]), h y (by simp [hy])]
    ·rfl
   | delete =>
    simp only
    split
    ·rename_i x y t t' h1 h2
     have hx : x ∈ args := by rw [Z33 h1]; simp
     have hy : y ∈ args := by rw [Z33 h1]; simp
     rw [h x (by simp [hx]), h y (by simp [hy])]
    ·rfl
   | max => simp only; rw [hargs]
   | min => simp only; rw [hargs]
   | _ => rfl
  | value x =>
   cases x with
   | func g => simp only; rw [hargs]
   | _ =>
    simp only
    exact ZcQ H (h _ (by simp)) hargs
  | invoke r m => rfl
def want (ops : Array Oper) (o : Oper) (sl : Sl) : Option Bool :=
 match o.guard with
 | none => some true
 | some (j, w) =>
  match (ops[j]?).bind (·.dst) with
  | none => none
  | some d =>
   match get sl d with
   | .p (.v (.bool b)) => some (b == w)
   | .p (.tup []) => some false
   | _ => none
def Tr (ops : Array Oper) (o : Oper) (sl : Sl) (B : List Row) (sl' : Sl) (B' : List Row) : Prop :=
 (want ops o sl = some true ∧ ∃ v, Fop P H f G o sl B = some (v, B') ∧ Eqv sl' (put (weakL sl (wk H f o)) o.dst v)) ∨ (want ops o sl = some false ∧ B' = B ∧ Eqv sl' (put sl o.dst ud))
variable {P H f G}
theorem Tr.congr {ops : Array Oper} {o : Oper} {sl sl' sl2 : Sl} {B B' : List Row} (h : Tr P H f G ops o sl B sl' B') (he : Eqv sl2 sl) : Tr P H f G ops o sl2 B sl' B' := by
 have hw : want ops o sl2 = want ops o sl := by
  unfold want
  split
  ·rfl
  ·split
   ·rfl
   ·rw [he]
 rcases h with ⟨h1, v, h2, h3⟩ | ⟨h1, h2, h3⟩
 ·exact .inl ⟨by rw [hw]; exact h1, v, by rw [Z2A P H f G o sl2 sl B fun y _ => he.ev y]; exact h2, h3.trans (Eqv.put (Eqv.weakL _ he.symm) _ _)⟩
 ·exact .inr ⟨by rw [hw]; exact h1, h2, h3.trans (he.symm.put _ _)⟩
theorem Z4I {sl : Sl} {d : Nat} {b : Bool} (h : get sl d = .p (.v (.bool b))) : Eqv ((d, .p (.v (.bool b))) :: sl) sl := by
 intro t
 rw [Z10]
 split
 ·rename_i e; subst e; exact h.symm
 ·rfl
theorem Zdq {ops : Array Oper} {o : Oper} {os : List Oper} {K : Sl → List Row → Option Res} {i : Nat} {sk : List Nat} {sl : Sl} {B : List Row} {r : Res} (h : runOps P H f G ops (o :: os) K i sk sl B = some r) :
  ∃ i' sk' sl' B', Tr P H f G ops o sl B sl' B' ∧ runOps P H f G ops os K i' sk' sl' B' = some r := by
 change guarded ops sk o.guard sl (fun sl => stepOp P H f G o sl B fun v sl B => runOps P H f G ops os K (i + 1) sk (put sl o.dst v) B) (fun sl => runOps P H f G ops os K (i + 1) (i :: sk) (put sl o.dst ud) B) = some r at h
 have yes : ∀ sl0, Eqv sl0 sl → want ops o sl = some true → stepOp P H f G o sl0 B (fun v sl B => runOps P H f G ops os K (i + 1) sk (put sl o.dst v) B) = some r →
   ∃ i' sk' sl' B', Tr P H f G ops o sl B sl' B' ∧ runOps P H f G ops os K i' sk' sl' B' = some r := by
  intro sl0 he hw hs
  rw [Z9I] at hs
  obtain ⟨q, hq, hk⟩ := ZH hs
  refine ⟨_, _, _, _, .inl ⟨hw, q.1, ?_, ?_⟩, hk⟩
  ·rw [← Z2A P H f G o sl0 sl B fun y _ => he.ev y]
   exact hq
  ·exact Eqv.put (Eqv.weakL _ he) _ _
 have no : ∀ sl0, Eqv sl0 sl → want ops o sl = some false → runOps P H f G ops os K (i + 1) (i :: sk) (put sl0 o.dst ud) B = some r →
   ∃ i' sk' sl' B', Tr P H f G ops o sl B sl' B' ∧ runOps P H f G ops os K i' sk' sl' B' = some r := by
  intro sl0 he hw hs
  exact ⟨_, _, _, _, .inr ⟨hw, rfl, he.put _ _⟩, hs⟩
 unfold guarded at h
 split at h
 ·rename_i hg
  exact yes sl (.refl _) (by unfold want; rw [hg]) h
 ·rename_i j w hg
  split at h
  ·simp at h
  ·rename_i d hd
   split at h
   ·unfold udK at h
    split at h
    ·rename_i hu
     have hw : want ops o sl = some false := by
      unfold want
      simp only [hg, hd, hu]
     exact no sl (.refl _) hw h
    ·simp at h
   ·obtain ⟨b, hb, h⟩ := Z7X h
    have hw : want ops o sl = some (b == w) := by
     unfold want
     simp only [hg, hd, hb]
    unfold br hi at h
    split at h
    ·rename_i hbt
     have hbt : b = true := hbt
     subst hbt
     cases w with
     | true => exact yes _ (Z4I hb) hw h
     | false => exact no _ (Z4I hb) hw h
    ·rename_i hbf
     have hbf : b = false := by simpa using hbf
     subst hbf
     cases w with
     | true => exact no _ (Z4I hb) hw h
     | false => exact yes _ (Z4I hb) hw h
end
end Go.Abs
end
section
namespace Go.Abs
open Go
structure Base where
 nt : Nat
 m0 : Nat
 n : Nat
 w : World
 S : Stay
 β : Nat → Nat
 U : Nat → Prop
def At (b : Base) (sl : Sl) (B : List Row) (a : Act) (w : World) : Prop :=
 ∃ S β, Good b.nt w S β sl B a ∧ Step b.m0 b.w b.S b.β b.n b.U w S β B.length (UB (Here b.nt sl a.tmps B β w))
theorem Step.less {m0 : Nat} {w : World} {S : Stay} {β : Nat → Nat} {n : Nat} {U : Nat → Prop} {w' : World} {S' : Stay} {β' : Nat → Nat} {n' : Nat} {U' U2 : Nat → Prop} (h : Step m0 w S β n U w' S' β' n' U')
  (hU : ∀ b, U2 b → U' b) : Step m0 w S β n U w' S' β' n' U2 := { h with uns := fun b hb => h.uns b (hU b hb) }
theorem Good.eqv {nt : Nat} {w : World} {S : Stay} {β : Nat → Nat} {sl sl' : Sl} {B : List Row} {a : Act} (h : Good nt w S β sl B a) (e : Eqv sl' sl) : Good nt w S β sl' B a :=
 h.reslot (fun t _ => .inl (e t)) (fun t ht => (e t).trans (h.high t ht))
theorem At.eqv {b : Base} {sl sl' : Sl} {B : List Row} {a : Act} {w : World} (h : At b sl B a w) (e : Eqv sl' sl) : At b sl' B a w := by
 obtain ⟨S, β, h1, h2⟩ := h
 exact ⟨S, β, h1.eqv e, h2.less fun b hb => UB.reslot (fun t _ => .inl (e t)) b hb⟩
section
variable {P : Program} {H : Hints} {f : FuncId} {G : GF} {b : Base} {ops : Array Oper} {sl sl' : Sl} {B B' : List Row} {a : Act} {w : World} {Q : Exit → Act → World → Prop}
theorem ZdY {nt : Nat} {S : Stay} {β : Nat → Nat} {o : Oper} {c : Bool} (h : Good nt w S β sl B a) (hw : want ops o sl = some c) : Region.wanted o (yielded ops a.tmps) = c := by
 unfold want at hw
 unfold Region.wanted
 split at hw
 ·rename_i hg
  simp only [ZO] at hw
  rw [hg]
  exact hw
 ·rename_i j k hg
  simp only [hg]
  split at hw
  ·simp at hw
  ·rename_i d hd
   split at hw
   ·rename_i x hx
    simp only [ZO] at hw
    have hdn : d < nt := by
     rcases Z22 d nt with h1 | h1
     ·exact h1
     ·rw [h.high d h1] at hx
      simp [jk] at hx
    have hr := h.slots d hdn
    rw [hx] at hr
    have hv := Z1z hr
    have hds : d < a.tmps.size := by rw [h.size]; exact hdn
    have hget : a.tmps[d]? = some (.bool x) := by
     rw [← hv]
     simp [hds]
    unfold yielded
    rw [hd]
    simp only [q3_, hget]
    rw [← hw]
    cases x <;> cases k <;> rfl
   ·rename_i hx
    simp only [ZO] at hw
    have hdn : d < nt := by
     rcases Z22 d nt with h1 | h1
     ·exact h1
     ·rw [h.high d h1] at hx
      simp [jk] at hx
    have hr := h.slots d hdn
    rw [hx] at hr
    have hv : a.tmps.getD d undef = .tuple #[] := by
     generalize a.tmps.getD d undef = u at hr
     cases hr with
     | p _ _ hp =>
      cases hp with
      | tup _ arr h1 _ _ =>
       congr 1
       exact Array.size_eq_zero_iff.1 (by simpa using h1)
    have hds : d < a.tmps.size := by rw [h.size]; exact hdn
    have hget : a.tmps[d]? = some (.tuple #[]) := by
     rw [← hv]
     simp [hds]
    unfold yielded
    rw [hd]
    simp only [q3_, hget]
    rw [← hw]
    cases k <;> rfl
   ·simp at hw
theorem ZcL {I : Inv} (hp : Pers I) (hI : I b.w b.S) (hF : Z2n P I G) {o : Oper} (hd : ∀ t, o.dst = some t → t < b.nt) (ht : Tr P H f G ops o sl B sl' B') (h : At b sl B a w) :
  if Region.wanted o (yielded ops a.tmps) = true then o.wp P a w (At b sl' B') Q else At b sl' B' (a.put o.dst undef) w := by
 obtain ⟨S, β, hg, hst⟩ := h
 rcases ht with ⟨h1, v, h2, h3⟩ | ⟨h1, rfl, h3⟩
 ·rw [if_pos (ZdY hg h1)]
  have hk : stepOp P H f G o sl B (fun v sl2 B2 => open Classical in if Eqv sl' (put sl2 o.dst v) ∧ B2 = B' then some (jk, []) else none) = some (jk, []) := by
   rw [Z9I, h2]
   exact if_pos ⟨h3, rfl⟩
  refine Oper.wp_mono ?_ (Zfy (m0 := b.m0) (Q := Q) hg hd (hp _ _ _ _ hst.keeps hI) hF hk)
  rintro a' w' ⟨x, sl2, B2, S', β', q1, q2, q3⟩
  simp only at q1
  split at q1
  ·rename_i hc
   obtain ⟨e, rfl⟩ := hc
   exact ⟨S', β', q2.eqv e, hst.trans (q3.less fun b hb => UB.reslot (fun t _ => .inl (e t)) b hb)⟩
  ·simp at q1
 ·rw [if_neg (by rw [ZdY hg h1]; simp)]
  have hud : ARel w S β B'.length ud undef := .p _ _ (.tup [] #[] rfl (by simp) (by simp))
  refine ⟨S, β, (hg.put hd hud rfl).eqv h3, hst.less fun b hb => ?_⟩
  exact UB.put hg.size hd (x := ud) rfl b (UB.reslot (fun t _ => .inl (h3 t)) b hb)
def Run (P : Program) (H : Hints) (f : FuncId) (G : GF) (ops : Array Oper) : List Nat → Sl → List Row → Sl → List Row → Prop
 | [], sl, B, sl', B' => Eqv sl' sl ∧ B' = B
 | i :: l, sl, B, sl', B' => ∃ o sl1 B1, ops[i]? = some o ∧ Tr P H f G ops o sl B sl1 B1 ∧ Run P H f G ops l sl1 B1 sl' B'
theorem Run.congr {l : List Nat} {sl2 : Sl} (h : Run P H f G ops l sl B sl' B') (e : Eqv sl2 sl) : Run P H f G ops l sl2 B sl' B' := by
 cases l with
 | nil => exact ⟨h.1.trans e.symm, h.2⟩
 | cons i l =>
  obtain ⟨o, sl1, B1, q1, q2, q3⟩ := h
  exact ⟨o, sl1, B1, q1, q2.congr e, q3⟩
theorem Z4h {K : Sl → List Row → Option Res} {r : Res} : ∀ (os : List Oper) (k i : Nat) (sk : List Nat) (sl : Sl) (B : List Row), (∀ j, j < os.length → os[j]? = ops[k + j]?) → runOps P H f G ops os K i sk sl B = some r →
  ∃ slF BF, Run P H f G ops (List.range' k os.length) sl B slF BF ∧ K slF BF = some r
 | [], k, i, sk, sl, B, _, h => ⟨sl, B, ⟨.refl _, rfl⟩, h⟩
 | o :: os, k, i, sk, sl, B, hl, h => by
  obtain ⟨i', sk', sl1, B1, ht, h1⟩ := Zdq h
  obtain ⟨slF, BF, h2, h3⟩ := Z4h os (k + 1) i' sk' sl1 B1 (fun j hj => by
   have := hl (j + 1) (by simpa using hj)
   rw [Zab] at this
   rw [this]
   congr 1
   omega) h1
  refine ⟨slF, BF, ?_, h3⟩
  have h0 := hl 0 (by simp)
  exact ⟨o, sl1, B1, by simpa using h0.symm, ht, h2⟩
theorem Z7f {I : Inv} (hp : Pers I) (hI : I b.w b.S) (hF : Z2n P I G) (hd : ∀ (i : Nat) (o : Oper) (t : Tmp), ops[i]? = some o → o.dst = some t → t < b.nt) {slF : Sl} {BF : List Row} : ∀ (l : List Nat) (sl : Sl) (B : List Row) (a : Act) (w : World),
  Run P H f G ops l sl B slF BF → At b sl B a w → (∀ a w, At b slF BF a w → Q .normal a w) → wpOps P ops Q l a w
 | [], sl, B, a, w, hr, h, hQ => by
  obtain ⟨e, rfl⟩ := hr
  exact hQ a w (h.eqv e)
 | i :: l, sl, B, a, w, hr, h, hQ => by
  obtain ⟨o, sl1, B1, q1, q2, q3⟩ := hr
  have := ZcL (Q := Q) hp hI hF (fun t ht => hd i o t q1 ht) q2 h
  simp only [wpOps, q1]
  split at this
  ·rename_i hw
   rw [if_pos hw]
   exact .inl (Oper.wp_mono (fun a w ha => Z7f hp hI hF hd l sl1 B1 a w q3 ha hQ) this)
  ·rename_i hw
   rw [if_neg hw]
   exact Z7f hp hI hF hd l sl1 B1 _ w q3 this hQ
theorem ZcB {I : Inv} (hp : Pers I) (hI : I b.w b.S) (hF : Z2n P I G) (hd : ∀ (i : Nat) (o : Oper) (t : Tmp), ops[i]? = some o → o.dst = some t → t < b.nt) {id : Nat} {K : Sl → List Row → Option Res} {r : Res} (hk : runOps P H f G ops ops.toList K 0 [] sl B = some r)
  (h : At b sl B a w) (hQ : ∀ sl B a w, K sl B = some r → At b sl B a w → Q .normal a w) : (Code.region id ops false).wp P Q a w := by
 obtain ⟨slF, BF, h1, h2⟩ := Z4h ops.toList 0 0 [] sl B (fun j _ => by simp) hk
 refine wp_region ?_
 rw [List.range_eq_range']
 exact Z7f hp hI hF hd _ sl B a w h1 h fun a w ha => hQ slF BF a w h2 ha
end
end Go.Abs
end
section
namespace Go.Abs
open Go
section
variable {P : Program} {H : Hints} {f : FuncId} {G : GF} {o : Oper} {sl : Sl} {B : List Row}
def Free (P : Program) (H : Hints) (f : FuncId) (G : GF) (o : Oper) (sl : Sl) : Prop := ∃ x : Option AV, ∀ B, Fop P H f G o sl B = x.map fun v => (v, B)
def Z21 (P : Program) (H : Hints) (f : FuncId) (G : GF) (o : Oper) (sl : Sl) (id : Nat) (rd : Bool) : Prop :=
 ∃ φ : Row → Option (AV × Row), (∀ B, Fop P H f G o sl B = B[id]?.bind fun row => (φ row).map fun q => (q.1, B.set id q.2)) ∧ (rd = true → ∀ row q, φ row = some q → q.2 = row)
def News (P : Program) (H : Hints) (f : FuncId) (G : GF) (o : Oper) (sl : Sl) : Prop := ∃ x : Option Row, ∀ B, Fop P H f G o sl B = x.map fun row => (.ptr B.length 0, B ++ [row])
theorem Z1C {α : Type} (y : Option α) (g : α → AV) {F : List Row → Option Res} (h : ∀ B, F B = ob y fun a => some (g a, B)) : ∃ x : Option AV, ∀ B, F B = x.map fun v => (v, B) := by
 refine ⟨y.map g, fun B => ?_⟩
 rw [h]
 cases y <;> rfl
theorem Z1t {F : List Row → Option Res} (h : ∀ B, F B = none) : ∃ x : Option AV, ∀ B, F B = x.map fun v => (v, B) := ⟨none, fun B => by rw [h]; rfl⟩
theorem Z40 (v : AV) {F : List Row → Option Res} (h : ∀ B, F B = some (v, B)) : ∃ x : Option AV, ∀ B, F B = x.map fun v => (v, B) := ⟨some v, fun B => by rw [h]; rfl⟩
theorem Zhs (h : cls P H f o = .free) : Free P H f G o sl := by
 rcases o with ⟨dst, op, ty, pos, after, guard⟩
 unfold cls at h
 unfold Free Fop stepOp
 cases op <;> simp only at h ⊢
 case move x => split <;> exact Z40 _ fun _ => rfl
 case assign x => split <;> exact Z40 _ fun _ => rfl
 case pick c a b =>
  unfold asB hi
  split
  ·rename_i t _
   cases t
   ·exact Z40 _ fun _ => rfl
   ·exact Z40 _ fun _ => rfl
  ·exact Z1t fun _ => rfl
 case alloc t => exact absurd h (by simp)
 case box t x => exact absurd h (by simp)
 case build t ps => exact Z1C _ (fun v => v) fun _ => rfl
 case buildSlice t n ps => exact Z1C _ (fun v => if Z3f H f dst then unOf v else v) fun _ => rfl
 case load t a => split at h <;> simp at h
 case store t a x => exact absurd h (by simp)
 case nilCheck x => exact Z1C _ (fun v => v) fun _ => rfl
 case binOp op t x y yt =>
  cases y with
  | const c => simp only; split <;> exact Z1C _ (fun v => v) fun _ => rfl
  | _ => exact Z1C _ (fun v => v) fun _ => rfl
 case unOp op t x => exact Z1C _ (fun v => v) fun _ => rfl
 case convert s d x => split <;> exact Z1C _ (fun v => v) fun _ => rfl
 case makeFunc fn a b =>
  cases fn with
  | func g => exact Z40 _ fun _ => rfl
  | _ => exact Z1t fun _ => rfl
 case slice t x lo hi mx =>
  split
  ·split
   ·exact Z1t fun _ => rfl
   ·exact Z1C _ (fun v => v) fun _ => rfl
  ·split
   ·exact Z1t fun _ => rfl
   ·exact Z1C _ (fun v => v) fun _ => rfl
 case fieldAddr s x fd =>
  cases Z5M P s fd with
  | none => exact Z1t fun _ => rfl
  | some off => exact Z1C (xfld off (ev sl x)) (fun v => v) fun _ => rfl
 case field s x fd =>
  split
  ·rename_i fields _
   cases fields[fd]? with
   | none => exact Z1t fun _ => rfl
   | some fl =>
    cases hs : shape P fl.type with
    | none => exact Z1t fun _ => by simp only [Z1b, hs, Z3k]
    | some q => exact Z1C (Z7F q.1 fl.offset q.2 (ev sl x)) (fun v => v) fun _ => by simp only [Z1b, hs]
  ·exact Z1t fun _ => rfl
 case indexAddr t x i =>
  split
  ·split
   ·exact Z1C _ (fun v => v) fun _ => rfl
   ·exact Z1t fun _ => rfl
  ·exact Z1C _ (fun v => v) fun _ => rfl
 case extract x i =>
  split
  ·exact Z1C _ (fun v => v) fun _ => rfl
  ·exact Z1C _ shr fun _ => rfl
 case call c =>
  rcases c with ⟨cal, args, ats⟩
  cases cal with
  | builtin b =>
   cases b with
   | len =>
    simp only at h ⊢
    split
    ·rename_i x t h1 h2
     have hm : mapE P t = none := by
      have e : ats = #[t] := Z32 h2
      subst e
      cases hm : mapE P t with
      | none => rfl
      | some e => simp [hm] at h
     simp only [hm]
     exact Z1C _ (fun v => v) fun _ => rfl
    ·exact Z1t fun _ => rfl
   | delete => simp at h
   | append =>
    simp only
    split
    ·split
     ·exact Z1t fun _ => rfl
     ·exact Z1C _ (fun v => v) fun _ => rfl
    ·exact Z1t fun _ => rfl
   | max => exact Z1C _ (fun v => v) fun _ => rfl
   | min => exact Z1C _ (fun v => v) fun _ => rfl
   | _ => exact Z1t fun _ => rfl
  | value x =>
   cases x with
   | func g =>
    simp only at h
    split at h
    ·simp at h
    ·split at h <;> simp at h
   | _ => simp at h
  | invoke r m => simp at h
 case index t x i => exact Z1C _ (fun v => v) fun _ => rfl
 case makeMap t r => simp at h
 case lookup t x i c => simp at h
 case mapUpdate t m k x => simp at h
 case insert t m k x => simp at h
 all_goals exact Z1t fun _ => rfl
theorem Zjk (h : cls P H f o = .new) : News P H f G o sl := by
 have key : ∀ z : AV, ∃ x : Option Row, ∀ B, bx z B (fun v B => some (v, B)) = x.map fun row => (AV.ptr B.length 0, B ++ [row]) := by
  intro z
  unfold bx
  split
  ·exact ⟨none, fun _ => rfl⟩
  ·exact ⟨some (Z1h z), fun _ => rfl⟩
 rcases o with ⟨dst, op, ty, pos, after, guard⟩
 unfold cls at h
 unfold News Fop stepOp
 cases op <;> simp only at h ⊢
 case alloc t =>
  unfold bz
  cases zeroOf P t with
  | none => exact ⟨none, fun _ => rfl⟩
  | some z => exact key z
 case box t x => exact key (ev sl x)
 case load t a => split at h <;> simp at h
 case call c =>
  rcases c with ⟨cal, args, ats⟩
  cases cal with
  | builtin b => cases b <;> simp only at h <;> first | (split at h <;> simp at h; done) | simp at h
  | value x =>
   cases x with
   | func g =>
    simp only at h
    split at h
    ·simp at h
    ·split at h <;> simp at h
   | _ => simp at h
  | _ => simp at h
 all_goals exact absurd h (by simp)
def IsAt (x : AV) (id : Nat) : Prop := (∃ off, x = .ptr id off) ∨ x = .mp id
theorem Zfa {id : Nat} {rd : Bool} (h : ∀ B, Fop P H f G o sl B = none) : Z21 P H f G o sl id rd :=
 ⟨fun _ => none, fun B => by rw [h]; cases B[id]? <;> rfl, fun _ row q hq => by simp at hq⟩
theorem Zht {t : TypeId} {x i : Operand} {c : Bool} (ho : o.op = .lookup t x i c) :
  match ev sl x with
  | .mp id => Z21 P H f G o sl id true
  | _ => ∀ B, Fop P H f G o sl B = none := by
 have none_of : ∀ y : AV, ev sl x = y → (∀ id, y ≠ .mp id) → ∀ B, Fop P H f G o sl B = none := by
  intro y hy hne B
  unfold Fop stepOp
  simp only [ho]
  unfold Z34 Z30
  rw [hy]
  cases mapE P t with
  | none => rfl
  | some e =>
   cases y with
   | mp id => exact absurd rfl (hne id)
   | _ => rfl
 split
 ·rename_i id heq
  refine ⟨fun row => (ob (mapE P t) fun e => ob (mdOf row) fun es => asK (ev sl i) fun n =>
    match getE es n with
    | some y => some (AV.p (if c = true then .tup [y, .v (.bool true)] else y))
    | none => ob ((P.info? e).bind (·.zero)) fun z => ob (Z2f z) fun z => ob (Z2X z) fun z => some (AV.p (if c = true then .tup [z, .v (.bool false)] else z))).map fun v => (v, row), fun B => ?_, fun _ row q hq => ?_⟩
  ·unfold Fop stepOp
   simp only [ho]
   unfold Z34 Z30
   rw [heq]
   cases hB : B[id]? with
   | none =>
    cases mapE P t with
    | none => rfl
    | some e => simp only [hB, Z1b, Z3k, Option.bind_none]
   | some row =>
    have hset : B.set id row = B := by
     apply Z7b
     intro k
     rw [Z3o]
     split
     ·rename_i e
      subst e
      have := (q1_.1 hB).1
      rw [if_pos this, hB]
     ·rfl
    simp only [q3_]
    cases mapE P t with
    | none => rfl
    | some e =>
     simp only [hB, Z1b]
     cases mdOf row with
     | none => rfl
     | some es =>
      simp only [Z1b]
      generalize hq : (asK (ev sl i) fun n =>
       match getE es n with
       | some y => some (AV.p (if c = true then .tup [y, .v (.bool true)] else y))
       | none => ob ((P.info? e).bind (·.zero)) fun z => ob (Z2f z) fun z => ob (Z2X z) fun z => some (AV.p (if c = true then .tup [z, .v (.bool false)] else z))) = q
      cases q with
      | none => rfl
      | some v => simp only [Z1b, Z2x, hset]
  ·obtain ⟨v, _, rfl⟩ := q4_.1 hq
   rfl
 ·rename_i hne
  exact none_of _ rfl hne
theorem Z9N (h : cls P H f o = .rd ∨ cls P H f o = .wr ∨ cls P H f o = .ol) : ∃ a, addrOf o = some a ∧
  match ev sl a with
  | .ptr id _ => Z21 P H f G o sl id (cls P H f o == .rd)
  | .mp id => Z21 P H f G o sl id (cls P H f o == .rd)
  | .cptr _ => Free P H f G o sl
  | _ => ∀ B, Fop P H f G o sl B = none := by
 by_cases hlk : ∃ t x i c, o.op = .lookup t x i c
 ·obtain ⟨t, x, i, c, ho⟩ := hlk
  have hc : cls P H f o = .rd := by unfold cls; simp only [ho]
  have := Zht (P := P) (H := H) (f := f) (G := G) (sl := sl) ho
  refine ⟨x, by unfold addrOf; simp only [ho], ?_⟩
  split
  ·rename_i id off heq
   simp only [heq] at this
   exact Zfa this
  ·rename_i id heq
   simp only [heq] at this
   rw [hc]
   exact this
  ·rename_i cs heq
   simp only [heq] at this
   exact Z1t this
  ·rename_i h1 h2 h3
   split at this
   ·rename_i id heq
    exact absurd heq (h2 id)
   ·exact this
 rcases o with ⟨dst, op, ty, pos, after, guard⟩
 unfold cls at h ⊢
 unfold addrOf
 cases op <;> simp only at h ⊢
 case load t a =>
  refine ⟨a, rfl, ?_⟩
  unfold Z21 Free Fop stepOp
  simp only
  cases hs : shape P t with
  | none =>
   split
   ·rename_i id off heq
    refine ⟨fun _ => none, fun B => ?_, fun _ row q hq => by simp at hq⟩
    split <;> (simp only [Z3k]; cases B[id]? <;> rfl)
   ·rename_i id heq
    refine ⟨fun _ => none, fun B => ?_, fun _ row q hq => by simp at hq⟩
    split <;> (simp only [Z3k]; cases B[id]? <;> rfl)
   ·split <;> exact Z1t fun _ => rfl
   ·intro B; split <;> rfl
  | some s =>
   split
   ·rename_i id off heq
    split
    ·refine ⟨fun row => if s.1 = true then none else if (mdOf row).isSome = true then none else row[off]?.map fun c => (c, row.set off (shr c)), fun B => ?_, fun e => by simp at e⟩
     simp only [Z1b, heq, ldOwn]
     by_cases h1 : s.1 = true
     ·simp only [if_pos h1]
      cases B[id]? <;> rfl
     ·simp only [if_neg h1]
      cases B[id]? with
      | none => rfl
      | some row =>
       simp only [Z1b, q3_]
       split
       ·rfl
       ·cases row[off]? <;> rfl
    ·refine ⟨fun row => (if (mdOf row).isSome = true then none else if s.1 then (if off + s.2 ≤ row.length then some (Z3A (((row.drop off).take s.2).map shr)) else none) else ob row[off]? fun c => some (shr c)).map fun v => (v, row), fun B => ?_, fun _ row q hq => ?_⟩
     ·simp only [Z1b, heq, ldN]
      cases hB : B[id]? with
      | none => rfl
      | some row =>
       have hset : B.set id row = B := by
        apply Z7b
        intro i
        rw [Z3o]
        split
        ·rename_i e
         subst e
         have := (q1_.1 hB).1
         rw [if_pos this, hB]
        ·rfl
       simp only [Z1b, q3_]
       cases (if (mdOf row).isSome = true then none else if s.1 = true then if off + s.2 ≤ row.length then some (Z3A (List.map shr (List.take s.2 (List.drop off row)))) else none else ob row[off]? fun c => some (shr c)) with
       | none => rfl
       | some v => simp only [Z1b, Z2x, hset]
     ·obtain ⟨v, _, rfl⟩ := q4_.1 hq
      rfl
   ·rename_i id heq
    refine ⟨fun _ => none, fun B => ?_, fun _ row q hq => by simp at hq⟩
    split
    ·simp only [Z1b, heq, ldOwn]
     split <;> (cases B[id]? <;> rfl)
    ·simp only [Z1b, heq, ldN, Z3k]
     cases B[id]? <;> rfl
   ·rename_i cs heq
    split
    ·exact Z1t fun B => by simp only [Z1b, heq, ldOwn]; split <;> rfl
    ·exact Z1C (if s.1 = true then if s.2 ≤ cs.length then some (AV.p (PV.agg (List.take s.2 cs))) else none else ob cs[0]? fun c => some (AV.p c)) (fun v => v) fun B => by simp only [Z1b, heq, ldN]
   ·rename_i hne1 _ hne2
    intro B
    split
    ·simp only [Z1b]
     split
     ·rfl
     ·unfold ldOwn
      split
      ·rename_i heq; exact absurd heq (hne1 _ _)
      ·rfl
    ·simp only [Z1b]
     unfold ldN
     split
     ·rename_i heq; exact absurd heq (hne1 _ _)
     ·rename_i heq; exact absurd heq (hne2 _)
     ·rfl
 case store t a x =>
  refine ⟨a, rfl, ?_⟩
  unfold Z21 Free Fop stepOp
  simp only
  cases hs : shape P t with
  | none =>
   split
   ·rename_i id off heq
    refine ⟨fun _ => none, fun B => ?_, fun e => by simp at e⟩
    simp only [Z3k]; cases B[id]? <;> rfl
   ·rename_i id heq
    refine ⟨fun _ => none, fun B => ?_, fun e => by simp at e⟩
    simp only [Z3k]; cases B[id]? <;> rfl
   ·exact Z1t fun _ => rfl
   ·intro B; rfl
  | some s =>
   split
   ·rename_i id off heq
    refine ⟨fun row => if (mdOf row).isNone = true ∧ Z1J (ev sl x) = false ∧ (Z1h (ev sl x)).length = s.2 ∧ off + s.2 ≤ row.length then some (jk, setAt row off (Z1h (ev sl x))) else none, fun B => ?_, fun e => by simp at e⟩
    simp only [Z1b, heq, stN]
    cases B[id]? with
    | none => rfl
    | some row =>
     simp only [Z1b, q3_]
     split <;> rfl
   ·rename_i id heq
    refine ⟨fun _ => none, fun B => ?_, fun e => by simp at e⟩
    simp only [Z1b, heq, stN]
    cases B[id]? <;> rfl
   ·rename_i cs heq
    exact Z1t fun B => by simp only [Z1b, heq, stN]
   ·rename_i hne1 _ hne2
    intro B
    simp only [Z1b]
    unfold stN
    split
    ·rename_i heq; exact absurd heq (hne1 _ _)
    ·rfl
 case lookup t x i c => exact absurd ⟨t, x, i, c, rfl⟩ hlk
 case call c =>
  rcases c with ⟨cal, args, ats⟩
  cases cal with
  | builtin b => cases b <;> simp only at h <;> first | (split at h <;> simp at h; done) | simp at h
  | value x =>
   cases x with
   | func g =>
    simp only at h
    split at h
    ·simp at h
    ·split at h <;> simp at h
   | _ => simp at h
  | _ => simp at h
 all_goals exact absurd h (by simp)
theorem Zcj (x : AV) : ptrs (shr x) = ptrs x := by
 cases x with
 | p x =>
  cases x with
  | lst o xs => cases o <;> simp [shr, ptrs]
  | _ => simp [shr, ptrs]
 | tup vs =>
  simp only [shr, ptrs]
  exact Z4K _ (fun x => by cases x <;> simp [ptrs]) _
 | _ => rfl
theorem Zhv (h : cls P H f o = .pure) : ∃ c, o.op = .call c ∧ ∀ B v B', Fop P H f G o sl B = some (v, B') → ZI (evs sl c.args) = [] → ptrs v = [] → ∀ B2, Fop P H f G o sl B2 = some (v, B2) := by
 rcases o with ⟨dst, op, ty, pos, after, guard⟩
 unfold cls at h
 cases op <;> simp only at h
 case call c =>
  refine ⟨c, rfl, ?_⟩
  rcases c with ⟨cal, args, ats⟩
  cases cal with
  | builtin b => cases b <;> simp only at h <;> first | (split at h <;> simp at h; done) | simp at h
  | value x =>
   cases x with
   | func g =>
    simp only at h
    split at h
    ·simp at h
    rename_i hnear
    simp only [Bool.not_eq_true] at hnear
    split at h
    ·simp at h
    ·rename_i hr
     simp only [Z4U, not_or, Bool.not_eq_true] at hr
     intro B v B' hf hp hv B2
     unfold Fop stepOp at hf ⊢
     simp only at hf hp ⊢
     rw [hr.2, hnear] at hf ⊢
     simp only [Bool.false_and, q8_, if_false] at hf ⊢
     unfold callQ callS at hf ⊢
     simp only [hp] at hf ⊢
     have hreach : ∀ B : List Row, ZY B 64 [] [] = [] := fun B => rfl
     rw [hreach] at hf ⊢
     simp only [List.all_nil, Bool.and_true, Z4C, q8_, if_false, Z3p, List.map_nil, List.take_zero, List.drop_zero] at hf ⊢
     obtain ⟨r', hr', hf⟩ := ZH hf
     rw [hr', Z1b]
     have hno : ptrs r'.1 = [] := by
      have emp : ∀ (g : Nat → Nat) (x : AV), ptrs (Z11 g x) = [] → ptrs x = [] := by
       intro g x
       induction x using AV.rec (motive_2 := fun l => ZI (ZT g l) = [] → ZI l = []) with
       | p x => intro _; simp [ptrs]
       | ptr id off => intro h; simp [Z11, ptrs] at h
       | mp id => intro h; simp [Z11, ptrs] at h
       | md es => intro _; simp [ptrs]
       | cptr cs => intro _; simp [ptrs]
       | clo f a b iha ihb =>
        intro h
        simp only [Z11, ptrs, List.append_eq_nil_iff] at h ⊢
        exact ⟨iha h.1, ihb h.2⟩
       | agg cs ih => intro h; simp only [Z11, ptrs] at h ⊢; exact ih h
       | tup vs ih => intro h; simp only [Z11, ptrs] at h ⊢; exact ih h
       | nil => simp [ZI]
       | cons x r ihx ihr =>
        rename_i h
        simp only [ZT, ZI, List.append_eq_nil_iff] at h ⊢
        exact ⟨ihx h.1, ihr h.2⟩
      split at hf
      ·simp only [ZO, Z3a] at hf
       exact emp _ _ (by rw [hf.1]; exact hv)
      ·simp only [ZO, Z3a] at hf
       exact emp _ _ (by rw [hf.1]; exact hv)
     simp only [hno, below, List.all_nil, if_true, Z18, ZO, Z3a] at hf ⊢
     simpa using hf.1
   | _ => simp at h
  | _ => simp at h
 case load t a => split at h <;> simp at h
 all_goals exact absurd h (by simp)
theorem Z9E {B : List Row} {n j : Nat} {todo seen : List Nat} (h : ZI (B.getD j []) = []) : ZY B (n + 1) (j :: todo) seen = if seen.contains j = true then ZY B n todo seen else ZY B n todo (seen ++ [j]) := by
 rw [q9_] at h
 rw [ZY]
 cases hb : B[j]? with
 | none => simp only [Z65]
 | some row =>
  rw [hb] at h
  have e : ZI row = [] := h
  simp only [e, Z65]
theorem Z4n {B C : List Row} : ∀ (n : Nat) (todo seen : List Nat), (∀ i, i ∈ todo → B[i]? = C[i]? ∧ ZI (B.getD i []) = []) →
  ZY B n todo seen = ZY C n todo seen ∧ ∀ i, i ∈ ZY B n todo seen → i ∈ seen ∨ i ∈ todo
 | 0, todo, seen, _ => ⟨by cases todo <;> rfl, fun i h => .inl (by cases todo <;> exact h)⟩
 | n + 1, [], seen, _ => ⟨rfl, fun i h => .inl h⟩
 | n + 1, j :: todo, seen, h => by
  have hj := h j (by simp)
  have ht : ∀ i, i ∈ todo → B[i]? = C[i]? ∧ ZI (B.getD i []) = [] := fun i hi => h i (by simp [hi])
  have hjC : ZI (C.getD j []) = [] := by rw [q9_, ← hj.1, ← q9_]; exact hj.2
  rw [Z9E hj.2, Z9E hjC]
  split
  ·obtain ⟨k1, k2⟩ := Z4n n todo seen ht
   exact ⟨k1, fun i hi => (k2 i hi).imp id (fun x => by simp [x])⟩
  ·obtain ⟨k1, k2⟩ := Z4n n todo (seen ++ [j]) ht
   refine ⟨k1, fun i hi => ?_⟩
   rcases k2 i hi with x | x
   ·rcases Z4f.1 x with y | y
    ·exact .inl y
    ·exact .inr (by simp at y; simp [y])
   ·exact .inr (by simp [x])
theorem Zhp {id : Nat} {row : Row} : ∀ (rs : List Nat) (rows B : List Row), id ∉ rs → Z18 (B.set id row) rs rows = (Z18 B rs rows).set id row
 | [], rows, B, _ => by cases rows <;> rfl
 | i :: is, [], B, _ => rfl
 | i :: is, r :: rs, B, h => by
  show Z18 ((B.set id row).set i r) is rs = _
  rw [List.set_comm _ _ (fun e => h (by simp [e])), Zhp is rs (B.set i r) (fun x => h (by simp [x]))]
  rfl
theorem Z3H {β : Type} {b : Bool} {x : Option β} {r : β} (h : grd b x = some r) : b = true ∧ x = some r := by
 unfold grd hi at h
 cases b
 ·simp at h
 ·exact ⟨rfl, by simpa using h⟩
theorem Z8G {raw : Bool} {G : GF} {g : FuncId} {args : List AV} {B B' : List Row} {v : AV} (h : Z4F raw G g args B (fun v B => some (v, B)) = some (v, B')) :
  B'.length = B.length ∧ ∀ id, id ∉ ZI args → B'[id]? = B[id]? ∧ ∀ row, Z4F raw G g args (B.set id row) (fun v B => some (v, B)) = some (v, B'.set id row) := by
 unfold Z4F at h
 obtain ⟨h0, h⟩ := Z3H h
 have h0' : ∀ i, i ∈ ZI args → ZI (B.getD i []) = [] := by
  intro i hi
  have := Z2w.1 h0 i hi
  simpa using this
 unfold callS at h
 simp only at h
 split at h
 ·simp at h
 rename_i hc
 obtain ⟨r', hr', hk⟩ := ZH h
 have key : B'.length = B.length ∧ ∃ m, B' = Z18 B (ZY B 64 (ZI args) []) m ∧ ∀ C : List Row, C.length = B.length → ZY C 64 (ZI args) [] = ZY B 64 (ZI args) [] →
   (if (below (ZY B 64 (ZI args) []).length (ptrs r'.1) && ((r'.2.take (ZY B 64 (ZI args) []).length).all fun row => below (ZY B 64 (ZI args) []).length (ZI row))) = true then
    grd (Nat.beq (Z18 C (ZY B 64 (ZI args) []) ((r'.2.take (ZY B 64 (ZI args) []).length).map (ZT fun id => (ZY B 64 (ZI args) []).getD id 0))).length C.length)
     (some (Z11 (fun id => (ZY B 64 (ZI args) []).getD id 0) r'.1, Z18 C (ZY B 64 (ZI args) []) ((r'.2.take (ZY B 64 (ZI args) []).length).map (ZT fun id => (ZY B 64 (ZI args) []).getD id 0))))
   else
    grd (Nat.beq (Z18 C (ZY B 64 (ZI args) []) ((r'.2.take (ZY B 64 (ZI args) []).length).map (ZT fun id => if id < (ZY B 64 (ZI args) []).length then (ZY B 64 (ZI args) []).getD id 0 else C.length + (id - (ZY B 64 (ZI args) []).length))) ++
       (r'.2.drop (ZY B 64 (ZI args) []).length).map (ZT fun id => if id < (ZY B 64 (ZI args) []).length then (ZY B 64 (ZI args) []).getD id 0 else C.length + (id - (ZY B 64 (ZI args) []).length))).length C.length)
     (some (Z11 (fun id => if id < (ZY B 64 (ZI args) []).length then (ZY B 64 (ZI args) []).getD id 0 else C.length + (id - (ZY B 64 (ZI args) []).length)) r'.1,
      Z18 C (ZY B 64 (ZI args) []) ((r'.2.take (ZY B 64 (ZI args) []).length).map (ZT fun id => if id < (ZY B 64 (ZI args) []).length then (ZY B 64 (ZI args) []).getD id 0 else C.length + (id - (ZY B 64 (ZI args) []).length))) ++
       (r'.2.drop (ZY B 64 (ZI args) []).length).map (ZT fun id => if id < (ZY B 64 (ZI args) []).length then (ZY B 64 (ZI args) []).getD id 0 else C.length + (id - (ZY B 64 (ZI args) []).length))))) = some (v, Z18 C (ZY B 64 (ZI args) []) m) := by
  split at hk
  ·rename_i hb
   obtain ⟨q1, q2⟩ := Z3H hk
   simp only [ZO, Z3a] at q2
   refine ⟨by rw [← q2.2, Z3F], _, q2.2.symm, fun C hC _ => ?_⟩
   rw [if_pos hb, q2.1]
   have : Nat.beq (Z18 C (ZY B 64 (ZI args) []) ((r'.2.take (ZY B 64 (ZI args) []).length).map (ZT fun id => (ZY B 64 (ZI args) []).getD id 0))).length C.length = true := by
    rw [Z3F]
    exact Nat.beq_refl _
   rw [this]
   rfl
  ·rename_i hb
   obtain ⟨q1, q2⟩ := Z3H hk
   simp only [ZO, Z3a] at q2
   have hl := Nat.eq_of_beq_eq_true q1
   rw [Z2J, Z3F] at hl
   have hnil : (r'.2.drop (ZY B 64 (ZI args) []).length) = [] := by
    apply Zcm.1
    rw [Z39] at hl
    omega
   refine ⟨by rw [← q2.2, hnil, List.map_nil, Z65, Z3F], _, by rw [← q2.2, hnil, List.map_nil, Z65], fun C hC _ => ?_⟩
   rw [if_neg hb, hC, q2.1, hnil, List.map_nil, Z65]
   have : Nat.beq (Z18 C (ZY B 64 (ZI args) []) ((r'.2.take (ZY B 64 (ZI args) []).length).map (ZT fun id => if id < (ZY B 64 (ZI args) []).length then (ZY B 64 (ZI args) []).getD id 0 else B.length + (id - (ZY B 64 (ZI args) []).length)))).length B.length = true := by
    rw [Z3F, hC]
    exact Nat.beq_refl _
   rw [this]
   rfl
 obtain ⟨hlen, m, hB', hC⟩ := key
 refine ⟨hlen, fun id hid => ?_⟩
 have hsub : ∀ i, i ∈ ZY B 64 (ZI args) [] → i ∈ ZI args := by
  intro i hi
  rcases (Z4n (B := B) (C := B) 64 (ZI args) [] fun i hi => ⟨rfl, h0' i hi⟩).2 i hi with x | x
  ·simp at x
  ·exact x
 have hidr : id ∉ ZY B 64 (ZI args) [] := fun x => hid (hsub id x)
 refine ⟨by rw [hB', Z9L _ _ _ hidr], fun row => ?_⟩
 have hget : ∀ i, i ∈ ZI args → B[i]? = (B.set id row)[i]? := by
  intro i hi
  rw [Z3o, if_neg (by rintro rfl; exact hid hi)]
 have hgetD : ∀ i, i ∈ ZI args → (B.set id row).getD i [] = B.getD i [] := by
  intro i hi
  rw [q9_, q9_, ← hget i hi]
 have hre := (Z4n (B := B) (C := B.set id row) 64 (ZI args) [] fun i hi => ⟨hget i hi, h0' i hi⟩).1
 have hcc := hC (B.set id row) (List.length_set ..) hre.symm
 unfold Z4F
 have h0s : ((ZI args).all fun i => (ZI ((B.set id row).getD i [])).isEmpty) = true := by
  rw [Z2w]
  intro i hi
  rw [hgetD i hi, h0' i hi]
  rfl
 have hg1 : ∀ {β : Type} {b : Bool} {x : Option β}, b = true → grd b x = x := fun e => by subst e; rfl
 rw [hg1 h0s]
 unfold callS
 simp only
 rw [← hre]
 have hall : ((ZY B 64 (ZI args) []).all fun i => decide (i < (B.set id row).length) && (ZI ((B.set id row).getD i [])).all (ZY B 64 (ZI args) []).contains) = ((ZY B 64 (ZI args) []).all fun i => decide (i < B.length) && (ZI (B.getD i [])).all (ZY B 64 (ZI args) []).contains) := by
  rw [Bool.eq_iff_iff, Z2w, Z2w]
  refine forall_congr' fun i => forall_congr' fun hi => ?_
  rw [hgetD i (hsub i hi), List.length_set]
 have hmap : ((ZY B 64 (ZI args) []).map fun i => ZT (fun id => (ZY B 64 (ZI args) []).idxOf id) ((B.set id row).getD i [])) = (ZY B 64 (ZI args) []).map fun i => ZT (fun id => (ZY B 64 (ZI args) []).idxOf id) (B.getD i []) := by
  refine Z78 fun i hi => ?_
  rw [hgetD i (hsub i hi)]
 rw [hall, if_neg hc, hmap, hr']
 show (if _ then _ else _) = _
 rw [hB', ← Zhp _ _ _ hidr]
 exact hcc
def Near (P : Program) (H : Hints) (f : FuncId) (G : GF) (o : Oper) (sl : Sl) (ids : List Nat) : Prop :=
 ∀ B v B', Fop P H f G o sl B = some (v, B') → ∀ id, id ∉ ids → B'[id]? = B[id]? ∧ ∀ row, Fop P H f G o sl (B.set id row) = some (v, B'.set id row)
theorem Zhu (h : cls P H f o = .near) : ∃ c, o.op = .call c ∧ Near P H f G o sl (ZI (evs sl c.args)) := by
 rcases o with ⟨dst, op, ty, pos, after, guard⟩
 unfold cls at h
 cases op <;> simp only at h
 case call c =>
  refine ⟨c, rfl, ?_⟩
  rcases c with ⟨cal, args, ats⟩
  cases cal with
  | builtin b => cases b <;> simp only at h <;> first | (split at h <;> simp at h; done) | simp at h
  | value x =>
   cases x with
   | func g =>
    simp only at h
    split at h
    rotate_left
    ·split at h <;> simp at h
    rename_i hnear
    intro B v B' hf id hid
    unfold Fop stepOp at hf ⊢
    simp only at hf hid ⊢
    rw [hnear] at hf ⊢
    split at hf
    ·simp at hf
    rename_i hd
    refine ⟨((Z8G hf).2 id hid).1, fun row => ?_⟩
    rw [if_neg hd]
    exact ((Z8G hf).2 id hid).2 row
   | _ => simp at h
  | _ => simp at h
 case load t a => split at h <;> simp at h
 all_goals exact absurd h (by simp)
end
end Go.Abs
end
section
namespace Go.Abs
open Go
def ShEq (x y : AV) : Prop := shr x = shr y
theorem ZdV (x : AV) : shr (shr x) = shr x := by
 have hp : ∀ y, shrP (shrP y) = shrP y := by
  intro y
  cases y with
  | lst o xs => cases o <;> rfl
  | _ => rfl
 cases x with
 | p x =>
  cases x with
  | lst o xs => cases o <;> rfl
  | tup vs => simp [shr, hp]
  | _ => rfl
 | tup vs =>
  simp only [shr, Zco]
  congr 1
  apply Z78
  intro y _
  cases y with
  | p z => simp [hp]
  | _ => rfl
 | _ => rfl
theorem ShEq.refl (x : AV) : ShEq x x := rfl
theorem ShEq.symm {x y : AV} (h : ShEq x y) : ShEq y x := Eq.symm h
theorem ShEq.trans {x y z : AV} (h : ShEq x y) (k : ShEq y z) : ShEq x z := Eq.trans h k
theorem ShEq.shr (x : AV) : ShEq (Go.Abs.shr x) x := ZdV x
theorem ShEq.ptrs {x y : AV} (h : ShEq x y) : ptrs x = ptrs y := by rw [← Zcj x, ← Zcj y, h]
theorem ZaM (x y : AV) : Z3l (Go.Abs.shr x) (Go.Abs.shr y) = Z3l x y := by
 cases x with
 | p x =>
  cases x with
  | lst o xs =>
   cases y with
   | p y => cases y with
    | lst o' ys => cases o <;> cases o' <;> rfl
    | tup vs => cases o <;> cases vs <;> rfl
    | _ => cases o <;> rfl
   | _ => cases o <;> rfl
  | tup us =>
   cases us <;> (cases y with
    | p y => cases y with
     | lst o' ys => cases o' <;> rfl
     | tup vs => cases vs <;> rfl
     | _ => rfl
    | _ => rfl)
  | _ =>
   cases y with
   | p y => cases y with
    | lst o' ys => cases o' <;> rfl
    | tup vs => cases vs <;> rfl
    | _ => rfl
   | _ => rfl
 | _ =>
  cases y with
  | p y => cases y with
   | lst o' ys => cases o' <;> rfl
   | tup vs => cases vs <;> rfl
   | _ => rfl
  | _ => rfl
theorem Z60 {x x' y y' : AV} (h : ShEq x x') (k : ShEq y y') : Z3l x y = Z3l x' y' := by
 rw [← ZaM x y, ← ZaM x' y', h, k]
def upd (sl : Sl) (ws : List Operand) (d : Option Tmp) (v : AV) : Sl := put (weakL sl ws) d v
theorem Z6S : ∀ (ws : List Operand) (sl : Sl) (t : Nat), get (weakL sl ws) t = if t ∈ tmpsOf ws then shr (get sl t) else get sl t
 | [], sl, t => by simp [weakL, tmpsOf]
 | x :: r, sl, t => by
  show get (weakL (weak sl x) r) t = _
  rw [Z6S r]
  cases x with
  | tmp u =>
   have hg : get (weak sl (.tmp u)) t = if u = t then shr (get sl u) else get sl t := Z10 u _ sl t
   rw [hg]
   simp only [tmpsOf, Z1K]
   by_cases e : u = t
   ·subst e
    simp only [if_true, true_or]
    split
    ·exact ZdV _
    ·rfl
   ·rw [if_neg e]
    have e' : ¬ t = u := fun h => e h.symm
    simp only [e', false_or]
  | const c => rfl
  | global c => rfl
  | func c => rfl
theorem Z2Y (sl : Sl) (ws : List Operand) (d : Option Tmp) (v : AV) (t : Nat) : get (upd sl ws d v) t = if d = some t then v else if t ∈ tmpsOf ws then shr (get sl t) else get sl t := by
 unfold upd
 cases d with
 | none =>
  have hn : ¬ ((none : Option Tmp) = some t) := by simp
  rw [if_neg hn]
  exact Z6S ws sl t
 | some d =>
  show get ((d, v) :: weakL sl ws) t = _
  rw [Z10, Z6S]
  by_cases e : d = t
  ·subst e; simp
  ·have hn : ¬ (some d = some t) := by simpa using e
   rw [if_neg e, if_neg hn]
theorem Zil (sl : Sl) {ws ws' : List Operand} {d d' : Option Tmp} (v v' : AV) (h1 : ∀ t, t ∈ tmpsOf ws ∨ d = some t → ¬ (t ∈ tmpsOf ws' ∨ d' = some t)) :
  Eqv (upd (upd sl ws d v) ws' d' v') (upd (upd sl ws' d' v') ws d v) := by
 intro t
 simp only [Z2Y]
 by_cases a : d = some t
 ·have := h1 t (.inr a)
  simp only [not_or] at this
  rw [if_neg this.2, if_neg this.1, if_pos a, if_pos a]
 ·by_cases a' : d' = some t
  ·have h2 : ¬ (t ∈ tmpsOf ws) := fun h => h1 t (.inl h) (.inr a')
   rw [if_pos a', if_neg a, if_neg h2, if_pos a']
  ·simp only [if_neg a, if_neg a']
   by_cases b : t ∈ tmpsOf ws
   ·have := h1 t (.inl b)
    simp only [not_or] at this
    rw [if_neg this.1, if_pos b, if_pos b, if_neg this.1]
   ·simp only [if_neg b]
def Z1X (H : Hints) (f : FuncId) (o : Oper) : List Nat := o.dst.toList ++ tmpsOf (wk H f o)
def Z2g (H : Hints) (f : FuncId) (ops : Array Oper) (x o : Oper) : Bool :=
 (Z1X H f x).all (fun t => !(o.looksAt ops).contains t && !(Z1X H f o).contains t) && (Z1X H f o).all (fun t => !(x.looksAt ops).contains t)
section
variable {P : Program} {H : Hints} {f : FuncId} {G : GF} {ops : Array Oper}
theorem Z1D {o : Oper} {t : Nat} : t ∈ Z1X H f o ↔ o.dst = some t ∨ t ∈ tmpsOf (wk H f o) := by
 unfold Z1X
 simp [Option.mem_toList]
theorem Z2Q {x o : Oper} (h : Z2g H f ops x o = true) :
  (∀ t, t ∈ Z1X H f x → t ∉ o.looksAt ops ∧ t ∉ Z1X H f o) ∧ ∀ t, t ∈ Z1X H f o → t ∉ x.looksAt ops := by
 unfold Z2g at h
 simp only [q5_, Z2w, Z79, Zcs, decide_eq_false_iff_not] at h
 exact h
theorem Tr.upd {o : Oper} {sl sl' : Sl} {B B' : List Row} (h : Tr P H f G ops o sl B sl' B') : ∃ ws v, Eqv sl' (upd sl ws o.dst v) ∧ (∀ t, t ∈ tmpsOf ws → t ∈ tmpsOf (wk H f o)) := by
 rcases h with ⟨_, v, _, h⟩ | ⟨_, _, h⟩
 ·exact ⟨_, v, h, fun _ h => h⟩
 ·exact ⟨[], ud, h, fun t ht => by simp [tmpsOf] at ht⟩
theorem Tr.keep {o : Oper} {sl sl' : Sl} {B B' : List Row} (h : Tr P H f G ops o sl B sl' B') {t : Nat} (ht : t ∉ Z1X H f o) : get sl' t = get sl t := by
 obtain ⟨ws, v, h1, h2⟩ := h.upd
 rw [Z1D, not_or] at ht
 rw [h1, Z2Y, if_neg ht.1, if_neg (fun h => ht.2 (h2 t h))]
theorem Tr.sh {o : Oper} {sl sl' : Sl} {B B' : List Row} (h : Tr P H f G ops o sl B sl' B') {t : Nat} (ht : o.dst ≠ some t) : ShEq (get sl' t) (get sl t) := by
 obtain ⟨ws, v, h1, h2⟩ := h.upd
 rw [h1, Z2Y, if_neg ht]
 split
 ·exact ShEq.shr _
 ·exact .refl _
theorem Run.sh {slF : Sl} {BF : List Row} {t : Nat} : ∀ (l : List Nat) (sl : Sl) (B : List Row), Run P H f G ops l sl B slF BF → (∀ k o, k ∈ l → ops[k]? = some o → o.dst ≠ some t) → ShEq (get slF t) (get sl t)
 | [], sl, B, h, _ => by rw [h.1]; exact .refl _
 | i :: l, sl, B, h, hd => by
  obtain ⟨o, s1, B1, q1, q2, q3⟩ := h
  exact (Run.sh l s1 B1 q3 fun k o hk => hd k o (by simp [hk])).trans (q2.sh (hd i o (by simp) q1))
theorem Z80 {sl sl' : Sl} {o : Oper} (h : ∀ t, t ∈ o.looksAt ops → get sl' t = get sl t) : (∀ y, y ∈ o.op.operands → ev sl' y = ev sl y) ∧ want ops o sl' = want ops o sl := by
 constructor
 ·intro y hy
  cases y with
  | tmp t => exact h t (Zct _ (List.mem_filterMap.2 ⟨.tmp t, by simpa using hy, rfl⟩))
  | const c =>
   exact Eqv.ev (sl := sl') (sl' := sl') (.refl _) _ |>.trans (by cases c <;> first | rfl | (rename_i a n m; cases a <;> first | rfl | (cases n <;> cases m <;> rfl)))
  | global g => rfl
  | func g => rfl
 ·unfold want
  split
  ·rfl
  ·rename_i j w hg
   split
   ·rfl
   ·rename_i d hd
    rw [h d (Zcq _ (by simp [hg, hd]))]
theorem swap {p i : Oper} {sl s1 s2 : Sl} {B B1 B2 : List Row} (hap : Z2g H f ops p i = true) (h1 : Tr P H f G ops p sl B s1 B1) (h2 : Tr P H f G ops i s1 B1 s2 B2)
  (hB : ∀ v u, Fop P H f G p sl B = some (v, B1) → Fop P H f G i sl B1 = some (u, B2) → Eqv s2 (upd (upd sl (wk H f p) p.dst v) (wk H f i) i.dst u) →
   ∃ B1', Fop P H f G i sl B = some (u, B1') ∧ Fop P H f G p sl B1' = some (v, B2)) :
  ∃ s1' B1' s2', Tr P H f G ops i sl B s1' B1' ∧ Tr P H f G ops p s1' B1' s2' B2 ∧ Eqv s2' s2 := by
 obtain ⟨a1, a2⟩ := Z2Q hap
 have keep1 : ∀ t, t ∈ i.looksAt ops → get s1 t = get sl t := fun t ht => h1.keep fun h => (a1 t h).1 ht
 obtain ⟨e1, w1⟩ := Z80 keep1
 have comm : ∀ (ws ws' : List Operand) (v v' : AV), (∀ t, t ∈ tmpsOf ws → t ∈ tmpsOf (wk H f p)) → (∀ t, t ∈ tmpsOf ws' → t ∈ tmpsOf (wk H f i)) →
   Eqv (upd (upd sl ws p.dst v) ws' i.dst v') (upd (upd sl ws' i.dst v') ws p.dst v) := by
  intro ws ws' v v' hw hw'
  refine Zil sl v v' fun t ht ht' => ?_
  have m1 : t ∈ Z1X H f p := Z1D.2 (ht.elim (fun h => .inr (hw t h)) .inl)
  have m2 : t ∈ Z1X H f i := Z1D.2 (ht'.elim (fun h => .inr (hw' t h)) .inl)
  exact (a1 t m1).2 m2
 have after : ∀ (ws' : List Operand) (v' : AV), (∀ t, t ∈ tmpsOf ws' → t ∈ tmpsOf (wk H f i)) → (∀ y, y ∈ p.op.operands → ev (upd sl ws' i.dst v') y = ev sl y) ∧ want ops p (upd sl ws' i.dst v') = want ops p sl := by
  intro ws' v' hw'
  refine Z80 fun t ht => ?_
  have hn : t ∉ Z1X H f i := fun h => a2 t h ht
  rw [Z1D, not_or] at hn
  rw [Z2Y, if_neg hn.1, if_neg (fun h => hn.2 (hw' t h))]
 have updc : ∀ {x y : Sl} (ws : List Operand) (d : Option Tmp) (v : AV), Eqv x y → Eqv (upd x ws d v) (upd y ws d v) := fun ws d v h => Eqv.put (Eqv.weakL ws h) d v
 rcases h1 with ⟨g1, v, g2, g3⟩ | ⟨g1, rfl, g3⟩ <;> rcases h2 with ⟨k1, u, k2, k3⟩ | ⟨k1, rfl, k3⟩
 ·rw [w1] at k1
  rw [Z2A P H f G i s1 sl B1 e1] at k2
  have hs2 : Eqv s2 (upd (upd sl (wk H f p) p.dst v) (wk H f i) i.dst u) := k3.trans (updc _ _ _ g3)
  obtain ⟨B1', q1, q2⟩ := hB v u g2 k2 hs2
  obtain ⟨e2, w2⟩ := after (wk H f i) u fun _ h => h
  refine ⟨upd sl (wk H f i) i.dst u, B1', upd (upd sl (wk H f i) i.dst u) (wk H f p) p.dst v, .inl ⟨k1, u, q1, .refl _⟩, .inl ⟨by rw [w2]; exact g1, v, ?_, .refl _⟩, ?_⟩
  ·rw [Z2A P H f G p _ sl B1' e2]; exact q2
  ·exact (comm _ _ v u (fun _ h => h) (fun _ h => h)).symm.trans hs2.symm
 ·rw [w1] at k1
  have hs2 : Eqv s2 (upd (upd sl (wk H f p) p.dst v) [] i.dst ud) := k3.trans (updc [] _ _ g3)
  obtain ⟨e2, w2⟩ := after [] ud fun t h => by simp [tmpsOf] at h
  refine ⟨upd sl [] i.dst ud, B, upd (upd sl [] i.dst ud) (wk H f p) p.dst v, .inr ⟨k1, rfl, .refl _⟩, .inl ⟨by rw [w2]; exact g1, v, ?_, .refl _⟩, ?_⟩
  ·rw [Z2A P H f G p _ sl B e2]; exact g2
  ·exact (comm _ [] v ud (fun _ h => h) (fun t h => by simp [tmpsOf] at h)).symm.trans hs2.symm
 ·rw [w1] at k1
  rw [Z2A P H f G i s1 sl _ e1] at k2
  have hs2 : Eqv s2 (upd (upd sl [] p.dst ud) (wk H f i) i.dst u) := k3.trans (updc _ _ _ g3)
  obtain ⟨e2, w2⟩ := after (wk H f i) u fun _ h => h
  refine ⟨upd sl (wk H f i) i.dst u, B2, upd (upd sl (wk H f i) i.dst u) [] p.dst ud, .inl ⟨k1, u, k2, .refl _⟩, .inr ⟨by rw [w2]; exact g1, rfl, .refl _⟩, ?_⟩
  exact (comm [] _ ud u (fun t h => by simp [tmpsOf] at h) (fun _ h => h)).symm.trans hs2.symm
 ·rw [w1] at k1
  have hs2 : Eqv s2 (upd (upd sl [] p.dst ud) [] i.dst ud) := k3.trans (updc [] _ _ g3)
  obtain ⟨e2, w2⟩ := after [] ud fun t h => by simp [tmpsOf] at h
  refine ⟨upd sl [] i.dst ud, _, upd (upd sl [] i.dst ud) [] p.dst ud, .inr ⟨k1, rfl, .refl _⟩, .inr ⟨by rw [w2]; exact g1, rfl, .refl _⟩, ?_⟩
  exact (comm [] [] ud ud (fun t h => by simp [tmpsOf] at h) (fun t h => by simp [tmpsOf] at h)).symm.trans hs2.symm
def Z1m (o : Oper) : List Nat := (match addrOf o with | some a => tmpsOf [a] | none => []) ++ (match o.op with | .call c => tmpsOf c.args.toList | _ => [])
theorem Z4b {o : Oper} {t : Nat} (h : t ∈ Z1m o) : t ∈ o.looksAt ops := by
 refine Zct _ (List.mem_filterMap.2 ⟨.tmp t, ?_, rfl⟩)
 rcases o with ⟨dst, op, ty, pos, after, guard⟩
 unfold Z1m addrOf at h
 cases op <;> simp only [Z65, Zcx] at h <;> try (simp at h; done)
 case load t' a => rw [Z1u] at h; simpa [Op.operands] using h
 case store t' a x => rw [Z1u] at h; simp only [Z2O] at h; simp [Op.operands, h]
 case lookup t' m x c => rw [Z1u] at h; simp only [Z2O] at h; simp [Op.operands, h]
 case call c =>
  rw [Z1u] at h
  simp only [Op.operands, Call.operands, Array.toList_append, Z4f]
  exact .inr h
inductive Kind (P : Program) (H : Hints) (f : FuncId) (G : GF) (o : Oper) (sl : Sl) (v : AV) : Cls → Prop
 | ind (c : Cls) : (∀ B, Fop P H f G o sl B = some (v, B)) → Kind P H f G o sl v c
 | loc (c : Cls) (a : Operand) (id : Nat) : (c = .rd ∨ c = .wr ∨ c = .ol) → addrOf o = some a → IsAt (ev sl a) id → Z21 P H f G o sl id (c == .rd) → Kind P H f G o sl v c
 | new : News P H f G o sl → Kind P H f G o sl v .new
 | loud : Kind P H f G o sl v .loud
 | near (c : Call) : o.op = .call c → Near P H f G o sl (ZI (evs sl c.args)) → Kind P H f G o sl v .near
 | pure (c : Call) : o.op = .call c → (ZI (evs sl c.args) = [] → ptrs v = [] → ∀ B, Fop P H f G o sl B = some (v, B)) → Kind P H f G o sl v .pure
theorem ZdJ {o : Oper} {sl : Sl} {B B' : List Row} {v : AV} (h : Fop P H f G o sl B = some (v, B')) : Kind P H f G o sl v (cls P H f o) := by
 cases hc : cls P H f o with
 | free =>
  obtain ⟨x, hx⟩ := Zhs (G := G) (sl := sl) hc
  rw [hx] at h
  cases x with
  | none => simp at h
  | some x =>
   simp only [Z2x, ZO, Z3a] at h
   exact .ind _ fun B => by rw [hx, ← h.1]; rfl
 | new => exact .new (Zjk hc)
 | loud => exact .loud
 | near =>
  obtain ⟨c, h1, h2⟩ := Zhu (G := G) (sl := sl) hc
  exact .near c h1 h2
 | pure =>
  obtain ⟨c, h1, h2⟩ := Zhv (G := G) (sl := sl) hc
  exact .pure c h1 fun a b => h2 B v B' h a b
 | rd =>
  obtain ⟨a, h1, h2⟩ := Z9N (G := G) (sl := sl) (.inl hc)
  split at h2
  ·rename_i id off heq; rw [hc] at h2; exact .loc _ a id (.inl rfl) h1 (.inl ⟨off, heq⟩) h2
  ·rename_i id heq; rw [hc] at h2; exact .loc _ a id (.inl rfl) h1 (.inr heq) h2
  ·obtain ⟨x, hx⟩ := h2
   rw [hx] at h
   cases x with
   | none => simp at h
   | some x =>
    simp only [Z2x, ZO, Z3a] at h
    exact .ind _ fun B => by rw [hx, ← h.1]; rfl
  ·rw [h2] at h; simp at h
 | wr =>
  obtain ⟨a, h1, h2⟩ := Z9N (G := G) (sl := sl) (.inr (.inl hc))
  split at h2
  ·rename_i id off heq; rw [hc] at h2; exact .loc _ a id (.inr (.inl rfl)) h1 (.inl ⟨off, heq⟩) h2
  ·rename_i id heq; rw [hc] at h2; exact .loc _ a id (.inr (.inl rfl)) h1 (.inr heq) h2
  ·obtain ⟨x, hx⟩ := h2
   rw [hx] at h
   cases x with
   | none => simp at h
   | some x =>
    simp only [Z2x, ZO, Z3a] at h
    exact .ind _ fun B => by rw [hx, ← h.1]; rfl
  ·rw [h2] at h; simp at h
 | ol =>
  obtain ⟨a, h1, h2⟩ := Z9N (G := G) (sl := sl) (.inr (.inr hc))
  split at h2
  ·rename_i id off heq; rw [hc] at h2; exact .loc _ a id (.inr (.inr rfl)) h1 (.inl ⟨off, heq⟩) h2
  ·rename_i id heq; rw [hc] at h2; exact .loc _ a id (.inr (.inr rfl)) h1 (.inr heq) h2
  ·obtain ⟨x, hx⟩ := h2
   rw [hx] at h
   cases x with
   | none => simp at h
   | some x =>
    simp only [Z2x, ZO, Z3a] at h
    exact .ind _ fun B => by rw [hx, ← h.1]; rfl
  ·rw [h2] at h; simp at h
theorem Zb9 {p i : Oper} {sl : Sl} {B B1 B2 : List Row} {v u : AV} (hp : ∀ B, Fop P H f G p sl B = some (v, B)) (h1 : Fop P H f G p sl B = some (v, B1)) (h2 : Fop P H f G i sl B1 = some (u, B2)) :
  ∃ B1', Fop P H f G i sl B = some (u, B1') ∧ Fop P H f G p sl B1' = some (v, B2) := by
 rw [hp] at h1
 simp only [ZO, Z3a, true_and] at h1
 subst h1
 exact ⟨B2, h2, hp B2⟩
theorem Z5Q {p i : Oper} {sl : Sl} {B B1 B2 : List Row} {v u : AV} (hi : ∀ B, Fop P H f G i sl B = some (u, B)) (h1 : Fop P H f G p sl B = some (v, B1)) (h2 : Fop P H f G i sl B1 = some (u, B2)) :
  ∃ B1', Fop P H f G i sl B = some (u, B1') ∧ Fop P H f G p sl B1' = some (v, B2) := by
 rw [hi] at h2
 simp only [ZO, Z3a, true_and] at h2
 subst h2
 exact ⟨B, hi B, h1⟩
theorem Z21.run {o : Oper} {sl : Sl} {id : Nat} {rd : Bool} {B B' : List Row} {v : AV} (h : Z21 P H f G o sl id rd) (hf : Fop P H f G o sl B = some (v, B')) :
  ∃ row row', B[id]? = some row ∧ B' = B.set id row' ∧ (rd = true → row' = row) ∧ ∀ C : List Row, C[id]? = some row → Fop P H f G o sl C = some (v, C.set id row') := by
 obtain ⟨φ, h1, h2⟩ := h
 rw [h1] at hf
 cases hB : B[id]? with
 | none => rw [hB] at hf; simp at hf
 | some row =>
  rw [hB] at hf
  simp only [q3_] at hf
  obtain ⟨q, hq, e⟩ := q4_.1 hf
  simp only [Z3a] at e
  refine ⟨row, q.2, rfl, e.2.symm, fun hr => h2 hr row q hq, fun C hC => ?_⟩
  rw [h1, hC]
  simp only [q3_, hq, Z2x, e.1]
theorem Z3O {B : List Row} {id : Nat} {row : Row} (h : B[id]? = some row) : B.set id row = B := by
 apply Z7b
 intro i
 rw [Z3o]
 split
 ·rename_i e
  subst e
  rw [if_pos (q1_.1 h).1, h]
 ·rfl
structure Asked (p i : Oper) (sl s2 : Sl) (v u : AV) : Prop where
 rp : ∀ t, t ∈ Z1m p → ShEq (get s2 t) (get sl t)
 ri : ∀ t, t ∈ Z1m i → ShEq (get s2 t) (get sl t)
 dp : ∀ d, p.dst = some d → ShEq (get s2 d) v
 di : ∀ d, i.dst = some d → ShEq (get s2 d) u
theorem Z7w {sl s2 : Sl} {a : Operand} (h : ∀ t, t ∈ tmpsOf [a] → ShEq (get s2 t) (get sl t)) : ShEq (ev s2 a) (ev sl a) := by
 cases a with
 | tmp t => exact h t (by simp [tmpsOf])
 | const c => cases c <;> first | rfl | (rename_i a n m; cases a <;> first | rfl | (cases n <;> cases m <;> rfl))
 | global g => rfl
 | func g => rfl
theorem Z7j {o : Oper} {sl s2 : Sl} {a : Operand} (ha : addrOf o = some a) (h : ∀ t, t ∈ Z1m o → ShEq (get s2 t) (get sl t)) : ShEq (ev s2 a) (ev sl a) := by
 refine Z7w fun t ht => h t ?_
 unfold Z1m
 rw [ha]
 exact Zct _ ht
theorem Z4B {o : Oper} {c : Call} {sl s2 : Sl} {v : AV} (ho : o.op = .call c) (hr : ∀ t, t ∈ Z1m o → ShEq (get s2 t) (get sl t)) (hd : ∀ d, o.dst = some d → ShEq (get s2 d) v)
  (hk : ∀ q, q ∈ Z3d o → Z1v s2 q = true) : ZI (evs sl c.args) = [] ∧ ptrs v = [] := by
 have hargs : ∀ y, y ∈ c.args.toList → ptrs (ev s2 y) = ptrs (ev sl y) := by
  intro y hy
  refine (Z7w (sl := sl) (s2 := s2) fun t ht => hr t ?_).ptrs
  rw [Z1u] at ht
  simp only [Z2O] at ht
  unfold Z1m
  rw [ho]
  exact Zcq _ (Z1u.2 (ht ▸ hy))
 have hnil : ∀ (l : List AV), Z72 l = true → ∀ x, x ∈ l → ptrs x = [] := by
  intro l hl x hx
  unfold Z72 at hl
  have : ZI l = [] := by simpa using hl
  cases hp : ptrs x with
  | nil => rfl
  | cons i r =>
   have : i ∈ ZI l := Z1x.2 ⟨x, hx, by rw [hp]; simp⟩
   simp_all
 have hall : ∀ l : List Operand, Z72 (l.map (ev s2)) = true → (∀ y, y ∈ c.args.toList → y ∈ l) → ZI (evs sl c.args) = [] := by
  intro l hl hsub
  cases hp : ZI (evs sl c.args) with
  | nil => rfl
  | cons i r =>
   have : i ∈ ZI (evs sl c.args) := by rw [hp]; simp
   obtain ⟨x, hx, hi⟩ := Z1x.1 this
   unfold evs at hx
   obtain ⟨y, hy, rfl⟩ := Z1B.1 hx
   rw [← hargs y hy, hnil _ hl (ev s2 y) (Z1B.2 ⟨y, hsub y hy, rfl⟩)] at hi
   simp at hi
 unfold Z3d at hk
 rw [ho] at hk
 cases hdd : o.dst with
 | none =>
  rw [hdd] at hk
  have := hk _ (Z2O.2 rfl)
  simp [Z1v, ev, scal, Z3l] at this
 | some d =>
  rw [hdd] at hk
  have := hk (.np (.tmp d :: c.args.toList)) (by simp)
  refine ⟨hall _ this fun y hy => by simp [hy], ?_⟩
  rw [← (hd d hdd).ptrs]
  exact hnil _ this (get s2 d) (by simp [ev])
end
end Go.Abs
end
section
namespace Go.Abs
open Go
section
variable {P : Program} {H : Hints} {f : FuncId} {G : GF} {ops : Array Oper}
theorem ZdK {p i : Oper} {sl : Sl} {B B1 B2 : List Row} {v u : AV} {id id' : Nat} {rd rd' : Bool} (hp : Z21 P H f G p sl id rd) (hi : Z21 P H f G i sl id' rd') (hne : id ≠ id' ∨ (rd = true ∧ rd' = true))
  (h1 : Fop P H f G p sl B = some (v, B1)) (h2 : Fop P H f G i sl B1 = some (u, B2)) : ∃ B1', Fop P H f G i sl B = some (u, B1') ∧ Fop P H f G p sl B1' = some (v, B2) := by
 obtain ⟨r, r', p1, rfl, p2, p3⟩ := hp.run h1
 obtain ⟨q, q', i1, rfl, i2, i3⟩ := hi.run h2
 by_cases e : id = id'
 ·obtain ⟨hr, hr'⟩ := hne.resolve_left (fun h => h e)
  subst e
  have e1 := p2 hr
  have e2 := i2 hr'
  subst e1 e2
  rw [Z3O p1] at i1 ⊢
  rw [p1] at i1
  cases i1
  rw [Z3O p1]
  refine ⟨B, ?_, ?_⟩
  ·have := i3 B p1; rw [Z3O p1] at this; exact this
  ·have := p3 B p1; rw [Z3O p1] at this; exact this
 ·have hid' : B[id']? = some q := by rw [Z3o, if_neg e] at i1; exact i1
  refine ⟨_, i3 B hid', ?_⟩
  have hid : (B.set id' q')[id]? = some r := by rw [Z3o, if_neg (fun h => e h.symm)]; exact p1
  rw [p3 _ hid, List.set_comm _ _ e]
theorem Zk1 {p i : Oper} {sl : Sl} {B B1 B2 : List Row} {v u : AV} {id : Nat} {rd : Bool} (hp : Z21 P H f G p sl id rd) (hi : News P H f G i sl)
  (h1 : Fop P H f G p sl B = some (v, B1)) (h2 : Fop P H f G i sl B1 = some (u, B2)) : ∃ B1', Fop P H f G i sl B = some (u, B1') ∧ Fop P H f G p sl B1' = some (v, B2) := by
 obtain ⟨r, r', p1, rfl, p2, p3⟩ := hp.run h1
 obtain ⟨x, hx⟩ := hi
 rw [hx] at h2
 cases x with
 | none => simp at h2
 | some row =>
  simp only [Z2x, List.length_set, ZO, Z3a] at h2
  obtain ⟨rfl, rfl⟩ := h2
  have hlt := (q1_.1 p1).1
  refine ⟨B ++ [row], by rw [hx]; rfl, ?_⟩
  rw [p3 (B ++ [row]) (by rw [Z3M, if_pos hlt]; exact p1)]
  rw [List.set_append, if_pos hlt]
theorem Zk6 {p i : Oper} {sl : Sl} {B B1 B2 : List Row} {v u : AV} {id : Nat} {rd : Bool} (hp : News P H f G p sl) (hi : Z21 P H f G i sl id rd) (hne : v ≠ .ptr id 0)
  (h1 : Fop P H f G p sl B = some (v, B1)) (h2 : Fop P H f G i sl B1 = some (u, B2)) : ∃ B1', Fop P H f G i sl B = some (u, B1') ∧ Fop P H f G p sl B1' = some (v, B2) := by
 obtain ⟨q, q', i1, rfl, i2, i3⟩ := hi.run h2
 obtain ⟨x, hx⟩ := hp
 rw [hx] at h1
 cases x with
 | none => simp at h1
 | some row =>
  simp only [Z2x, ZO, Z3a] at h1
  obtain ⟨rfl, rfl⟩ := h1
  have hlt : id < B.length := by
   have := (q1_.1 i1).1
   simp only [Z2J, Z38, Z3p] at this
   rcases Z22 id B.length with h | h
   ·exact h
   ·have : id = B.length := by omega
    exact absurd (by rw [this]) hne
  rw [Z3M, if_pos hlt] at i1
  refine ⟨_, i3 B i1, ?_⟩
  rw [hx]
  simp only [Z2x, List.length_set, ZO, Z3a, true_and]
  rw [List.set_append, if_pos hlt]
theorem Z5Z {x y : AV} {id id' : Nat} (hx : IsAt x id) (hy : IsAt y id') (h : Z3l x y = true) : id ≠ id' := by
 rcases hx with ⟨_, rfl⟩ | rfl <;> rcases hy with ⟨_, rfl⟩ | rfl <;> simpa [Z3l] using h
theorem Zk5 {p i : Oper} {sl s2 : Sl} {v u : AV} (hA : Asked p i sl s2 v u) {a b : Operand} {id id' : Nat} (ha : addrOf p = some a) (hb : addrOf i = some b) (ea : IsAt (ev sl a) id) (eb : IsAt (ev sl b) id')
  (hq : Z1v s2 (.ne a b) = true) : id ≠ id' := by
 simp only [Z1v] at hq
 rw [Z60 (Z7j ha hA.rp) (Z7j hb hA.ri)] at hq
 exact Z5Z ea eb hq
theorem Zm2 {o : Oper} {sl s2 : Sl} {v : AV} {d : Tmp} {a : Operand} {id : Nat} (hr : ∀ t, t ∈ Z1m o → ShEq (get s2 t) (get sl t)) (hv : ShEq (get s2 d) v) (ha : addrOf o = some a) (ea : IsAt (ev sl a) id)
  (hq : Z1v s2 (.ne a (.tmp d)) = true) : v ≠ .ptr id 0 := by
 rintro rfl
 simp only [Z1v] at hq
 rw [Z60 (Z7j ha hr) (show ShEq (ev s2 (.tmp d)) (.ptr id 0) from hv)] at hq
 exact Z5Z ea (.inl ⟨0, rfl⟩) hq rfl
theorem ZhR {p i : Oper} {sl : Sl} {B B1 B2 : List Row} {v u : AV} {id : Nat} {rd : Bool} {ids : List Nat} (hp : Z21 P H f G p sl id rd) (hi : Near P H f G i sl ids) (hid : id ∉ ids)
  (h1 : Fop P H f G p sl B = some (v, B1)) (h2 : Fop P H f G i sl B1 = some (u, B2)) : ∃ B1', Fop P H f G i sl B = some (u, B1') ∧ Fop P H f G p sl B1' = some (v, B2) := by
 obtain ⟨r, r', p1, rfl, _, p3⟩ := hp.run h1
 obtain ⟨k1, k2⟩ := hi _ _ _ h2 id hid
 have hlt : id < B.length := (q1_.1 p1).1
 have e1 : (B.set id r')[id]? = some r' := by rw [Z3o, if_pos rfl, if_pos hlt]
 rw [e1] at k1
 have hlt2 : id < B2.length := (q1_.1 k1).1
 have h3 := k2 r
 rw [List.set_set, Z3O p1] at h3
 refine ⟨_, h3, ?_⟩
 rw [p3 (B2.set id r) (by rw [Z3o, if_pos rfl, if_pos hlt2]), List.set_set, Z3O k1]
theorem ZhV {p i : Oper} {sl : Sl} {B B1 B2 : List Row} {v u : AV} {id : Nat} {rd : Bool} {ids : List Nat} (hp : Near P H f G p sl ids) (hi : Z21 P H f G i sl id rd) (hid : id ∉ ids)
  (h1 : Fop P H f G p sl B = some (v, B1)) (h2 : Fop P H f G i sl B1 = some (u, B2)) : ∃ B1', Fop P H f G i sl B = some (u, B1') ∧ Fop P H f G p sl B1' = some (v, B2) := by
 obtain ⟨r, r', p1, rfl, _, p3⟩ := hi.run h2
 obtain ⟨k1, k2⟩ := hp _ _ _ h1 id hid
 exact ⟨_, p3 B (k1 ▸ p1), k2 r'⟩
theorem Zhi {id : Nat} {x z : AV} (hx : IsAt x id) (h : Z3l x z = true) : id ∉ ptrs z := by
 cases z with
 | ptr j o => have := Z5Z hx (.inl ⟨o, rfl⟩) h; simp [ptrs, this]
 | mp j => have := Z5Z hx (.inr rfl) h; simp [ptrs, this]
 | p y => simp [ptrs]
 | cptr c => simp [ptrs]
 | _ => rcases hx with ⟨_, rfl⟩ | rfl <;> simp [Z3l] at h
theorem Zgq {x y : Oper} {c : Call} {ab : List Ask} {sl s2 : Sl} {a : Operand} {id : Nat} (hab : Z3s x y = some ab) (hq : ∀ q, q ∈ ab → Z1v s2 q = true) (ha : addrOf x = some a) (hy : y.op = .call c) (ea : IsAt (ev sl a) id)
  (hx : ∀ t, t ∈ Z1m x → ShEq (get s2 t) (get sl t)) (hc : ∀ t, t ∈ Z1m y → ShEq (get s2 t) (get sl t)) : id ∉ ZI (evs sl c.args) := by
 unfold Z3s at hab
 rw [ha, hy] at hab
 simp only [ZO] at hab
 subst hab
 intro hid
 obtain ⟨z, hz, hi⟩ := Z1x.1 hid
 unfold evs at hz
 obtain ⟨b, hb, rfl⟩ := Z1B.1 hz
 have h := hq (.ne a b) (Z1B.2 ⟨b, hb, rfl⟩)
 have hne : Z3l (ev s2 a) (ev s2 b) = Z3l (ev sl a) (ev sl b) := by
  refine Z60 (Z7j ha hx) (Z7w fun t ht => hc t ?_)
  rw [Z1u] at ht
  simp only [Z2O] at ht
  unfold Z1m
  rw [hy]
  exact Zcq _ (Z1u.2 (ht ▸ hb))
 simp only [Z1v] at h
 rw [hne] at h
 exact Zhi ea h hi
theorem Ze8 {p i : Oper} {sl s2 : Sl} {B B1 B2 : List Row} {v u : AV} {ab : List Ask} (hab : Z2R P H f p i = some ab) (hq : ∀ q, q ∈ ab → Z1v s2 q = true) (hA : Asked p i sl s2 v u)
  (h1 : Fop P H f G p sl B = some (v, B1)) (h2 : Fop P H f G i sl B1 = some (u, B2)) : ∃ B1', Fop P H f G i sl B = some (u, B1') ∧ Fop P H f G p sl B1' = some (v, B2) := by
 have kp := ZdJ h1
 have ki := ZdJ h2
 unfold Z2R at hab
 generalize cls P H f p = cp at kp hab
 generalize cls P H f i = ci at ki hab
 cases kp with
 | ind _ hp => exact Zb9 hp h1 h2
 | loc c a id hc ha ea hl =>
  cases ki with
  | ind _ hi => exact Z5Q hi h1 h2
  | loc c' a' id' hc' ha' ea' hl' =>
   rcases hc with rfl | rfl | rfl <;> rcases hc' with rfl | rfl | rfl <;> first
    | exact ZdK hl hl' (.inr ⟨rfl, rfl⟩) h1 h2
    | (simp only [ha, ha', ZO] at hab
       subst hab
       exact ZdK hl hl' (.inl (Zk5 hA ha ha' ea ea' (hq _ (by simp)))) h1 h2)
  | new hi => exact Zk1 hl hi h1 h2
  | loud => rcases hc with rfl | rfl | rfl <;> simp at hab
  | near c' ho hi =>
   have hab' : Z3s p i = some ab := by rcases hc with rfl | rfl | rfl <;> exact hab
   exact ZhR hl hi (Zgq hab' hq ha ho ea hA.rp hA.ri) h1 h2
  | pure c' ho hi =>
   have : ∀ q, q ∈ Z3d i → Z1v s2 q = true := by
    rcases hc with rfl | rfl | rfl <;> (simp only [ZO] at hab; subst hab; exact hq)
   obtain ⟨e1, e2⟩ := Z4B ho hA.ri hA.di this
   exact Z5Q (hi e1 e2) h1 h2
 | new hp =>
  cases ki with
  | ind _ hi => exact Z5Q hi h1 h2
  | loc c' a' id' hc' ha' ea' hl' =>
   cases hd : p.dst with
   | none => rcases hc' with rfl | rfl | rfl <;> simp [Z7C, hd] at hab
   | some d =>
    have hab' : [Ask.ne a' (.tmp d)] = ab := by rcases hc' with rfl | rfl | rfl <;> simpa [Z7C, hd, ha'] using hab
    subst hab'
    exact Zk6 hp hl' (Zm2 hA.ri (hA.dp d hd) ha' ea' (hq _ (by simp))) h1 h2
  | new hi => simp at hab
  | loud => simp at hab
  | near c' ho hi => simp at hab
  | pure c' ho hi =>
   simp only [ZO] at hab
   subst hab
   obtain ⟨e1, e2⟩ := Z4B ho hA.ri hA.di hq
   exact Z5Q (hi e1 e2) h1 h2
 | near c ho hp =>
  cases ki with
  | ind _ hi => exact Z5Q hi h1 h2
  | loc c' a' id' hc' ha' ea' hl' =>
   have hab' : Z3s i p = some ab := by rcases hc' with rfl | rfl | rfl <;> exact hab
   exact ZhV hp hl' (Zgq hab' hq ha' ho ea' hA.ri hA.rp) h1 h2
  | _ => simp at hab
 | loud =>
  cases ki with
  | ind _ hi => exact Z5Q hi h1 h2
  | loc c' a' id' hc' ha' ea' hl' => rcases hc' with rfl | rfl | rfl <;> simp at hab
  | _ => simp at hab
 | pure c ho hp =>
  cases ki with
  | ind _ hi => exact Z5Q hi h1 h2
  | loc c' a' id' hc' ha' ea' hl' =>
   have : ∀ q, q ∈ Z3d p → Z1v s2 q = true := by
    rcases hc' with rfl | rfl | rfl <;> (simp only [ZO] at hab; subst hab; exact hq)
   obtain ⟨e1, e2⟩ := Z4B ho hA.rp hA.dp this
   exact Zb9 (hp e1 e2) h1 h2
  | new hi =>
   simp only [ZO] at hab
   subst hab
   obtain ⟨e1, e2⟩ := Z4B ho hA.rp hA.dp hq
   exact Zb9 (hp e1 e2) h1 h2
  | loud => simp at hab
  | near c' ho' hi => simp at hab
  | pure c' ho' hi =>
   simp only [ZO] at hab
   subst hab
   obtain ⟨e1, e2⟩ := Z4B ho hA.rp hA.dp fun q hq' => hq q (Zct _ hq')
   exact Zb9 (hp e1 e2) h1 h2
def Later (x o : Oper) : Prop := ∀ d, o.dst = some d → d ∉ Z1m x ∧ x.dst ≠ some d
theorem ZfH {s s' : Sl} {q : Ask} {p i : Oper} {ab : List Ask} (hab : Z2R P H f p i = some ab) (hq : q ∈ ab)
  (hp : ∀ t, (t ∈ Z1m p ∨ p.dst = some t) ∨ (t ∈ Z1m i ∨ i.dst = some t) → ShEq (get s t) (get s' t)) : Z1v s q = Z1v s' q := by
 have ne : ∀ (a b : Operand), (∀ t, t ∈ tmpsOf [a] → ShEq (get s t) (get s' t)) → (∀ t, t ∈ tmpsOf [b] → ShEq (get s t) (get s' t)) → Z1v s (.ne a b) = Z1v s' (.ne a b) := by
  intro a b ha hb
  exact Z60 (Z7w ha) (Z7w hb)
 have addr : ∀ {x : Oper} {a : Operand} {t : Nat}, addrOf x = some a → t ∈ tmpsOf [a] → t ∈ Z1m x := by
  intro x a t hx ht
  unfold Z1m
  rw [hx]
  exact Zct _ ht
 have np : ∀ {x : Oper}, (∀ t, t ∈ Z1m x ∨ x.dst = some t → ShEq (get s t) (get s' t)) → q ∈ Z3d x → Z1v s q = Z1v s' q := by
  intro x hx hm
  unfold Z3d at hm
  split at hm
  ·rename_i c d ho hd
   simp only [Z2O] at hm
   subst hm
   have : ∀ y, y ∈ (Operand.tmp d :: c.args.toList) → ptrs (ev s y) = ptrs (ev s' y) := by
    intro y hy
    refine (Z7w fun t ht => hx t ?_).ptrs
    rw [Z1u] at ht
    simp only [Z2O] at ht
    rw [← ht] at hy
    rcases Z1K.1 hy with e | hy
    ·cases e; exact .inr hd
    ·refine .inl ?_
     unfold Z1m
     rw [ho]
     exact Zcq _ (Z1u.2 hy)
   have hl : ∀ l : List Operand, (∀ y, y ∈ l → ptrs (ev s y) = ptrs (ev s' y)) → ZI (l.map (ev s)) = ZI (l.map (ev s')) := by
    intro l
    induction l with
    | nil => intro _; rfl
    | cons y r ih =>
     intro hl
     simp only [Z2p, ZI]
     rw [hl y (by simp), ih fun z hz => hl z (by simp [hz])]
   simp only [Z1v, Z72]
   rw [hl _ this]
  ·simp only [Z2O] at hm
   subst hm
   exact ne _ _ (fun t ht => by simp [tmpsOf] at ht) (fun t ht => by simp [tmpsOf] at ht)
  ·simp at hm
 have neN : ∀ {x y : Oper} {l : List Ask}, Z7C x y = some l → q ∈ l → (∀ t, x.dst = some t → ShEq (get s t) (get s' t)) → (∀ t, t ∈ Z1m y → ShEq (get s t) (get s' t)) → Z1v s q = Z1v s' q := by
  intro x y l hl hm h1 h2
  unfold Z7C at hl
  split at hl
  ·rename_i d a hd ha
   simp only [ZO] at hl
   subst hl
   simp only [Z2O] at hm
   subst hm
   refine ne _ _ (fun t ht => h2 t (addr ha ht)) (fun t ht => ?_)
   simp only [tmpsOf, Z2O] at ht
   subst ht
   exact h1 _ hd
  ·simp at hl
 have farq : ∀ {x y : Oper} {l : List Ask}, Z3s x y = some l → q ∈ l → (∀ t, t ∈ Z1m x → ShEq (get s t) (get s' t)) → (∀ t, t ∈ Z1m y → ShEq (get s t) (get s' t)) → Z1v s q = Z1v s' q := by
  intro x y l hl hm h1 h2
  unfold Z3s at hl
  split at hl
  ·rename_i a c ha ho
   simp only [ZO] at hl
   subst hl
   obtain ⟨b, hb, rfl⟩ := Z1B.1 hm
   refine ne _ _ (fun t ht => h1 t (addr ha ht)) (fun t ht => h2 t ?_)
   rw [Z1u] at ht
   simp only [Z2O] at ht
   unfold Z1m
   rw [ho]
   exact Zcq _ (Z1u.2 (ht ▸ hb))
  ·simp at hl
 unfold Z2R at hab
 split at hab
 all_goals first
  | exact farq hab hq (fun t ht => hp t (.inl (.inl ht))) (fun t ht => hp t (.inr (.inl ht)))
  | exact farq hab hq (fun t ht => hp t (.inr (.inl ht))) (fun t ht => hp t (.inl (.inl ht)))
  | (simp only [ZO] at hab; subst hab; simp at hq; done)
  | (simp at hab; done)
  | exact neN hab hq (fun t ht => hp t (.inl (.inr ht))) (fun t ht => hp t (.inr (.inl ht)))
  | exact neN hab hq (fun t ht => hp t (.inr (.inr ht))) (fun t ht => hp t (.inl (.inl ht)))
  | (simp only [ZO] at hab; subst hab; exact np (fun t ht => hp t (.inl ht)) hq)
  | (simp only [ZO] at hab; subst hab; exact np (fun t ht => hp t (.inr ht)) hq)
  | (simp only [ZO] at hab; subst hab
     rcases Z4f.1 hq with h | h
     ·exact np (fun t ht => hp t (.inl ht)) h
     ·exact np (fun t ht => hp t (.inr ht)) h)
  | (split at hab
     ·rename_i a b ha hb
      simp only [ZO] at hab
      subst hab
      simp only [Z2O] at hq
      subst hq
      exact ne _ _ (fun t ht => hp t (.inl (.inl (addr ha ht)))) (fun t ht => hp t (.inr (.inl (addr hb ht))))
     ·simp at hab)
theorem Zey {slF : Sl} {BF : List Row} {i : Nat} {oi : Oper} (hi : ops[i]? = some oi) (hlat : ∀ (j k : Nat) (x o : Oper), j < k → ops[j]? = some x → ops[k]? = some o → Later x o)
  (hown : ∀ (k : Nat) (o : Oper) (d : Tmp), ops[k]? = some o → o.dst = some d → d ∉ Z1m o) :
  ∀ (l : List Nat) (sl : Sl) (B : List Row), l.Pairwise (· < ·) → i ∈ l → Run P H f G ops l sl B slF BF →
   (∀ (k : Nat) (x : Oper), k ∈ l → k < i → ops[k]? = some x → Z2g H f ops x oi = true ∧ ∃ ab, Z2R P H f x oi = some ab ∧ ∀ q, q ∈ ab → Z1v slF q = true) →
   ∃ s1 B1, Tr P H f G ops oi sl B s1 B1 ∧ Run P H f G ops (l.filter (· != i)) s1 B1 slF BF
 | [], _, _, _, hm, _, _ => by simp at hm
 | k :: l, sl, B, hs, hm, hr, hc => by
  obtain ⟨x, s1, B1, q1, q2, q3⟩ := hr
  obtain ⟨hs1, hs2⟩ := Z61.1 hs
  by_cases e : k = i
  ·subst e
   rw [hi] at q1
   cases q1
   have hno : k ∉ l := fun h => Nat.lt_irrefl _ (hs1 k h)
   have hf : (k :: l).filter (· != k) = l := by
    rw [List.filter_cons]
    simp only [bne_self_eq_false, q8_, if_false]
    rw [Zic]
    intro y hy
    simp only [bne_iff_ne, ne_eq]
    rintro rfl
    exact hno hy
   rw [hf]
   exact ⟨s1, B1, q2, q3⟩
  ·have hil : i ∈ l := by
    rcases Z1K.1 hm with h | h
    ·exact absurd h.symm e
    ·exact h
   have hki := hs1 i hil
   obtain ⟨t1, C1, r1, r2⟩ := Zey hi hlat hown l s1 B1 hs2 hil q3 fun k' x' hk' => hc k' x' (by simp [hk'])
   obtain ⟨hap, ab, hab, hask⟩ := hc k x (by simp) hki q1
   obtain ⟨ap1, ap2⟩ := Z2Q hap
   have hend : ∀ t, (t ∈ Z1m x ∨ x.dst = some t) ∨ (t ∈ Z1m oi ∨ oi.dst = some t) → ShEq (get slF t) (get t1 t) := by
    intro t ht
    refine Run.sh _ t1 C1 r2 fun j o hj ho hd => ?_
    rw [Z2o] at hj
    obtain ⟨hjl, hji⟩ := hj
    have hji : j ≠ i := by simpa using hji
    rcases ht with ht | ht
    ·obtain ⟨l1, l2⟩ := hlat k j x o (hs1 j hjl) q1 ho t hd
     rcases ht with ht | ht
     ·exact l1 ht
     ·exact l2 ht
    ·rcases Nat.lt_or_gt_of_ne hji with hlt | hgt
     ·obtain ⟨hap', _⟩ := hc j o (by simp [hjl]) hlt ho
      obtain ⟨b1, b2⟩ := Z2Q hap'
      have hm : t ∈ Z1X H f o := Z1D.2 (.inl hd)
      rcases ht with ht | ht
      ·exact (b1 t hm).1 (Z4b ht)
      ·exact (b1 t hm).2 (Z1D.2 (.inl ht))
     ·obtain ⟨l1, l2⟩ := hlat i j oi o hgt hi ho t hd
      rcases ht with ht | ht
      ·exact l1 ht
      ·exact l2 ht
   obtain ⟨s1', B1', s2', w1, w2, w3⟩ := swap hap q2 r1 (by
    intro v u g1 g2 g3
    refine Ze8 (s2 := t1) hab (fun q hq => ?_) ⟨?_, ?_, ?_, ?_⟩ g1 g2
    ·rw [← ZfH hab hq hend]; exact hask q hq
    ·intro t ht
     have hx : x.dst ≠ some t := fun hd => hown k x t q1 hd ht
     have ho : oi.dst ≠ some t := fun hd => ap2 t (Z1D.2 (.inl hd)) (Z4b ht)
     exact (r1.sh ho).trans (q2.sh hx)
    ·intro t ht
     have hx : x.dst ≠ some t := fun hd => (ap1 t (Z1D.2 (.inl hd))).1 (Z4b ht)
     have ho : oi.dst ≠ some t := fun hd => hown i oi t hi hd ht
     exact (r1.sh ho).trans (q2.sh hx)
    ·intro d hd
     have hm : d ∈ Z1X H f x := Z1D.2 (.inl hd)
     have ho : oi.dst ≠ some d := fun hd' => (ap1 d hm).2 (Z1D.2 (.inl hd'))
     rw [g3, Z2Y, if_neg ho, if_neg (fun h => (ap1 d hm).2 (Z1D.2 (.inr h))), Z2Y, if_pos hd]
     exact .refl _
    ·intro d hd
     rw [g3, Z2Y, if_pos hd]
     exact .refl _)
   have hf : (k :: l).filter (· != i) = k :: l.filter (· != i) := by
    rw [List.filter_cons, if_pos (by simpa using e)]
   rw [hf]
   exact ⟨s1', B1', w1, x, s2', C1, q1, w2, r2.congr w3⟩
end
end Go.Abs
end
section
namespace Go.Abs
open Go
theorem Z47 {a : Act} {d : Option Tmp} {v : Value} {t : Nat} (h : d ≠ some t) : (a.put d v).tmps.getD t undef = a.tmps.getD t undef := by
 cases d with
 | none => rfl
 | some d =>
  have hn : ¬ d = t := fun e => h (by rw [e])
  show (a.tmps.setIfInBounds d v).getD t undef = _
  simp only [Zcl, Zif, if_neg hn]
theorem Zmf {P : Program} {o : Oper} {a : Act} {w : World} {K : Act → World → Prop} {Q : Exit → Act → World → Prop} (hh : o.wp P a w K Q) :
  o.wp P a w (fun a' w' => K a' w' ∧ ∀ t, o.dst ≠ some t → a'.tmps.getD t undef = a.tmps.getD t undef) Q := by
 unfold Oper.wp at *
 generalize (execOp a.eval o).run P w = r at *
 cases r with
 | ok n w' =>
  cases n <;> simp only [Oper.upon] at hh ⊢ <;>
   first
    | exact ⟨hh, fun t ht => Z47 ht⟩
    | exact Calls.mono hh (fun e w'' he => by cases e <;> first | exact ⟨he, fun t ht => Z47 ht⟩ | exact he)
    | exact Rows.mono hh (fun _ _ he => ⟨he, fun t ht => Z47 ht⟩)
 | halt x w' => cases x <;> simp only [Oper.upon] at hh ⊢ <;> exact hh
structure Lone (w : World) (S : Stay) (β : Nat → Nat) (n : Nat) (L : Loc → AV → Value → Prop) (m : Nat) (arr : Array Value) (ty : TypeId) : Prop where
 here : w.heap[m]? = some (.cells arr ty (0, 0))
 box : ∀ i, i < n → β i ≠ m
 stay : ∀ o, ¬ S m o
 un : ¬ UB L m
theorem Good.adopt {nt : Nat} {w : World} {S : Stay} {β : Nat → Nat} {sl : Sl} {B : List Row} {a : Act} {arr : Array Value} {ty : TypeId} {row : Row} {m : Nat} (h : Good nt w S β sl B a)
  (hl : Lone w S β B.length (Here nt sl a.tmps B β w) m arr ty) (hs : arr.size = row.length)
  (hr : ∀ (j : Nat) (x : AV) (v : Value), row[j]? = some x → arr[j]? = some v → ARel w S β B.length x v ∧ Z1k x = true ∧ isUn x = false) :
  Good nt w S (newβ β B.length m) sl (B ++ [row]) a ∧ ∀ b, UB (Here nt sl a.tmps (B ++ [row]) (newβ β B.length m) w) b → UB (Here nt sl a.tmps B β w) b := by
 have hk : Keeps w S w S := .refl _ _
 have hn : B.length ≤ (B ++ [row]).length := by simp
 have hβ : ∀ i, i < B.length → newβ β B.length m i = β i := fun i hi => Z2l hi
 have hcell : ∀ j, w.cell? ⟨m, j, none⟩ = arr[j]? := fun j => Z2v hl.here
 have hget : ∀ {id : Nat} {r : Row}, (B ++ [row])[id]? = some r → (B[id]? = some r ∧ id < B.length) ∨ (id = B.length ∧ r = row) := by
  intro id r hr
  rw [Z3M] at hr
  split at hr
  ·exact .inl ⟨hr, ‹_›⟩
  ·rename_i hlt
   right
   have : id - B.length = 0 := by
    rcases Z64 (id - B.length) with e | e
    ·exact e
    ·rw [Z3L (by simp; omega)] at hr; simp at hr
   rw [this] at hr
   simp at hr
   exact ⟨by omega, hr.symm⟩
 have back : ∀ l x v, Here nt sl a.tmps (B ++ [row]) (newβ β B.length m) w l x v → isUn x = true → Here nt sl a.tmps B β w l x v := by
  intro l x v hl' hu
  cases l with
  | slot t => exact hl'
  | box id j =>
   obtain ⟨r, q1, q2, q3⟩ := hl'
   rcases hget q1 with ⟨q, hlt⟩ | ⟨rfl, rfl⟩
   ·rw [hβ id hlt] at q3
    exact ⟨r, q, q2, q3⟩
   ·rw [Z1l, hcell] at q3
    rw [(hr j x v q2 q3).2.2] at hu
    simp at hu
 refine ⟨⟨h.size, h.defers, ?_, h.high, ?_, ?_⟩, ?_⟩
 ·intro t ht
  exact (h.slots t ht).keeps hk hβ hn
 ·refine ⟨?_, ?_, ?_, ?_, h.mem.stay, ?_⟩
  ·intro id r hr' hm
   rcases hget hr' with ⟨q, hlt⟩ | ⟨rfl, rfl⟩
   ·obtain ⟨cs, ty', q1, q2⟩ := h.mem.row id r q hm
    exact ⟨cs, ty', by rw [hβ id hlt]; exact q1, q2⟩
   ·exact ⟨arr, ty, by rw [Z1l]; exact hl.here, hs⟩
  ·intro id r j x hr' hm hx
   rcases hget hr' with ⟨q, hlt⟩ | ⟨rfl, rfl⟩
   ·obtain ⟨v, q1, q2, q3⟩ := h.mem.cell id r j x q hm hx
    exact ⟨v, by rw [hβ id hlt]; exact q1, q2.keeps hk hβ hn, q3⟩
   ·have hj : j < arr.size := by rw [hs]; exact (q1_.1 hx).1
    obtain ⟨q1, q2, _⟩ := hr j x arr[j] hx (by simp [hj])
    exact ⟨arr[j], by rw [Z1l, hcell]; simp [hj], q1.keeps hk hβ hn, q2⟩
  ·intro i j hi hj e
   simp only [Z2J, Z38, Z3p] at hi hj
   rcases Z22 i B.length with hi' | hi' <;> rcases Z22 j B.length with hj' | hj'
   ·rw [hβ i hi', hβ j hj'] at e; exact h.mem.inj i j hi' hj' e
   ·have : j = B.length := by omega
    subst this
    rw [hβ i hi', Z1l] at e
    exact absurd e (hl.box i hi')
   ·have : i = B.length := by omega
    subst this
    rw [hβ j hj', Z1l] at e
    exact absurd e.symm (hl.box j hj')
   ·omega
  ·intro i hi o ho
   simp only [Z2J, Z38, Z3p] at hi
   rcases Z22 i B.length with hi' | hi'
   ·rw [hβ i hi'] at ho; exact h.mem.apart i hi' o ho
   ·have : i = B.length := by omega
    subst this
    rw [Z1l] at ho
    exact hl.stay o ho
  ·intro id r es hr' hm
   rcases hget hr' with ⟨q, hlt⟩ | ⟨rfl, rfl⟩
   ·have := h.mem.maps id r es q hm
    rw [hβ id hlt]
    exact this
   ·have e := Z5u hm
    have h0 : 0 < arr.size := by rw [hs, e]; simp
    obtain ⟨_, q2, _⟩ := hr 0 (.md es) arr[0] (by rw [e]; rfl) (by simp [h0])
    simp [Z1k] at q2
 ·refine ⟨?_, ?_⟩
  ·intro l x v hl' hu
   have hb := back l x v hl' hu
   obtain ⟨q1, q2⟩ := h.uns.ok l x v hb hu
   refine ⟨q1, fun i hi e => ?_⟩
   simp only [Z2J, Z38, Z3p] at hi
   rcases Z22 i B.length with hlt | hge
   ·rw [hβ i hlt] at e; exact q2 i hlt e
   ·have : i = B.length := by omega
    subst this
    rw [Z1l] at e
    exact hl.un ⟨l, x, v, hb, hu, e⟩
  ·intro l l' x x' v v' hl1 hl2 hu hu' e
   exact h.uns.inj l l' x x' v v' (back l x v hl1 hu) (back l' x' v' hl2 hu') hu hu' e
 ·rintro b ⟨l, x, v, hl', hu, hb⟩
  exact ⟨l, x, v, back l x v hl' hu, hu, hb⟩
theorem Lone.step {m0 : Nat} {w w' : World} {S S' : Stay} {β β' : Nat → Nat} {n n' : Nat} {L L' : Loc → AV → Value → Prop} {m : Nat} {arr : Array Value} {ty : TypeId} (h : Lone w S β n L m arr ty)
  (hs : Step m0 w S β n (UB L) w' S' β' n' (UB L')) : Lone w' S' β' n' L' m arr ty := by
 have hm : m < w.heap.size := (Z2z.1 h.here).1
 refine ⟨?_, ?_, ?_, ?_⟩
 ·rw [hs.block m hm (fun i hi e => h.box i hi e.symm) h.un]
  exact h.here
 ·intro i hi e
  rcases hs.boxes i hi with ⟨j, hj, e', _⟩ | hge
  ·exact h.box j hj (e'.symm.trans e)
  ·omega
 ·intro o ho
  rcases hs.grown m o ho with h1 | h1 | h1
  ·exact h.stay o h1
  ·omega
  ·exact h.un h1
 ·intro hu
  rcases hs.uns m hu with h1 | h1
  ·exact h.un h1
  ·omega
section
variable {P : Program} {H : Hints} {f : FuncId} {G : GF} {ops : Array Oper}
theorem ZgT {o : Oper} (h : isAl o = true) : ∃ t d, o.op = .alloc t ∧ o.guard = none ∧ o.dst = some d := by
 rcases o with ⟨dst, op, ty, pos, after, guard⟩
 unfold isAl at h
 simp only [q5_, Option.isNone_iff_eq_none, Zid] at h
 obtain ⟨⟨h1, h2⟩, d, h3⟩ := h
 cases op <;> simp at h1
 exact ⟨_, d, rfl, h2, h3⟩
theorem Ziw {o : Oper} {t d : Nat} {sl s1 : Sl} {B B1 : List Row} (ho : o.op = .alloc t) (hg : o.guard = none) (hd : o.dst = some d) (h : Tr P H f G ops o sl B s1 B1) :
  ∃ z zv, (P.info? t).bind (·.zero) = some zv ∧ Z2f zv = some z ∧ Z1J z = false ∧ B1 = B ++ [Z1h z] ∧ Eqv s1 ((d, .ptr B.length 0) :: sl) := by
 rcases h with ⟨_, v, h2, h3⟩ | ⟨h1, _⟩
 ·unfold Fop stepOp at h2
  simp only [ho] at h2
  unfold bz at h2
  obtain ⟨z, hz, h2⟩ := ZH h2
  unfold zeroOf at hz
  split at hz
  ·rename_i i hi
   obtain ⟨zv, hzv, hzr⟩ := ZH hz
   unfold bx at h2
   split at h2
   ·simp at h2
   ·rename_i ht
    simp only [ZO, Z3a] at h2
    obtain ⟨rfl, rfl⟩ := h2
    refine ⟨z, zv, by rw [hi]; exact hzv, hzr, by simpa using ht, rfl, ?_⟩
    have hw : wk H f o = [] := by unfold wk; simp only [ho]
    rw [hw, hd] at h3
    exact h3
  ·simp at hz
 ·unfold want at h1
  rw [hg] at h1
  simp at h1
theorem Run.unset {slF : Sl} {BF : List Row} {i t d : Nat} {oi : Oper} (hi : ops[i]? = some oi) (ho : oi.op = .alloc t) (hg : oi.guard = none) (hd : oi.dst = some d) (x0 : AV) :
  ∀ (l : List Nat) (sl : Sl) (B : List Row), l.Pairwise (· < ·) → i ∈ l → (∀ (k : Nat) (x : Oper), k ∈ l → k < i → ops[k]? = some x → Z2g H f ops x oi = true) → Run P H f G ops l sl B slF BF → Run P H f G ops l ((d, x0) :: sl) B slF BF
 | [], _, _, _, hm, _, _ => by simp at hm
 | k :: l, sl, B, hs, hm, hap, hr => by
  obtain ⟨x, s1, B1, q1, q2, q3⟩ := hr
  obtain ⟨hs1, hs2⟩ := Z61.1 hs
  by_cases e : k = i
  ·subst e
   rw [hi] at q1
   cases q1
   refine ⟨oi, s1, B1, hi, ?_, q3⟩
   rcases q2 with ⟨h1, v, h2, h3⟩ | ⟨h1, _⟩
   ·have hops : oi.op.operands = #[] := by rw [ho]; rfl
    refine .inl ⟨by unfold want; rw [hg], v, ?_, ?_⟩
    ·rw [Z2A P H f G oi _ sl B (fun y hy => by rw [hops] at hy; simp at hy)]
     exact h2
    ·have hw : wk H f oi = [] := by unfold wk; simp only [ho]
     rw [hw, hd] at h3 ⊢
     refine h3.trans fun t => ?_
     show get ((d, v) :: sl) t = get ((d, v) :: (d, x0) :: sl) t
     simp only [Z10]
     split <;> rfl
   ·unfold want at h1
    rw [hg] at h1
    simp at h1
  ·have hil : i ∈ l := by
    rcases Z1K.1 hm with h | h
    ·exact absurd h.symm e
    ·exact h
   obtain ⟨a1, a2⟩ := Z2Q (hap k x (by simp) (hs1 i hil) q1)
   have hdt : d ∈ Z1X H f oi := Z1D.2 (.inl hd)
   have hdl : d ∉ x.looksAt ops := a2 d hdt
   have hdx : d ∉ Z1X H f x := fun h => (a1 d h).2 hdt
   rw [Z1D, not_or] at hdx
   have hlk : ∀ t, t ∈ x.looksAt ops → get ((d, x0) :: sl) t = get sl t := by
    intro t ht
    rw [Z10, if_neg (by rintro rfl; exact hdl ht)]
   obtain ⟨e1, w1⟩ := Z80 hlk
   refine ⟨x, (d, x0) :: s1, B1, q1, ?_, Run.unset hi ho hg hd x0 l s1 B1 hs2 hil (fun k' x' hk' => hap k' x' (by simp [hk'])) q3⟩
   have hupd : ∀ (ws : List Operand) (v : AV), (∀ t, t ∈ tmpsOf ws → t ∈ tmpsOf (wk H f x)) → Eqv s1 (upd sl ws x.dst v) → Eqv ((d, x0) :: s1) (upd ((d, x0) :: sl) ws x.dst v) := by
    intro ws v hws he t
    rw [Z10, Z2Y, he t, Z2Y, Z10]
    by_cases hdt : d = t
    ·subst hdt
     rw [if_pos rfl, if_neg hdx.1, if_neg (fun h => hdx.2 (hws d h)), if_pos rfl]
    ·rw [if_neg hdt, if_neg hdt]
   rcases q2 with ⟨h1, v, h2, h3⟩ | ⟨h1, h2, h3⟩
   ·exact .inl ⟨by rw [w1]; exact h1, v, by rw [Z2A P H f G x _ sl B e1]; exact h2, hupd _ v (fun _ h => h) h3⟩
   ·exact .inr ⟨by rw [w1]; exact h1, h2, hupd [] ud (fun t h => by simp [tmpsOf] at h) h3⟩
end
end Go.Abs
end
section
namespace Go.Abs
open Go
def msOf : List Oper → List Nat → List Nat
 | [], ms => ms
 | o :: os, ms => msOf os (ms ++ [Z2k ms o.after.toList])
def Z71 (ops : Array Oper) : Bool :=
 (List.range ops.size).all fun i => (List.range i).all fun p => match ops[i]?, ops[p]? with
  | some oi, some op => !(Z20 oi && Z20 op) || ((msOf ops.toList []).getD i 0).testBit p ||
   (isAl oi && isAl op && (List.range ops.size).all fun k => !((msOf ops.toList []).getD k 0).testBit i || ((msOf ops.toList []).getD k 0).testBit p)
  | _, _ => true
def Z59 (H : Hints) (f : FuncId) (ops : Array Oper) : Bool :=
 Z71 ops && (List.range ops.size).all fun k => match ops[k]? with
  | none => true
  | some o => o.after.all (fun e => !Region.binds .any e || decide (e.on < k)) &&
   (match o.dst with | some d => !(Z1m o).contains d | none => true) &&
   (List.range k).all fun i => match ops[i]? with
    | none => true
    | some x => (match o.dst with | some d => !(Z1m x).contains d && x.dst != some d | none => true) && (((msOf ops.toList []).getD k 0).testBit i || Z2g H f ops x o)
section
variable {P : Program} {H : Hints} {f : FuncId} {G : GF} {ops : Array Oper}
theorem Z7S (h : Z71 ops = true) {i p : Nat} {oi op : Oper} (hp : p < i) (hi : ops[i]? = some oi) (ho : ops[p]? = some op) (h1 : Z20 oi = true) (h2 : Z20 op = true) (hm : ((msOf ops.toList []).getD i 0).testBit p ≠ true) :
  isAl oi = true ∧ isAl op = true ∧ ∀ k, k < ops.size → ((msOf ops.toList []).getD k 0).testBit i = true → ((msOf ops.toList []).getD k 0).testBit p = true := by
 unfold Z71 at h
 simp only [Z2w, Z4g] at h
 have := h i (Z2z.1 hi).1 p hp
 simp only [hi, ho, h1, h2, ZmG, Z4C, Bool.false_or, Z4U, q5_, Z2w, Z4g] at this
 rcases this with this | ⟨⟨a, b⟩, c⟩
 ·exact absurd this hm
 ·refine ⟨a, b, fun k hk hb => ?_⟩
  rcases c k hk with c | c
  ·rw [hb] at c; exact absurd c (by decide)
  ·exact c
theorem ZcR (h : Z59 H f ops = true) : Z71 ops = true := by
 unfold Z59 at h
 simp only [q5_] at h
 exact h.1
theorem ZcS (h : Z59 H f ops = true) :
  (∀ (k : Nat) (o : Oper) (e : Edge), ops[k]? = some o → e ∈ o.after → Region.binds .any e = true → e.on < k) ∧ (∀ (k : Nat) (o : Oper) (d : Tmp), ops[k]? = some o → o.dst = some d → d ∉ Z1m o) ∧
  (∀ (j k : Nat) (x o : Oper), j < k → ops[j]? = some x → ops[k]? = some o → Later x o) ∧
  ∀ (j k : Nat) (x o : Oper), j < k → ops[j]? = some x → ops[k]? = some o → ((msOf ops.toList []).getD k 0).testBit j = true ∨ Z2g H f ops x o = true := by
 unfold Z59 at h
 simp only [q5_, Z2w, Z4g] at h
 replace h := h.2
 have hk : ∀ {k : Nat} {o : Oper}, ops[k]? = some o → k < ops.size := fun h => (Z2z.1 h).1
 refine ⟨?_, ?_, ?_, ?_⟩
 ·intro k o e ho he hb
  have := h k (hk ho)
  simp only [ho, q5_, Array.all_eq_true_iff_forall_mem] at this
  have := this.1.1 e he
  simpa [hb] using this
 ·intro k o d ho hd
  have := h k (hk ho)
  simp only [ho, q5_, hd] at this
  simpa using this.1.2
 ·intro j k x o hjk hx ho d hd
  have := h k (hk ho)
  simp only [ho, q5_, Z2w, Z4g] at this
  have := this.2 j hjk
  simp only [hx, hd, q5_] at this
  simpa using this.1
 ·intro j k x o hjk hx ho
  have := h k (hk ho)
  simp only [ho, q5_, Z2w, Z4g] at this
  have := this.2 j hjk
  simp only [hx, q5_, Z4U] at this
  exact this.2
theorem Z5V : ∀ (os : List Oper) (ms : List Nat) (i : Nat), i < ms.length → (msOf os ms)[i]? = ms[i]?
 | [], ms, i, _ => rfl
 | o :: os, ms, i, h => by
  rw [msOf, Z5V os _ i (by simp; omega), Z3M, if_pos h]
theorem ZdL : ∀ (os : List Oper) (ms : List Nat) (k : Nat) (o : Oper), os[k]? = some o → (msOf os ms)[ms.length + k]? = some (Z2k ((msOf os ms).take (ms.length + k)) o.after.toList)
 | [], ms, k, o, h => by simp at h
 | x :: os, ms, k, o, h => by
  cases k with
  | zero =>
   simp only [Z2m, ZO] at h
   subst h
   rw [msOf, Z66, Z5V os _ ms.length (by simp)]
   have : (msOf os (ms ++ [Z2k ms x.after.toList])).take ms.length = ms := by
    apply Z7b
    intro i
    rw [Z3B]
    split
    ·rw [Z5V os _ i (by simp; omega), Z3M, if_pos ‹_›]
    ·rw [Z3L (by omega)]
   rw [this]
   simp
  | succ k =>
   have := ZdL os (ms ++ [Z2k ms x.after.toList]) k o (by simpa using h)
   simp only [Z2J, Z38, Z3p] at this
   rw [msOf]
   have e : ms.length + (k + 1) = ms.length + (0 + 1) + k := by omega
   rw [e]
   exact this
theorem Z85 {ms : List Nat} {i : Nat} : ∀ (es : List Edge), (Z2k ms es).testBit i = true → ∃ e, e ∈ es ∧ Region.binds .any e = true ∧ (e.on = i ∨ (ms.getD e.on 0).testBit i = true)
 | [], h => by simp [Z2k] at h
 | e :: es, h => by
  rw [Z2k] at h
  split at h
  ·rename_i hb
   rw [Nat.testBit_or, Nat.testBit_or, Z4U, Z4U, Nat.testBit_two_pow] at h
   rcases h with h | h | h
   ·exact ⟨e, by simp, hb, .inl (by simpa using h)⟩
   ·exact ⟨e, by simp, hb, .inr h⟩
   ·obtain ⟨e', h1, h2⟩ := Z85 es h
    exact ⟨e', by simp [h1], h2⟩
  ·obtain ⟨e', h1, h2⟩ := Z85 es h
   exact ⟨e', by simp [h1], h2⟩
def Down (ops : Array Oper) (listed : Array Bool) : Prop := ∀ (j : Nat) (o : Oper) (e : Edge), listed.getD j false = true → ops[j]? = some o → e ∈ o.after → Region.binds .any e = true → listed.getD e.on false = true
theorem Z4R {listed : Array Bool} (hok : ∀ (k : Nat) (o : Oper) (e : Edge), ops[k]? = some o → e ∈ o.after → Region.binds .any e = true → e.on < k) (hd : Down ops listed) :
  ∀ (k : Nat) (o : Oper) (i : Nat), ops[k]? = some o → (∀ e, e ∈ o.after → Region.binds .any e = true → listed.getD e.on false = true) → ((msOf ops.toList []).getD k 0).testBit i = true → listed.getD i false = true := by
 intro k
 induction k using Nat.strongRecOn with
 | _ k ih =>
  intro o i ho he hb
  have hat := ZdL ops.toList [] k o (by simpa using ho)
  simp only [Z3p, Z67] at hat
  rw [q9_, hat] at hb
  obtain ⟨e, h1, h2, h3⟩ := Z85 _ hb
  have h1' : e ∈ o.after := by simpa using h1
  have hlt := hok k o e ho h1' h2
  have hl := he e h1' h2
  rcases h3 with h3 | h3
  ·rw [← h3]; exact hl
  ·have hk : k < ops.size := (Z2z.1 ho).1
   have hon : ops[e.on]? = some ops[e.on] := by simp
   refine ih e.on hlt _ i hon (fun e' h4 h5 => hd e.on _ e' hl hon h4 h5) ?_
   rw [q9_] at h3 ⊢
   rw [Z3B, if_pos hlt] at h3
   exact h3
theorem Z4d {m : Nat} {o : Oper} : ∀ {nf : List (Nat × Oper)} {l : List Ask}, Z3K P H f m o nf = some l → ∀ i x, (i, x) ∈ nf → m.testBit i = true ∨ (Z20 x = true ∧ Z20 o = true) ∨ ∃ ab, Z2R P H f x o = some ab ∧ ∀ q, q ∈ ab → q ∈ l
 | [], _, _, i, x, h => by simp at h
 | (j, y) :: r, l, h, i, x, hm => by
  rw [Z3K] at h
  split at h
  ·rename_i hb
   rcases Z1K.1 hm with e | hm
   ·cases e
    rcases Z4U _ _ ▸ hb with hb | hb
    ·exact .inl hb
    ·exact .inr (.inl (by simpa using hb))
   ·exact Z4d h i x hm
  ·split at h
   ·simp at h
   ·rename_i ab hab
    split at h
    ·simp at h
    ·rename_i l' hl'
     simp only [ZO] at h
     subst h
     rcases Z1K.1 hm with e | hm
     ·cases e
      exact .inr (.inr ⟨ab, hab, fun q hq => by simp [hq]⟩)
     ·rcases Z4d hl' i x hm with h1 | h1 | ⟨ab', h1, h2⟩
      ·exact .inl h1
      ·exact .inr (.inl h1)
      ·exact .inr (.inr ⟨ab', h1, fun q hq => by simp [h2 q hq]⟩)
theorem Zfd {o : Oper} {os : List Oper} {j : Nat} {ms : List Nat} {nf : List (Nat × Oper)} {asks l : List Ask} (h : Z3U P H f (o :: os) j ms nf asks = some l) :
  (cls P H f o = .free ∧ Z3U P H f os (j + 1) (ms ++ [Z2k ms o.after.toList]) nf asks = some l) ∨
  (cls P H f o ≠ .free ∧ ∃ ab, Z3K P H f (Z2k ms o.after.toList) o nf = some ab ∧ Z3U P H f os (j + 1) (ms ++ [Z2k ms o.after.toList]) (nf ++ [(j, o)]) (asks ++ ab) = some l) := by
 have hf : ∀ {α : Type} (n : Nat) (k : Nat → α), force n k = k n := fun n k => by cases n <;> rfl
 rw [Z3U, hf] at h
 split at h
 ·rename_i hc
  exact .inl ⟨hc, h⟩
 ·rename_i hc
  split at h
  ·simp at h
  ·rename_i ab hab
   exact .inr ⟨hc, ab, hab, h⟩
theorem Z5U : ∀ (os : List Oper) (j : Nat) (ms : List Nat) (nf : List (Nat × Oper)) (asks l : List Ask), ms.length = j → Z3U P H f os j ms nf asks = some l →
  (∀ q, q ∈ asks → q ∈ l) ∧ ∀ (k : Nat) (o : Oper) (i : Nat) (x : Oper), os[k]? = some o → cls P H f o ≠ .free →
   ((i, x) ∈ nf ∨ ∃ k', k' < k ∧ i = j + k' ∧ os[k']? = some x ∧ cls P H f x ≠ .free) →
   ((msOf os ms).getD (j + k) 0).testBit i = true ∨ (Z20 x = true ∧ Z20 o = true) ∨ ∃ ab, Z2R P H f x o = some ab ∧ ∀ q, q ∈ ab → q ∈ l
 | [], j, ms, nf, asks, l, _, h => by
  simp only [Z3U, ZO] at h
  subst h
  exact ⟨fun _ h => h, fun k o i x h => by simp at h⟩
 | o :: os, j, ms, nf, asks, l, hl, h => by
  have hm0 : (msOf os (ms ++ [Z2k ms o.after.toList])).getD j 0 = Z2k ms o.after.toList := by
   rw [q9_, Z5V os _ j (by simp; omega), ← hl]
   simp
  have hj : ∀ k, j + (k + 1) = j + 1 + k := fun k => by omega
  rcases Zfd h with ⟨hc, h⟩ | ⟨hc, ab, hab, h⟩
  ·obtain ⟨h1, h2⟩ := Z5U os (j + 1) _ _ _ l (by simp [hl]) h
   refine ⟨h1, ?_⟩
   intro k o' i x ho' hc' hx
   cases k with
   | zero =>
    simp only [Z2m, ZO] at ho'
    subst ho'
    exact absurd hc hc'
   | succ k =>
    rw [msOf, hj]
    refine h2 k o' i x (by simpa using ho') hc' ?_
    rcases hx with hx | ⟨k', hk', rfl, hx, hcx⟩
    ·exact .inl hx
    ·cases k' with
     | zero =>
      simp only [Z2m, ZO] at hx
      subst hx
      exact absurd hc hcx
     | succ k' => exact .inr ⟨k', by omega, by omega, by simpa using hx, hcx⟩
  ·obtain ⟨h1, h2⟩ := Z5U os (j + 1) _ _ _ l (by simp [hl]) h
   refine ⟨fun q hq => h1 q (by simp [hq]), ?_⟩
   intro k o' i x ho' hc' hx
   cases k with
   | zero =>
    simp only [Z2m, ZO] at ho'
    subst ho'
    rcases hx with hx | ⟨k', hk', _⟩
    ·rw [msOf, Z66, hm0]
     rcases Z4d hab i x hx with h3 | h3 | ⟨ab', h3, h4⟩
     ·exact .inl h3
     ·exact .inr (.inl h3)
     ·exact .inr (.inr ⟨ab', h3, fun q hq => h1 q (by simp [h4 q hq])⟩)
    ·omega
   | succ k =>
    rw [msOf, hj]
    refine h2 k o' i x (by simpa using ho') hc' ?_
    rcases hx with hx | ⟨k', hk', rfl, hx, hcx⟩
    ·exact .inl (by simp [hx])
    ·cases k' with
     | zero =>
      simp only [Z2m, ZO] at hx
      subst hx
      exact .inl (by simp)
     | succ k' => exact .inr ⟨k', by omega, by omega, by simpa using hx, hcx⟩
theorem ZcO {x o : Oper} (h : cls P H f x = .free ∨ cls P H f o = .free) : Z2R P H f x o = some [] := by
 unfold Z2R
 rcases h with h | h
 ·rw [h]
 ·rw [h]
  split <;> first | rfl | (simp_all; done)
theorem Z7I {sl : Sl} {k : Option Res} {r : Res} : ∀ {l : List Ask}, askAll sl l k = some r → (∀ q, q ∈ l → Z1v sl q = true) ∧ k = some r
 | [], h => ⟨by simp, h⟩
 | q :: l, h => by
  change grd (Z1v sl q) (askAll sl l k) = some r at h
  unfold grd hi at h
  split at h
  ·rename_i hq
   obtain ⟨h1, h2⟩ := Z7I h
   refine ⟨fun q' hq' => ?_, h2⟩
   rcases Z1K.1 hq' with rfl | hq'
   ·exact hq
   ·exact h1 q' hq'
  ·simp at h
def Z1U (ops : Array Oper) (listed : Array Bool) : List Nat := (List.range ops.size).filter fun j => !listed.getD j true
theorem Z7d (listed : Array Bool) : (Z1U ops listed).Pairwise (· < ·) := List.Pairwise.filter _ List.pairwise_lt_range
theorem Z2C {listed : Array Bool} {j : Nat} : j ∈ Z1U ops listed ↔ j < ops.size ∧ listed.getD j true = false := by
 unfold Z1U
 simp
variable {b : Base} {Q : Exit → Act → World → Prop}
structure LoneAt (P : Program) (b : Base) (ops : Array Oper) (sl : Sl) (B : List Row) (S : Stay) (β : Nat → Nat) (a : Act) (w : World) (j m : Nat) : Prop where
 op : ∃ o t d z zv, ops[j]? = some o ∧ o.op = .alloc t ∧ o.guard = none ∧ o.dst = some d ∧ (P.info? t).bind (·.zero) = some zv ∧ Z2f zv = some z ∧ Z1J z = false ∧
  a.tmps.getD d undef = .pointer (some ⟨m, 0, none⟩) ∧ Lone w S β B.length (Here b.nt sl a.tmps B β w) m zv.cells t
 old : b.w.heap.size ≤ m
def InvD (P : Program) (b : Base) (ops : Array Oper) (listed : Array Bool) (re : List Nat) (sl : Sl) (B : List Row) (a : Act) (w : World) : Prop :=
 ∃ (S : Stay) (β : Nat → Nat) (mf : Nat → Nat), Good b.nt w S β sl B a ∧ Step b.m0 b.w b.S b.β b.n b.U w S β B.length (UB (Here b.nt sl a.tmps B β w)) ∧
  (∀ j, j ∈ re → listed.getD j true = true → LoneAt P b ops sl B S β a w j (mf j)) ∧
  (∀ j k, j ∈ re → k ∈ re → listed.getD j true = true → listed.getD k true = true → mf j = mf k → j = k)
structure LS (ops : Array Oper) (listed : Array Bool) (re : List Nat) : Prop where
 sorted : re.Pairwise (· < ·)
 size : ∀ j, j ∈ re → j < ops.size
 all : ∀ j, j < ops.size → listed.getD j true = false → j ∈ re
def Z8j (ops : Array Oper) (listed : Array Bool) (re : List Nat) : Prop :=
 ∀ j, j ∈ re → listed.getD j true = true → ∃ p op, p ∈ re ∧ p < j ∧ listed.getD p true = false ∧ ops[p]? = some op ∧ Z20 op = true
theorem Z4q {listed : Array Bool} {j : Nat} (hj : j < listed.size) : listed.getD j true = listed.getD j false := by
 simp only [Zcl, Z77 hj, Zcv]
theorem Run.mem {slF : Sl} {BF : List Row} {i : Nat} {oi : Oper} (hi : ops[i]? = some oi) : ∀ (l : List Nat) (sl : Sl) (B : List Row), i ∈ l → Run P H f G ops l sl B slF BF → ∃ s C s1 C1, Tr P H f G ops oi s C s1 C1
 | [], _, _, hm, _ => by simp at hm
 | k :: l, sl, B, hm, hr => by
  obtain ⟨x, s1, B1, q1, q2, q3⟩ := hr
  by_cases e : k = i
  ·subst e
   rw [hi] at q1
   cases q1
   exact ⟨_, _, _, _, q2⟩
  ·have hil : i ∈ l := by
    rcases Z1K.1 hm with h | h
    ·exact absurd h.symm e
    ·exact h
   exact Run.mem hi l s1 B1 hil q3
theorem ZfN {i j d : Nat} {o x : Oper} (k3 : ∀ (j k : Nat) (x o : Oper), j < k → ops[j]? = some x → ops[k]? = some o → Later x o) (hi : ops[i]? = some o) (hj : ops[j]? = some x) (hij : j ≠ i) (hd : x.dst = some d) : o.dst ≠ some d := by
 intro h
 rcases Nat.lt_or_gt_of_ne hij with hlt | hgt
 ·exact (k3 j i x o hlt hj hi d h).2 hd
 ·exact (k3 i j o x hgt hi hj d hd).2 h
theorem ZhS {w : World} {S : Stay} {β : Nat → Nat} {n : Nat} {z : AV} {zv : Value} (h : Z2f zv = some z) (ht : Z1J z = false) :
  zv.cells.size = (Z1h z).length ∧ ∀ (j : Nat) (x : AV) (v : Value), (Z1h z)[j]? = some x → zv.cells[j]? = some v → ARel w S β n x v ∧ Z1k x = true ∧ isUn x = false := by
 obtain ⟨c1, c2⟩ := Z2W (Z2i (w := w) (S := S) (β := β) (n := n) h) ht
 refine ⟨c1, fun j x v hx hv => ?_⟩
 obtain ⟨q1, q2, q3⟩ := c2 j x v hx hv
 refine ⟨q1, q2, ?_⟩
 cases hu : isUn x with
 | false => rfl
 | true =>
  obtain ⟨_, e2, _⟩ := q3 hu
  subst e2
  rw [Z2e h] at hu
  simp at hu
section
variable (k1 : ∀ (k : Nat) (o : Oper) (e : Edge), ops[k]? = some o → e ∈ o.after → Region.binds .any e = true → e.on < k) (k2 : ∀ (k : Nat) (o : Oper) (d : Tmp), ops[k]? = some o → o.dst = some d → d ∉ Z1m o)
 (k3 : ∀ (j k : Nat) (x o : Oper), j < k → ops[j]? = some x → ops[k]? = some o → Later x o)
 (k4 : ∀ (j k : Nat) (x o : Oper), j < k → ops[j]? = some x → ops[k]? = some o → ((msOf ops.toList []).getD k 0).testBit j = true ∨ Z2g H f ops x o = true)
 (hdst : ∀ (i : Nat) (o : Oper) (t : Tmp), ops[i]? = some o → o.dst = some t → t < b.nt) {l : List Ask} (hl : Z3U P H f ops.toList 0 [] [] [] = some l) {slF : Sl} {BF : List Row} (hask : ∀ q, q ∈ l → Z1v slF q = true)
include k1 k2 k3 k4 hdst hl hask
omit k1 k2 k3 k4 hdst in
theorem Zch {i k : Nat} {o x : Oper} (ho : ops[i]? = some o) (hx : ops[k]? = some x) (hki : k < i) (hnb : ((msOf ops.toList []).getD i 0).testBit k ≠ true) (hnn : ¬ (Z20 x = true ∧ Z20 o = true)) :
  ∃ ab, Z2R P H f x o = some ab ∧ ∀ q, q ∈ ab → Z1v slF q = true := by
 obtain ⟨_, hl2⟩ := Z5U ops.toList 0 [] [] [] l rfl hl
 by_cases hfree : cls P H f x = .free ∨ cls P H f o = .free
 ·exact ⟨[], ZcO hfree, by simp⟩
 ·simp only [not_or] at hfree
  have := hl2 i o k x (by simpa using ho) hfree.2 (.inr ⟨k, hki, by omega, by simpa using hx, hfree.1⟩)
  rw [Z67] at this
  obtain ⟨ab, h3, h4⟩ := (this.resolve_left hnb).resolve_left hnn
  exact ⟨ab, h3, fun q hq => hask q (h4 q hq)⟩
theorem Zk7 {listed : Array Bool} (hsz : listed.size = ops.size) (hdown : Down ops listed) {a : Act} {w : World} : ∀ (n : Nat) (re : List Nat) (sl : Sl) (B : List Row), (re.filter fun j => listed.getD j true).length ≤ n → LS ops listed re →
  Run P H f G ops re sl B slF BF → InvD P b ops listed re sl B a w → ∃ re' sl' B', LS ops listed re' ∧ Run P H f G ops re' sl' B' slF BF ∧ InvD P b ops listed re' sl' B' a w ∧ Z8j ops listed re' := by
 intro n
 induction n with
 | zero =>
  intro re sl B hn hls hrun hinv
  refine ⟨re, sl, B, hls, hrun, hinv, fun j hj hlj => ?_⟩
  have : j ∈ re.filter fun j => listed.getD j true := Z2o.2 ⟨hj, hlj⟩
  rw [Zcm.1 (Nat.le_zero.1 hn)] at this
  simp at this
 | succ n ih =>
  intro re sl B hn hls hrun hinv
  by_cases hnorm : Z8j ops listed re
  ·exact ⟨re, sl, B, hls, hrun, hinv, hnorm⟩
  obtain ⟨j, hj⟩ := Classical.not_forall.1 hnorm
  obtain ⟨hj, hj2⟩ := Classical.not_imp.1 hj
  obtain ⟨hlj, hno⟩ := Classical.not_imp.1 hj2
  cases hfl : re.filter (fun j => listed.getD j true) with
  | nil =>
   have : j ∈ re.filter fun j => listed.getD j true := Z2o.2 ⟨hj, hlj⟩
   rw [hfl] at this
   simp at this
  | cons j0 rest =>
   have hsf : (re.filter fun j => listed.getD j true).Pairwise (· < ·) := hls.sorted.filter _
   rw [hfl] at hsf hn
   have hmin : ∀ k, k ∈ re → listed.getD k true = true → j0 ≤ k := by
    intro k hk hlk
    have : k ∈ re.filter fun j => listed.getD j true := Z2o.2 ⟨hk, hlk⟩
    rw [hfl] at this
    rcases Z1K.1 this with rfl | h
    ·exact Z1y _
    ·exact Nat.le_of_lt ((Z61.1 hsf).1 k h)
   have hj0' : j0 ∈ re.filter fun j => listed.getD j true := by rw [hfl]; simp
   obtain ⟨hj0, hlj0⟩ := Z2o.1 hj0'
   have hno0 : ∀ p op, p ∈ re → p < j0 → listed.getD p true = false → ops[p]? = some op → Z20 op ≠ true := by
    intro p op hp hlt hlp hop hnew
    exact hno ⟨p, op, hp, Z4T hlt (hmin j hj hlj), hlp, hop, hnew⟩
   obtain ⟨S, β, mf, hg, hst, hlone, hinj⟩ := hinv
   obtain ⟨⟨o, t, d, z, zv, ho, hop, hgd, hd, hz, hzv, ht, htm, hL⟩, hold⟩ := hlone j0 hj0 hlj0
   have hj0s : j0 < listed.size := by rw [hsz]; exact hls.size j0 hj0
   have hlj0' : listed.getD j0 false = true := by rw [← Z4q hj0s]; exact hlj0
   obtain ⟨s1, B1, htr, hrun'⟩ := Zey ho k3 k2 re sl B hls.sorted hj0 hrun (by
    intro k x hk hki hx
    have hlk : listed.getD k true = false := by
     cases hc : listed.getD k true with
     | false => rfl
     | true => have := hmin k hk hc; omega
    have hks : k < listed.size := by rw [hsz]; exact hls.size k hk
    have hnb : ((msOf ops.toList []).getD j0 0).testBit k ≠ true := by
     intro hb
     have := Z4R k1 hdown j0 o k ho (fun e he hb => hdown j0 o e hlj0' ho he hb) hb
     rw [← Z4q hks, hlk] at this
     simp at this
    exact ⟨(k4 k j0 x o hki hx ho).resolve_left hnb, Zch hl hask ho hx hki hnb (fun h => hno0 k x hk hki hlk hx h.1)⟩)
   obtain ⟨z', zv', hz', hzv', ht', rfl, heq⟩ := Ziw hop hgd hd htr
   rw [hz] at hz'
   cases hz'
   rw [hzv] at hzv'
   cases hzv'
   obtain ⟨c1, c2⟩ := ZhS (w := w) (S := S) (β := β) (n := B.length) hzv ht
   obtain ⟨hga, hub⟩ := hg.adopt hL c1 c2
   have hdn : d < b.nt := hdst j0 o d ho hd
   have hslot : ∀ t', t' < b.nt → get s1 t' = get sl t' ∨ (ARel w S (newβ β B.length (mf j0)) (B ++ [Z1h z]).length (get s1 t') (a.tmps.getD t' undef) ∧ isUn (get s1 t') = false) := by
    intro t' ht'
    rw [heq t', Z10]
    by_cases e : d = t'
    ·subst e
     rw [if_pos rfl, htm]
     refine .inr ⟨?_, rfl⟩
     have := ARel.ptr (w := w) (S := S) (β := newβ β B.length (mf j0)) (n := (B ++ [Z1h z]).length) B.length 0 (by simp)
     rwa [Z1l] at this
    ·rw [if_neg e]
     exact .inl rfl
   have hg1 : Good b.nt w S (newβ β B.length (mf j0)) s1 (B ++ [Z1h z]) a := hga.reslot hslot (fun t' ht' => by
    have hne : ¬ d = t' := by rintro rfl; exact absurd hdn (Nat.not_lt.2 ht')
    rw [heq t', Z10, if_neg hne]
    exact hg.high t' ht')
   have hub1 : ∀ c, UB (Here b.nt s1 a.tmps (B ++ [Z1h z]) (newβ β B.length (mf j0)) w) c → UB (Here b.nt sl a.tmps B β w) c := fun c hc =>
    hub c (UB.reslot (fun t' ht' => (hslot t' ht').imp id fun h => h.2) c hc)
   have hlen : (B ++ [Z1h z]).length = B.length + 1 := by simp
   have hst1 : Step b.m0 b.w b.S b.β b.n b.U w S (newβ β B.length (mf j0)) (B ++ [Z1h z]).length (UB (Here b.nt s1 a.tmps (B ++ [Z1h z]) (newβ β B.length (mf j0)) w)) := by
    refine { hst with low := fun hm => ?_, boxes := fun i hi => ?_, uns := fun c hc => hst.uns c (hub1 c hc) }
    ·obtain ⟨q1, q2⟩ := hst.low hm
     exact ⟨by rw [hlen]; omega, fun i hi => by rw [Z2l (by omega)]; exact q2 i hi⟩
    ·rw [hlen] at hi
     rcases Z22 i B.length with h | h
     ·rw [Z2l h]; exact hst.boxes i h
     ·have : i = B.length := by omega
      subst this
      rw [Z1l]
      exact .inr hold
   have hls' : LS ops listed (re.filter (· != j0)) := by
    refine ⟨hls.sorted.filter _, fun j hj => hls.size j (Z2o.1 hj).1, fun j h1 h2 => Z2o.2 ⟨hls.all j h1 h2, ?_⟩⟩
    simp only [bne_iff_ne, ne_eq]
    rintro rfl
    rw [hlj0] at h2
    simp at h2
   refine ih (re.filter (· != j0)) s1 _ ?_ hls' hrun' ⟨S, newβ β B.length (mf j0), mf, hg1, hst1, ?_, ?_⟩
   ·have e : (re.filter (· != j0)).filter (fun j => listed.getD j true) = (re.filter fun j => listed.getD j true).filter (· != j0) := by
     rw [List.filter_filter, List.filter_filter]
     congr 1
     funext q
     exact Bool.and_comm _ _
    rw [e, hfl, List.filter_cons]
    simp only [bne_self_eq_false, q8_, if_false]
    have := List.length_filter_le (· != j0) rest
    simp only [Z38] at hn
    omega
   ·intro j hj hlj
    obtain ⟨hj, hne⟩ := Z2o.1 hj
    have hne : j ≠ j0 := by simpa using hne
    obtain ⟨⟨o', t', d', z', zv', q1, q2, q3, q4, q5, q6, q7, q8, q9⟩, q10⟩ := hlone j hj hlj
    refine ⟨⟨o', t', d', z', zv', q1, q2, q3, q4, q5, q6, q7, q8, ⟨q9.here, ?_, q9.stay, fun hu => q9.un (hub1 _ hu)⟩⟩, q10⟩
    intro i hi e
    rw [hlen] at hi
    rcases Z22 i B.length with h | h
    ·rw [Z2l h] at e; exact q9.box i h e
    ·have : i = B.length := by omega
     subst this
     rw [Z1l] at e
     exact hne (hinj j j0 hj hj0 hlj hlj0 e.symm)
   ·intro j k hj hk h1 h2 e
    exact hinj j k (Z2o.1 hj).1 (Z2o.1 hk).1 h1 h2 e
theorem Zhw {I : Inv} (hp : Pers I) (hI : I b.w b.S) (hF : Z2n P I G) (k5 : Z71 ops = true) (hQ : ∀ a w, At b slF BF a w → Q .normal a w) :
  ∀ (fuel : Nat) (listed : Array Bool) (re : List Nat) (sl : Sl) (B : List Row) (a : Act) (w : World), listed.size = ops.size → Down ops listed → LS ops listed re → Z8j ops listed re → (Z1U ops listed).length ≤ fuel →
   Run P H f G ops re sl B slF BF → InvD P b ops listed re sl B a w → wpAny P .any ops Q fuel listed a w := by
 have hempty : ∀ (listed : Array Bool), Z1U ops listed = [] → Region.ready .any ops listed = [] := by
  intro listed hr
  cases hre : Region.ready .any ops listed with
  | nil => rfl
  | cons i r =>
   have : i ∈ Region.ready .any ops listed := by rw [hre]; simp
   obtain ⟨h1, o, ho, _⟩ := mem_ready.1 this
   have : i ∈ Z1U ops listed := Z2C.2 ⟨(Z2z.1 ho).1, h1⟩
   rw [hr] at this
   simp at this
 have hdone : ∀ {listed : Array Bool} {re : List Nat} {sl : Sl} {B : List Row} {a : Act} {w : World}, LS ops listed re → Z8j ops listed re → Z1U ops listed = [] → Run P H f G ops re sl B slF BF → InvD P b ops listed re sl B a w → Q .normal a w := by
  intro listed re sl B a w hls hn hr hrun hinv
  have hnil : re = [] := by
   cases hre : re with
   | nil => rfl
   | cons j r =>
    exfalso
    have hj : j ∈ re := by rw [hre]; simp
    have hun : ∀ p, p ∈ re → listed.getD p true = true := by
     intro p hp
     cases hc : listed.getD p true with
     | true => rfl
     | false =>
      have : p ∈ Z1U ops listed := Z2C.2 ⟨hls.size p hp, hc⟩
      rw [hr] at this
      simp at this
    obtain ⟨p, op, hp, _, hlp, _⟩ := hn j hj (hun j hj)
    rw [hun p hp] at hlp
    simp at hlp
  subst hnil
  obtain ⟨e, rfl⟩ := hrun
  obtain ⟨S, β, _, hg, hst, _⟩ := hinv
  exact hQ a w (At.eqv ⟨S, β, hg, hst⟩ e)
 intro fuel
 induction fuel with
 | zero =>
  intro listed re sl B a w hsz hdown hls hn hlen hrun hinv
  have hr : Z1U ops listed = [] := Zcm.1 (by omega)
  exact ⟨hempty listed hr, hdone hls hn hr hrun hinv⟩
 | succ fuel ih =>
  intro listed re sl B a w hsz hdown hls hn hlen hrun hinv
  refine ⟨fun hre => ?_, fun i hi => ?_⟩
  ·cases hr : Z1U ops listed with
   | nil => exact hdone hls hn hr hrun hinv
   | cons i0 rest =>
    exfalso
    have hm : i0 ∈ Z1U ops listed := by rw [hr]; simp
    obtain ⟨h1, h2⟩ := Z2C.1 hm
    have hs := Z7d (ops := ops) listed
    rw [hr] at hs
    have hmin := (Z61.1 hs).1
    have ho : ops[i0]? = some ops[i0] := by simp [h1]
    have : i0 ∈ Region.ready .any ops listed := by
     refine mem_ready.2 ⟨h2, _, ho, fun e he hb => ?_⟩
     have hlt := k1 i0 _ e ho he hb
     have hn : e.on ∉ Z1U ops listed := by
      rw [hr]
      intro hm'
      rcases Z1K.1 hm' with h3 | h3
      ·omega
      ·have := hmin _ h3; omega
     rw [Z2C] at hn
     have hlt' : e.on < ops.size := by omega
     cases hg : listed.getD e.on true with
     | false => exact absurd ⟨hlt', hg⟩ hn
     | true =>
      have hs' : e.on < listed.size := by omega
      rw [← Z4q hs']
      exact hg
    rw [hre] at this
    simp at this
  ·obtain ⟨h1, o, ho, hedge⟩ := mem_ready.1 hi
   have hin : i < ops.size := (Z2z.1 ho).1
   have hil : i < listed.size := by omega
   have hm : i ∈ re := hls.all i hin h1
   have hmr : i ∈ Z1U ops listed := Z2C.2 ⟨hin, h1⟩
   obtain ⟨S, β, mf, hg, hst, hlone, hinj⟩ := hinv
   have hlk : ∀ k, ((msOf ops.toList []).getD i 0).testBit k = true → listed.getD k false = true := fun k hb => Z4R k1 hdown i o k ho hedge hb
   have hnb : ∀ (k : Nat) (x : Oper), k ∈ re → ops[k]? = some x → ((msOf ops.toList []).getD i 0).testBit k ≠ true := by
    intro k x hk hx hb
    have h2 := hlk k hb
    have hks : k < listed.size := by rw [hsz]; exact hls.size k hk
    rw [← Z4q hks] at h2
    obtain ⟨⟨ok, t, d, z, zv, q1, q2, q3, q4, _⟩, _⟩ := hlone k hk h2
    rw [hx] at q1
    cases q1
    obtain ⟨p, op, hp1, hp2, hp3, hp4, hp5⟩ := hn k hk h2
    have hps : p < listed.size := by rw [hsz]; exact hls.size p hp1
    have hkl : listed.getD k false = true := hlk k hb
    have hmk : ((msOf ops.toList []).getD k 0).testBit p ≠ true := by
     intro hb2
     have := Z4R k1 hdown k x p hx (fun e he hb => hdown k x e hkl hx he hb) hb2
     rw [← Z4q hps, hp3] at this
     simp at this
    obtain ⟨_, _, h5⟩ := Z7S k5 hp2 hx hp4 (by unfold Z20; rw [q2]) hp5 hmk
    have := hlk p (h5 i hin hb)
    rw [← Z4q hps, hp3] at this
    simp at this
   have hap : ∀ (k : Nat) (x : Oper), k ∈ re → k < i → ops[k]? = some x → Z2g H f ops x o = true := fun k x hk hki hx => (k4 k i x o hki hx ho).resolve_left (hnb k x hk hx)
   have hset : ∀ j, (listed.setIfInBounds i true).getD j true = (listed.getD j true || j == i) := by
    intro j
    by_cases e : i = j
    ·subst e; simp [hil]
    ·rw [getD_set_ne true e]
     have : (j == i) = false := by simpa using fun h => e h.symm
     rw [this, Bool.or_false]
   have hrem : Z1U ops (listed.setIfInBounds i true) = (Z1U ops listed).filter (· != i) := by
    unfold Z1U
    rw [List.filter_filter]
    congr 1
    funext j
    rw [hset]
    simp only [bne, Bool.not_or]
    exact Bool.and_comm _ _
   have hdown' : Down ops (listed.setIfInBounds i true) := by
    intro j o' e hj ho' he hb
    by_cases e' : i = j
    ·subst e'
     rw [ho] at ho'
     cases ho'
     exact getD_set_true (hedge e he hb)
    ·rw [getD_set_ne false e'] at hj
     exact getD_set_true (hdown j o' e hj ho' he hb)
   have hlen' : (Z1U ops (listed.setIfInBounds i true)).length ≤ fuel := by
    rw [hrem]
    have : ((Z1U ops listed).filter (· != i)).length < (Z1U ops listed).length := by
     rw [List.length_filter_lt_length_iff_exists]
     exact ⟨i, hmr, by simp⟩
    omega
   by_cases hlate : ∃ k x, k ∈ re ∧ k < i ∧ ops[k]? = some x ∧ Z20 x = true ∧ Z20 o = true
   case neg =>
    obtain ⟨s1, B1, ht, hrun'⟩ := Zey ho k3 k2 re sl B hls.sorted hm hrun (by
     intro k x hk hki hx
     exact ⟨hap k x hk hki hx, Zch hl hask ho hx hki (hnb k x hk hx) (fun h => hlate ⟨k, x, hk, hki, hx, h.1, h.2⟩)⟩)
    have hls' : LS ops (listed.setIfInBounds i true) (re.filter (· != i)) := by
     refine ⟨hls.sorted.filter _, fun j hj => hls.size j (Z2o.1 hj).1, fun j h2 h3 => ?_⟩
     rw [hset] at h3
     simp only [Bool.or_eq_false_iff] at h3
     exact Z2o.2 ⟨hls.all j h2 h3.1, by simpa [bne] using h3.2⟩
    let b' : Base := ⟨b.nt, b.m0, B.length, w, S, β, UB (Here b.nt sl a.tmps B β w)⟩
    have hgo : ∀ a' w', At b' s1 B1 a' w' → (∀ t, o.dst ≠ some t → a'.tmps.getD t undef = a.tmps.getD t undef) → wpAny P .any ops Q fuel (listed.setIfInBounds i true) a' w' := by
     intro a' w' hat htm
     obtain ⟨S', β', hg', hst'⟩ := hat
     have hinv' : InvD P b ops (listed.setIfInBounds i true) (re.filter (· != i)) s1 B1 a' w' := by
      refine ⟨S', β', mf, hg', hst.trans hst', ?_, ?_⟩
      ·intro j hj hlj
       obtain ⟨hj, hne⟩ := Z2o.1 hj
       have hne : j ≠ i := by simpa using hne
       rw [hset] at hlj
       have hlj : listed.getD j true = true := by simpa [hne] using hlj
       obtain ⟨⟨o', t', d', z', zv', q1, q2, q3, q4, q5, q6, q7, q8, q9⟩, q10⟩ := hlone j hj hlj
       exact ⟨⟨o', t', d', z', zv', q1, q2, q3, q4, q5, q6, q7, by rw [htm d' (ZfN k3 ho q1 hne q4)]; exact q8, q9.step hst'⟩, q10⟩
      ·intro j k hj hk h2 h3 e
       obtain ⟨hj, hne⟩ := Z2o.1 hj
       obtain ⟨hk, hne'⟩ := Z2o.1 hk
       have hne : j ≠ i := by simpa using hne
       have hne' : k ≠ i := by simpa using hne'
       rw [hset] at h2 h3
       exact hinj j k hj hk (by simpa [hne] using h2) (by simpa [hne'] using h3) e
     obtain ⟨re2, sl2, B2, r1, r2, r3, r4⟩ := Zk7 k1 k2 k3 k4 hdst hl hask (by simp [hsz]) hdown' _ _ s1 B1 (Z1y _) hls' hrun' hinv'
     exact ih _ re2 sl2 B2 a' w' (by simp [hsz]) hdown' r1 r4 hlen' r2 r3
    have := ZcL (b := b') (Q := Q) hp (hp _ _ _ _ hst.keeps hI) hF (fun t ht => hdst i o t ho ht) ht ⟨S, β, hg, .refl ..⟩
    unfold wpOp
    simp only [ho]
    split at this
    ·rename_i hw
     rw [if_pos hw]
     exact .inl (Oper.wp_mono (fun a' w' h => hgo a' w' h.1 h.2) (Zmf this))
    ·rename_i hw
     rw [if_neg hw]
     exact hgo _ _ this fun t ht => Z47 ht
   case pos =>
    obtain ⟨k, x, hk, hki, hx, hnx, hno⟩ := hlate
    obtain ⟨hal, _, _⟩ := Z7S k5 hki ho hx hno hnx (hnb k x hk hx)
    obtain ⟨t, d, hop, hgd, hd⟩ := ZgT hal
    obtain ⟨_, _, _, _, htr⟩ := Run.mem ho re sl B hm hrun
    obtain ⟨z, zv, hz, hzv, ht, _, _⟩ := Ziw hop hgd hd htr
    have hdn : d < b.nt := hdst i o d ho hd
    have hrunM : (execOp a.eval o).run P w = .ok (.value (.pointer (some ⟨w.heap.size, 0, none⟩))) (w.alloc (.cells zv.cells t)) := by
     obtain ⟨inf, hinf, hzr⟩ := Zcn.1 hz
     unfold execOp
     simp only [hop]
     show ((Instr.alloc t true (.tuple #[])).bind fun x => Sem.pure (Next.value x)).run P w = _
     rw [Sem.run_bind']
     unfold Instr.alloc
     simp [zeroValue, typeInfo, hinf, hzr, Z6a]
    have hf := Z2L w zv.cells t
    generalize w.alloc (.cells zv.cells t) = w' at hrunM hf
    have hgf := hg.fresh hf 0
    have hjk : ARel w' (S.more w.heap.size 0) β B.length jk (.pointer (some ⟨w.heap.size, 0, none⟩)) := .p _ _ (.junk _)
    have hg' := hgf.put (d := some d) (by rintro _ ⟨⟩; exact hdn) hjk rfl
    have hback : ∀ c, UB (Here b.nt ((d, jk) :: sl) (a.put (some d) (.pointer (some ⟨w.heap.size, 0, none⟩))).tmps B β w') c → UB (Here b.nt sl a.tmps B β w) c := by
     intro c hc
     obtain ⟨lc, y, u, h2, h3, h4⟩ := UB.put (d := some d) hg.size (by rintro _ ⟨⟩; exact hdn) (x := jk) rfl c hc
     refine ⟨lc, y, u, ?_, h3, h4⟩
     cases lc with
     | slot t => exact h2
     | box id q =>
      obtain ⟨r, e1, e2, e3⟩ := h2
      rw [cell_of_heap (hf.old (hg.mem.lt (q1_.1 e1).1))] at e3
      exact ⟨r, e1, e2, e3⟩
    have hstep : Step b.m0 w S β B.length (UB (Here b.nt sl a.tmps B β w)) w' (S.more w.heap.size 0) β B.length (UB (Here b.nt ((d, jk) :: sl) (a.put (some d) (.pointer (some ⟨w.heap.size, 0, none⟩))).tmps B β w')) := by
     refine ⟨hf.keeps hg.mem.stay 0, by rw [hf.size]; omega, hf.os, hf.tape, hf.output, fun h => ⟨h, fun _ _ => rfl⟩, fun i hi => .inl ⟨i, hi, rfl, fun x => x⟩, fun c hc => .inl (hback c hc), fun c q hs => ?_, fun c hc _ _ => hf.old hc⟩
     rcases hs with hs | ⟨_, hs⟩
     ·exact .inl hs
     ·omega
    have hloneI : Lone w' (S.more w.heap.size 0) β B.length (Here b.nt ((d, jk) :: sl) (a.put (some d) (.pointer (some ⟨w.heap.size, 0, none⟩))).tmps B β w') w.heap.size zv.cells t := by
     refine ⟨hf.new, fun id hid e => ?_, fun q hs => ?_, fun hu => ?_⟩
     ·have := hg.mem.lt hid; omega
     ·rcases hs with hs | ⟨_, hs⟩
      ·have := hg.mem.stay _ _ hs; omega
      ·omega
     ·obtain ⟨lc, y, u, h2, h3, h4⟩ := hback _ hu
      obtain ⟨c, h5, h6⟩ := (hg.uns.ok lc y u h2 h3).1.blk
      rw [h4] at h5
      cases h5
      omega
    unfold wpOp
    simp only [ho]
    have hwant : Region.wanted o (yielded ops a.tmps) = true := by unfold Region.wanted; rw [hgd]
    rw [if_pos hwant]
    refine .inl (Z1e hrunM ?_)
    rw [hd]
    have hls' : LS ops (listed.setIfInBounds i true) re := ⟨hls.sorted, hls.size, fun j h2 h3 => by
     rw [hset] at h3
     simp only [Bool.or_eq_false_iff] at h3
     exact hls.all j h2 h3.1⟩
    obtain ⟨p0, op0, hp1, hp2, hp3, hp4, hp5⟩ : ∃ p op, p ∈ re ∧ p < i ∧ listed.getD p true = false ∧ ops[p]? = some op ∧ Z20 op = true := by
     cases hc : listed.getD k true with
     | false => exact ⟨k, x, hk, hki, hc, hx, hnx⟩
     | true =>
      obtain ⟨p, op, r1, r2, r3, r4, r5⟩ := hn k hk hc
      exact ⟨p, op, r1, by omega, r3, r4, r5⟩
    have hlp0 : (listed.setIfInBounds i true).getD p0 true = false := by
     rw [hset, hp3]
     simp only [Bool.false_or, beq_eq_false_iff_ne]
     omega
    refine ih _ re ((d, jk) :: sl) B _ w' (by simp [hsz]) hdown' hls' ?_ hlen' (Run.unset ho hop hgd hd jk re sl B hls.sorted hm hap hrun) ?_
    ·intro j hj hlj
     rw [hset] at hlj
     by_cases hji : j = i
     ·subst hji
      exact ⟨p0, op0, hp1, hp2, hlp0, hp4, hp5⟩
     ·obtain ⟨p, op, r1, r2, r3, r4, r5⟩ := hn j hj (by simpa [hji] using hlj)
      by_cases hpi : p = i
      ·subst hpi
       exact ⟨p0, op0, hp1, by omega, hlp0, hp4, hp5⟩
      ·exact ⟨p, op, r1, r2, by rw [hset, r3]; simpa using hpi, r4, r5⟩
    ·obtain ⟨mf', hm1, hm2⟩ : ∃ mf' : Nat → Nat, mf' i = w.heap.size ∧ ∀ q, q ≠ i → mf' q = mf q := ⟨fun q => if q = i then w.heap.size else mf q, if_pos rfl, fun q hq => if_neg hq⟩
     refine ⟨S.more w.heap.size 0, β, mf', hg', hst.trans hstep, ?_, ?_⟩
     ·intro j hj hlj
      rw [hset] at hlj
      by_cases hji : j = i
      ·rw [hji, hm1]
       refine ⟨⟨o, t, d, z, zv, ho, hop, hgd, hd, hz, hzv, ht, ?_, hloneI⟩, hst.size⟩
       show ((a.tmps.setIfInBounds d _).getD d undef) = _
       rw [Z3q (by rw [hg.size]; exact hdn), if_pos rfl]
      ·obtain ⟨⟨o', t', d', z', zv', q1, q2, q3, q4, q5, q6, q7, q8, q9⟩, q10⟩ := hlone j hj (by simpa [hji] using hlj)
       have hdd : d' ≠ d := fun e => ZfN k3 ho q1 hji q4 (by rw [hd, e])
       rw [hm2 j hji]
       refine ⟨⟨o', t', d', z', zv', q1, q2, q3, q4, q5, q6, q7, ?_, q9.step hstep⟩, q10⟩
       rw [Z47 (by simpa using fun e => hdd e.symm)]
       exact q8
     ·intro j k hj hk h2 h3 e
      rw [hset] at h2 h3
      have hlt : ∀ q, q ∈ re → q ≠ i → (listed.getD q true || q == i) = true → mf q < w.heap.size := by
       intro q hq hqi hlq
       obtain ⟨⟨o', t', d', z', zv', _, _, _, _, _, _, _, _, q9⟩, _⟩ := hlone q hq (by simpa [hqi] using hlq)
       exact (Z2z.1 q9.here).1
      by_cases hji : j = i <;> by_cases hki' : k = i
      ·rw [hji, hki']
      ·rw [hji, hm1, hm2 k hki'] at e
       have := hlt k hk hki' h3
       omega
      ·rw [hki', hm1, hm2 j hji] at e
       have := hlt j hj hji h2
       omega
      ·rw [hm2 j hji, hm2 k hki'] at e
       exact hinj j k hj hk (by simpa [hji] using h2) (by simpa [hki'] using h3) e
end
theorem At.drew {sl : Sl} {B : List Row} {a : Act} {w : World} (h : At b sl B a w) : At b sl B a { w with drawn := w.drawn + 1 } := by
 obtain ⟨S, β, hg, hst⟩ := h
 have hk : Keeps w S { w with drawn := w.drawn + 1 } S := ⟨fun _ _ h => h, fun _ _ _ => rfl⟩
 refine ⟨S, β, hg.world hk (fun i hi => ⟨rfl, hg.mem.apart i hi⟩) hg.mem.stay (fun l x v hl hu => (hg.uns.ok l x v hl hu).1.world fun _ _ => ⟨rfl, fun _ h => h⟩), ?_⟩
 exact { hst with keeps := hst.keeps.trans hk, uns := fun b hb => hst.uns b (UB.world hg.mem (fun _ _ => rfl) hb), block := fun b h1 h2 h3 => hst.block b h1 h2 h3 }
theorem Zdo {I : Inv} (hp : Pers I) (hI : I b.w b.S) (hF : Z2n P I G) (hm : P.follows .mixedOrders = true) (hdst : ∀ (i : Nat) (o : Oper) (t : Tmp), ops[i]? = some o → o.dst = some t → t < b.nt) (hok : Z59 H f ops = true) {id : Nat}
  {K : Sl → List Row → Option Res} {r : Res} {sl : Sl} {B : List Row} {a : Act} {w : World} (hk : runRegion P H f G ops true K sl B = some r) (h : At b sl B a w)
  (hQ : ∀ sl B a w, K sl B = some r → At b sl B a w → Q .normal a w) : (Code.region id ops true).wp P Q a w := by
 unfold runRegion at hk
 simp only at hk
 split at hk
 ·simp at hk
 ·rename_i l hl
  obtain ⟨slF, BF, h1, h2⟩ := Z4h ops.toList 0 0 [] sl B (fun j _ => by simp) hk
  obtain ⟨h3, h4⟩ := Z7I h2
  have hrem : Z1U ops (Array.replicate ops.size false) = List.range' 0 ops.toList.length := by
   unfold Z1U
   rw [Zic.2]
   ·rw [List.range_eq_range']; simp
   ·intro j hj
    simp only [Z4g] at hj
    simp [hj]
  obtain ⟨k1, k2, k3, k4⟩ := ZcS hok
  obtain ⟨S, β, hg, hst⟩ := h.drew
  have hun : ∀ j, j ∈ Z1U ops (Array.replicate ops.size false) → (Array.replicate ops.size false).getD j true = false := fun j hj => (Z2C.1 hj).2
  have hls : LS ops (Array.replicate ops.size false) (Z1U ops (Array.replicate ops.size false)) := ⟨Z7d _, fun j hj => (Z2C.1 hj).1, fun j h1 h2 => Z2C.2 ⟨h1, h2⟩⟩
  refine wp_region_any hm (Zhw k1 k2 k3 k4 hdst hl h3 hp hI hF (ZcR hok) (fun a w ha => hQ slF BF a w h4 ha) ops.size _ (Z1U ops (Array.replicate ops.size false)) sl B a _ (by simp) ?_ hls (fun j hj hlj => by rw [hun j hj] at hlj; simp at hlj) (by rw [hrem]; simp) (by rw [hrem]; exact h1)
   ⟨S, β, fun j => j, hg, hst, fun j hj hlj => by rw [hun j hj] at hlj; simp at hlj, fun j k hj _ hlj _ _ => by rw [hun j hj] at hlj; simp at hlj⟩)
  intro j o e hj
  have : (Array.replicate ops.size false).getD j false = false := by
   simp only [Zcl]
   cases hj' : (Array.replicate ops.size false)[j]? with
   | none => rfl
   | some x =>
    have := Array.mem_of_getElem? hj'
    simp at this
    simp [this.2]
  rw [this] at hj
  simp at hj
end
end Go.Abs
end
section
namespace Go.Abs
open Go
theorem Zig : ∀ (x : AV), Z11 (fun i => i) x = x := by
 intro x
 induction x using AV.rec (motive_2 := fun l => ZT (fun i => i) l = l) with
 | p x => simp [Z11]
 | ptr id off => simp [Z11]
 | mp id => simp [Z11]
 | md es => simp [Z11]
 | cptr cs => simp [Z11]
 | clo f a b iha ihb => simp [Z11, iha, ihb]
 | agg cs ih => simp [Z11, ih]
 | tup vs ih => simp [Z11, ih]
 | nil => simp [ZT]
 | cons x r ihx ihr => simp [ZT, ihx, ihr]
theorem ARel.fewer {w : World} {S : Stay} {β : Nat → Nat} {n n' : Nat} {x : AV} {v : Value} (h : ARel w S β n x v) (hp : ∀ i, i ∈ ptrs x → i < n') : ARel w S β n' x v := by
 have := Z3t (g := fun i => i) (β' := β) (n' := n') h fun i hi => ⟨hp i hi, rfl⟩
 rwa [Zig] at this
theorem Z6c {B : List Row} {n i : Nat} {r : Row} (h : (B.take n)[i]? = some r) : i < n ∧ B[i]? = some r := by
 rw [Z3B] at h
 split at h
 ·exact ⟨‹_›, h⟩
 ·simp at h
section
variable {b : Base} {sl : Sl} {B : List Row} {a : Act} {w : World}
theorem At.take (h : At b sl B a w) {n : Nat} (hm : b.m0 ≤ n) (hs : ∀ t i, i ∈ ptrs (get sl t) → i < n) (hr : ∀ row, row ∈ B.take n → ∀ i, i ∈ ZI row → i < n) : At b sl (B.take n) a w := by
 obtain ⟨S, β, hg, hst⟩ := h
 have hlen : (B.take n).length = min n B.length := by simp
 have hle : ∀ i, i < (B.take n).length → i < B.length := by intro i hi; rw [hlen] at hi; omega
 have fewer : ∀ {x : AV} {v : Value}, ARel w S β B.length x v → (∀ i, i ∈ ptrs x → i < n) → ARel w S β (B.take n).length x v := by
  intro x v hx hp
  refine hx.fewer fun i hi => ?_
  have := Z8c hx i hi
  have := hp i hi
  rw [hlen]; omega
 have here : ∀ l x v, Here b.nt sl a.tmps (B.take n) β w l x v → Here b.nt sl a.tmps B β w l x v := by
  intro l x v hl
  cases l with
  | slot t => exact hl
  | box id j =>
   obtain ⟨row, q1, q2, q3⟩ := hl
   exact ⟨row, (Z6c q1).2, q2, q3⟩
 refine ⟨S, β, ⟨hg.size, hg.defers, ?_, hg.high, ⟨?_, ?_, ?_, ?_, hg.mem.stay, fun id r es hid hm => hg.mem.maps id r es (Z6c hid).2 hm⟩, ⟨?_, ?_⟩⟩, ?_⟩
 ·intro t ht
  exact fewer (hg.slots t ht) (hs t)
 ·intro id r hid hm
  exact hg.mem.row id r (Z6c hid).2 hm
 ·intro id r j x hid hm hx
  obtain ⟨v, q1, q2, q3⟩ := hg.mem.cell id r j x (Z6c hid).2 hm hx
  exact ⟨v, q1, fewer q2 fun i hi => hr r (q7_ hid) i (Z1x.2 ⟨x, q7_ hx, hi⟩), q3⟩
 ·intro i j hi hj
  exact hg.mem.inj i j (hle i hi) (hle j hj)
 ·intro i hi
  exact hg.mem.apart i (hle i hi)
 ·intro l x v hl hu
  obtain ⟨q1, q2⟩ := hg.uns.ok l x v (here l x v hl) hu
  exact ⟨q1, fun i hi => q2 i (hle i hi)⟩
 ·intro l l' x x' v v' hl hl'
  exact hg.uns.inj l l' x x' v v' (here l x v hl) (here l' x' v' hl')
 ·refine { hst with low := fun h1 => ?_, boxes := fun i hi => hst.boxes i (hle i hi), uns := fun c hc => ?_ }
  ·obtain ⟨q1, q2⟩ := hst.low h1
   exact ⟨by rw [hlen]; omega, q2⟩
  ·obtain ⟨l, x, v, hl, hu, hb⟩ := hc
   exact hst.uns c ⟨l, x, v, here l x v hl, hu, hb⟩
theorem Z4G (sl : Sl) : ∀ (l : List Nat) (t : Nat), get (Z2K sl l) t = get sl t ∨ get (Z2K sl l) t = jk
 | [], t => .inr rfl
 | u :: r, t => by
  show get ((u, get sl u) :: Z2K sl r) t = _ ∨ get ((u, get sl u) :: Z2K sl r) t = _
  rw [Z10]
  by_cases e : u = t
  ·rw [if_pos e, e]; exact .inl rfl
  ·rw [if_neg e]; exact Z4G sl r t
theorem At.clean (h : At b sl B a w) (m : List Nat) : At b (Z2K sl m) B a w := by
 obtain ⟨S, β, hg, hst⟩ := h
 have hr : ∀ t, t < b.nt → get (Z2K sl m) t = get sl t ∨ isUn (get (Z2K sl m) t) = false := by
  intro t _
  rcases Z4G sl m t with e | e
  ·exact .inl e
  ·exact .inr (by rw [e]; rfl)
 refine ⟨S, β, hg.reslot ?_ ?_, hst.less fun c hc => UB.reslot hr c hc⟩
 ·intro t _
  rcases Z4G sl m t with e | e
  ·exact .inl e
  ·exact .inr (by rw [e]; exact ⟨ARel.junk _, rfl⟩)
 ·intro t ht
  rcases Z4G sl m t with e | e
  ·rw [e]; exact hg.high t ht
  ·exact e
theorem Zau : ∀ (l : List Nat) (m : Nat), m ≤ l.foldl (fun n i => max n (i + 1)) m ∧ ∀ i, i ∈ l → i < l.foldl (fun n i => max n (i + 1)) m
 | [], m => by simp
 | x :: r, m => by
  obtain ⟨h1, h2⟩ := Zau r (max m (x + 1))
  simp only [Zfo]
  refine ⟨by omega, ?_⟩
  intro i hi
  rcases Z1K.1 hi with rfl | hi
  ·omega
  ·exact h2 i hi
theorem Zc7 : ∀ (sl : Sl) (t : Nat), get sl t = jk ∨ get sl t ∈ Z4D sl
 | [], _ => .inl rfl
 | (u, x) :: r, t => by
  rw [Z10]
  by_cases e : u = t
  ·rw [if_pos e]; exact .inr (by simp [Z4D])
  ·rw [if_neg e]
   rcases Zc7 r t with h | h
   ·exact .inl h
   ·exact .inr (by simp [Z4D, h])
theorem At.gc (h : At b sl B a w) : At b sl (gcB b.m0 (Z4D sl) B) a w := by
 unfold gcB
 simp only
 split
 ·rename_i hc
  obtain ⟨h1, h2⟩ := Zau (ZI (Z4D sl)) b.m0
  refine h.take h1 ?_ ?_
  ·intro t i hi
   rcases Zc7 sl t with e | e
   ·rw [e] at hi; simp [jk, ptrs] at hi
   ·exact h2 i (Z1x.2 ⟨_, e, hi⟩)
  ·intro row hrow
   exact Z5G (Z2w.1 hc row hrow)
 ·exact h
theorem Z4m {H : Hints} {f : Nat} {c : Code} {k : Sl → List Row → Option Res} {r : Res} (hk : enter H f b.m0 c k sl B = some r) (h : At b sl B a w) : ∃ sl' B', k sl' B' = some r ∧ At b sl' B' a w := by
 unfold enter hi at hk
 split at hk
 ·exact ⟨sl, B, hk, h⟩
 ·rename_i m _
  exact ⟨_, _, hk, (h.clean m).gc⟩
end
def Z8i (P : Program) (c : Code) (Q : Exit → Act → World → Prop) (a : Act) (w : World) : Prop :=
 ∀ (b : Frame) (k : List Item) (cs : List Frame), ∃ e a' w', Q e a' w' ∧ Arrives P (lone (b.at a (.code c :: .inLoop c :: k)) cs w) b k cs e a' w'
theorem Zfc {P : Program} {c : Code} {Q : Exit → Act → World → Prop} {a : Act} {w : World} (h : c.wp P (Exit.then (Z8i P c Q) Q) a w) : Z8i P c Q a w := by
 intro b k cs
 obtain ⟨e, a₁, w₁, hq, harr⟩ := h b (.inLoop c :: k) cs
 cases e with
 | normal =>
  obtain ⟨e₂, a₂, w₂, hq₂, harr₂⟩ := hq b k cs
  exact ⟨e₂, a₂, w₂, hq₂, .of_steps (Steps.trans harr (.one step_inLoop)) harr₂⟩
 | exit id => exact ⟨_, a₁, w₁, hq, .pass (x := .inLoop c) rfl (fun _ _ => .inl (by simp)) harr⟩
 | goto l => exact ⟨_, a₁, w₁, hq, .pass (x := .inLoop c) rfl (fun _ _ => .inl (by simp)) harr⟩
 | ret => exact ⟨_, a₁, w₁, hq, .pass (x := .inLoop c) rfl (fun _ _ => .inl (by simp)) harr⟩
 | panic ch => exact ⟨_, a₁, w₁, hq, .pass (x := .inLoop c) rfl (fun _ _ => .inl (by simp)) harr⟩
 | outgrown => exact ⟨_, a₁, w₁, hq, .pass (x := .inLoop c) rfl (fun _ _ => .inl (by simp)) harr⟩
theorem Zfz {P : Program} {c : Code} {Q : Exit → Act → World → Prop} {a : Act} {w : World} (h : Z8i P c Q a w) : (Code.loop c).wp P Q a w := by
 intro b k cs
 obtain ⟨e, a', w', hq, harr⟩ := h b k cs
 exact ⟨e, a', w', hq, .of_steps (.one step_loop) harr⟩
def codeOk (H : Hints) (f nt : Nat) : Code → Bool
 | .region _ ops draw => ops.all (fun o => match o.dst with | some d => decide (d < nt) | none => true) && (!draw || Z59 H f ops)
 | .seq a b | .cond _ a b => codeOk H f nt a && codeOk H f nt b
 | .block _ c | .loop c | .scope c => codeOk H f nt c
 | _ => true
def QK (b : Base) (r : Res) (K : Kont) : Exit → Act → World → Prop
 | .normal, a, w => ∃ sl B, K .normal sl B = some r ∧ At b sl B a w
 | .exit id, a, w => ∃ sl B, K (.exit id) sl B = some r ∧ At b sl B a w
 | .ret, a, w => ∃ sl B, K .ret sl B = some r ∧ At b sl B a w
 | _, _, _ => False
def Ze1 (P : Program) (I : Inv) (H : Hints) (LP : LF) : Prop := ∀ (f m0 : Nat) (c : Code) (K : Kont) (sl : Sl) (B : List Row) (r : Res) (b : Base) (a : Act) (w : World),
 I b.w b.S → codeOk H f b.nt c = true → b.m0 = m0 → LP f m0 c K sl B = some r → At b sl B a w → Z8i P c (QK b r K) a w
theorem Z8J {P : Program} {H : Hints} {f : Nat} {G : GF} {LP : LF} {I : Inv} (hp : Pers I) (hF : Z2n P I G) (hL : Ze1 P I H LP) (hm : P.follows .mixedOrders = true) {b : Base} (hI : I b.w b.S) {r : Res} (c : Code) :
  ∀ (K : Kont) (sl : Sl) (B : List Row) (a : Act) (w : World), codeOk H f b.nt c = true → exec P H f b.m0 G LP c K sl B = some r → At b sl B a w → c.wp P (QK b r K) a w := by
 induction c with
 | skip => intro K sl B a w _ he h; exact wp_skip ⟨sl, B, he, h⟩
 | region id ops draw =>
  intro K sl B a w hc he h
  simp only [codeOk, q5_, Array.all_eq_true_iff_forall_mem, Z4U, Z79] at hc
  have hd : ∀ (i : Nat) (o : Oper) (t : Tmp), ops[i]? = some o → o.dst = some t → t < b.nt := by
   intro i o t ho ht
   have := hc.1 o (Array.mem_of_getElem? ho)
   rw [ht] at this
   simpa using this
  change runRegion P H f G ops draw (K .normal) sl B = some r at he
  cases draw with
  | false => exact ZcB hp hI hF hd he h fun sl B a w hk ha => ⟨sl, B, hk, ha⟩
  | true => exact Zdo hp hI hF hm hd (hc.2.resolve_left (by simp)) he h fun sl B a w hk ha => ⟨sl, B, hk, ha⟩
 | seq x y ihx ihy =>
  intro K sl B a w hc he h
  simp only [codeOk, q5_] at hc
  refine wp_seq (wp_mono (ihx (kseq H f b.m0 y (exec P H f b.m0 G LP y K) K) sl B a w hc.1 he h) ?_)
  intro e a w hq
  cases e with
  | normal =>
   obtain ⟨sl', B', hk, ha⟩ := hq
   obtain ⟨sl2, B2, hk2, ha2⟩ := Z4m hk ha
   exact ihy K sl2 B2 a w hc.2 hk2 ha2
  | exit id => exact hq
  | ret => exact hq
  | goto l => exact hq.elim
  | panic ch => exact hq.elim
  | outgrown => exact hq.elim
 | cond c x y ihx ihy =>
  intro K sl B a w hc he h
  simp only [codeOk, q5_] at hc
  change asB (ev sl c) (fun t => br t (enter H f b.m0 x (exec P H f b.m0 G LP x K) sl B) (enter H f b.m0 y (exec P H f b.m0 G LP y K) sl B)) = some r at he
  obtain ⟨t, ht, he⟩ := Z7X he
  have hv : a.eval c = .bool t := by
   obtain ⟨S, β, hg, _⟩ := h
   have := hg.ev c
   rw [ht] at this
   exact Z1z this
  refine wp_cond hv ?_
  cases t with
  | true =>
   obtain ⟨sl', B', hk, ha⟩ := Z4m (k := exec P H f b.m0 G LP x K) he h
   exact ihx K sl' B' a w hc.1 hk ha
  | false =>
   obtain ⟨sl', B', hk, ha⟩ := Z4m (k := exec P H f b.m0 G LP y K) he h
   exact ihy K sl' B' a w hc.2 hk ha
 | block id c ih =>
  intro K sl B a w hc he h
  refine wp_block (wp_mono (ih (kblk id K) sl B a w hc he h) ?_)
  intro e a w hq
  cases e with
  | exit i =>
   obtain ⟨sl', B', hk, ha⟩ := hq
   change (if i = id then K .normal sl' B' else K (.exit i) sl' B') = some r at hk
   show if i = id then _ else _
   split at hk
   ·rename_i e; rw [if_pos e]; exact ⟨sl', B', hk, ha⟩
   ·rename_i e; rw [if_neg e]; exact ⟨sl', B', hk, ha⟩
  | normal => exact hq
  | ret => exact hq
  | goto l => exact hq.elim
  | panic ch => exact hq.elim
  | outgrown => exact hq.elim
 | loop c _ =>
  intro K sl B a w hc he h
  exact Zfz (hL f b.m0 c K sl B r b a w hI hc rfl he h)
 | exit id => intro K sl B a w _ he h; exact wp_exit ⟨sl, B, he, h⟩
 | scope c ih =>
  intro K sl B a w hc he h
  refine wp_scope_straight (wp_mono (ih K sl B a w hc he h) ?_)
  intro e a w hq
  cases e with
  | goto l => exact hq.elim
  | _ => exact hq
 | label l => intro K sl B a w _ he h; exact wp_label ⟨sl, B, he, h⟩
 | ret => intro K sl B a w _ he h; exact wp_ret ⟨sl, B, he, h⟩
 | _ => intro K sl B a w _ he h; simp [exec] at he
end Go.Abs
end
