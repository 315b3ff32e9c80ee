/- The evaluator: operations in a row, drawn orders, loops. No condition. -/
import Derived.Test.YteoeggbihfnbfaaGreatDoorEvB
import Derived.Scope

section
set_option linter.unusedSimpArgs false
set_option linter.unusedVariables false
namespace Go.Abs
open Go
def wk (H : Hints) (f : FuncId) (o : Oper) : List Operand :=
 match o.op with
 | .move x | .assign x | .extract x _ => if Zex H f o.dst then [x] else []
 | .box _ x => [x]
 | .store _ _ x => [x]
 | .mapUpdate _ _ _ x => [x]
 | .insert _ _ _ x => [x]
 | .convert s d x => match Nat.beq s d with | true => [x] | false => []
 | .call c =>
  match c.callee with
  | .builtin .append => match c.args.toList with
   | [x, _] => [x]
   | _ => []
  | .value (.func g) => if H.raw g then c.args.toList else []
  | _ => []
 | _ => []
section
variable (P : Program) (H : Hints) (f : FuncId) (G : GF)
noncomputable def Fop (o : Oper) (sl : Sl) (B : List Row) : Option (AV × List Row) := stepOp P H f G o sl B fun v _ B => some (v, B)
theorem Z6q {α β γ : Type} (x : Option α) (k : α → Option β) (k' : β → Option γ) : ob (ob x k) k' = ob x fun a => ob (k a) k' := by cases x <;> rfl
theorem Z3c {α β : Type} (a : α) (k : α → Option β) : ob (some a) k = k a := rfl
theorem ZkD {α β : Type} (k : α → Option β) : ob (none : Option α) k = none := rfl
theorem ZCE {α β : Type} (c : Prop) [Decidable c] (x y : Option α) (k : α → Option β) : ob (if c then x else y) k = if c then ob x k else ob y k := by split <;> rfl
theorem ZIa {α β : Type} (c : Bool) (x y : Option α) (k : α → Option β) : ob (br c x y) k = br c (ob x k) (ob y k) := by cases c <;> rfl
theorem ZHP {α β : Type} (x : AV) (j : Bool → Option α) (k : α → Option β) : ob (asB x j) k = asB x fun b => ob (j b) k := by
 unfold asB hi
 split <;> rfl
theorem ZEp (x : AV) (B : List Row) (j : AV → List Row → Option Res) (k : Res → Option Res) : ob (bx x B j) k = bx x B fun v B => ob (j v B) k := by
 unfold bx; split <;> rfl
theorem ZIb {α : Type} (P : Program) (t : TypeId) (B : List Row) (j : AV → List Row → Option Res) (k : Res → Option Res) : ob (bz P t B j) k = bz P t B fun v B => ob (j v B) k := by
 unfold bz; rw [Z6q]; congr; funext z; exact ZEp z B j k
theorem ZHQ (n : Nat) (a x : AV) (B : List Row) (j : List Row → Option Res) (k : Res → Option Res) : ob (stN n a x B j) k = stN n a x B fun B => ob (j B) k := by
 unfold stN
 split
 ·rw [Z6q]
  congr
  funext row
  simp only
  split <;> rfl
 ·rfl
theorem ZCC {β γ : Type} (x : AV) (j : Int → Option β) (k : β → Option γ) : ob (asK x j) k = asK x fun n => ob (j n) k := by
 unfold asK
 split <;> rfl
theorem Zyw (P : Program) (t : TypeId) (a b x : AV) (B : List Row) (j : List Row → Option Res) (k : Res → Option Res) : ob (xupd P t a b x B j) k = xupd P t a b x B fun B => ob (j B) k := by
 unfold xupd
 rw [Z6q]; congr; funext e
 rw [Z6q]; congr; funext q
 rw [ZCC]; congr; funext n
 rw [Z6q]; congr; funext y
 split <;> rfl
theorem ZGa (P : Program) (t : TypeId) (a b : AV) (B : List Row) (j : List Row → Option Res) (k : Res → Option Res) : ob (xdel P t a b B j) k = xdel P t a b B fun B => ob (j B) k := by
 unfold xdel
 rw [Z6q]; congr; funext e
 rw [Z6q]; congr; funext q
 rw [ZCC]
theorem ZDU (P : Program) (t : TypeId) (B : List Row) (j : AV → List Row → Option Res) (k : Res → Option Res) : ob (xmake P t B j) k = xmake P t B fun v B => ob (j v B) k := by
 unfold xmake
 rw [Z6q]
theorem ZDT (x : AV) (B : List Row) (j : AV → List Row → Option Res) (k : Res → Option Res) : ob (ldOwn x B j) k = ldOwn x B fun v B => ob (j v B) k := by
 unfold ldOwn
 split
 ·rw [Z6q]; congr; funext row; rw [ZCE, Z6q]; rfl
 ·rfl
theorem Zre (raw : Bool) (g : FuncId) (args : List AV) (B : List Row) (j : AV → List Row → Option Res) (k : Res → Option Res) : ob (callS raw G g args B j) k = callS raw G g args B fun v B => ob (j v B) k := by
 unfold callS
 simp only
 split
 ·rfl
 ·rw [Z6q]; congr; funext r; split <;> rfl
theorem ZCD {α β : Type} (c : Bool) (x : Option α) (k : α → Option β) : ob (grd c x) k = grd c (ob x k) := by unfold grd hi; cases c <;> rfl
theorem ZDR (near raw : Bool) (g : FuncId) (args : List AV) (B : List Row) (j : AV → List Row → Option Res) (k : Res → Option Res) : ob (callQ near raw G g args B j) k = callQ near raw G g args B fun v B => ob (j v B) k := by
 cases near with
 | false => exact Zre G _ _ _ _ _ _
 | true =>
  show ob (Zkq raw G g args B j) k = Zkq raw G g args B fun v B => ob (j v B) k
  unfold Zkq
  rw [ZCD, Zre]
  congr
  funext v B'
  rw [ZCD]
theorem ZDS (x : AV) (args : List AV) (B : List Row) (j : AV → List Row → Option Res) (k : Res → Option Res) : ob (callV H G x args B j) k = callV H G x args B fun v B => ob (j v B) k := by
 unfold callV
 split
 ·split
  ·rfl
  ·exact Zre G _ _ _ _ _ _
 ·rfl
theorem Zsz (o : Oper) (sl : Sl) (B : List Row) (K : AV → Sl → List Row → Option Res) :
  stepOp P H f G o sl B K = ob (Fop P H f G o sl B) fun q => K q.1 (weakL sl (wk H f o)) q.2 := by
 unfold Fop stepOp wk
 rcases o with ⟨dst, op, ty, pos, after, guard⟩
 cases op with
 | makeFunc fn a b => cases fn <;> rfl
 | binOp op t x y yt =>
  cases y with
  | const c => simp only; split <;> simp only [Z6q, Z3c, weakL]
  | _ => simp only [Z6q, Z3c, weakL]
 | call c =>
  rcases c with ⟨cal, args, ats⟩
  cases cal with
  | builtin b =>
   cases b with
   | len =>
    simp only
    split
    ·split <;> simp only [Z6q, Z3c, weakL]
    ·rfl
   | delete =>
    simp only
    split
    ·simp only [ZGa, Z3c, weakL]
    ·rfl
   | append =>
    simp only
    split
    ·rename_i h1 h2
     simp only [h1]
     split <;> simp only [Z6q, Z3c, ZkD, weakL]
    ·rfl
   | max => simp only [Z6q, Z3c, weakL]
   | min => simp only [Z6q, Z3c, weakL]
   | _ => rfl
  | value x =>
   cases x with
   | func g =>
    simp only
    split
    ·rfl
    ·rw [ZDR]
     simp only [Z3c]
     split <;> rfl
   | _ =>
    simp only
    rw [ZDS]
    rfl
  | invoke r m => rfl
 | makeMap t r =>
  cases r with
  | none => simp only [ZDU, Z3c, weakL]
  | some r => rfl
 | mapUpdate t m k x => simp only [Zyw, Z3c, weakL]
 | insert t m k x => simp only [Zyw, Z3c, weakL]
 | move x => simp only; split <;> rfl
 | assign x => simp only; split <;> rfl
 | extract x i =>
  simp only [Z6q]
  congr
  funext v
  split <;> rfl
 | load t a =>
  simp only
  split
  ·simp only [Z6q, ZCE, ZkD, ZDT, Z3c, weakL]
  ·simp only [Z6q, Z3c, weakL]
 | pick c a b => simp only [ZHP, ZIa, Z3c, weakL]
 | store t a x => simp only [Z6q, ZHQ, Z3c, weakL]
 | box t x => simp only [ZEp, Z3c, weakL]
 | convert s d x => simp only; generalize Nat.beq s d = q; cases q <;> simp only [Z6q, Z3c, weakL]
 | alloc t => simp only [ZIb (α := Unit), Z3c, weakL]
 | slice t x lo hi mx => simp only; repeat' split <;> simp only [Z6q, Z3c, ZkD, weakL]
 | field s x fd => simp only; split <;> simp only [Z6q, Z3c, ZkD, weakL]
 | indexAddr t x i => simp only; repeat' split <;> simp only [Z6q, Z3c, ZkD, weakL]
 | _ => first | rfl | simp only [Z6q, Z3c, weakL]
def Eqv (sl sl' : Sl) : Prop := ∀ t, get sl t = get sl' t
theorem Eqv.refl (sl : Sl) : Eqv sl sl := fun _ => rfl
theorem Eqv.symm {sl sl' : Sl} (h : Eqv sl sl') : Eqv sl' sl := fun t => (h t).symm
theorem Eqv.trans {sl sl' sl2 : Sl} (h : Eqv sl sl') (k : Eqv sl' sl2) : Eqv sl sl2 := fun t => (h t).trans (k t)
theorem Eqv.ev {sl sl' : Sl} (h : Eqv sl sl') (x : Operand) : ev sl x = ev sl' x := by
 cases x with
 | tmp t => exact h t
 | const v =>
  cases v with
  | slice a n m => cases a with
   | none => cases n <;> cases m <;> rfl
   | some _ => rfl
  | _ => rfl
 | global g => rfl
 | func g => rfl
theorem Eqv.put {sl sl' : Sl} (h : Eqv sl sl') (d : Option Tmp) (v : AV) : Eqv (Go.Abs.put sl d v) (Go.Abs.put sl' d v) := by
 intro t
 cases d with
 | none => exact h t
 | some d => show get ((d, v) :: sl) t = get ((d, v) :: sl') t; rw [Z2L, Z2L, h t]
theorem Eqv.weak {sl sl' : Sl} (h : Eqv sl sl') (x : Operand) : Eqv (Go.Abs.weak sl x) (Go.Abs.weak sl' x) := by
 intro t
 cases x with
 | tmp u => show get ((u, shr (get sl u)) :: sl) t = get ((u, shr (get sl' u)) :: sl') t; rw [Z2L, Z2L, h t, h u]
 | _ => exact h t
theorem Eqv.weakL : ∀ (l : List Operand) {sl sl' : Sl}, Eqv sl sl' → Eqv (Go.Abs.weakL sl l) (Go.Abs.weakL sl' l)
 | [], _, _, h => h
 | x :: r, _, _, h => Eqv.weakL r (h.weak x)
theorem Zxf {x y : AV} (h : x = y) {a b : List AV} (h' : a = b) {G : GF} {B : List Row} {k : AV → List Row → Option Res} : callV H G x a B k = callV H G y b B k := by rw [h, h']
theorem Zf5 (o : Oper) (sl sl' : Sl) (B : List Row) (h : ∀ y, y ∈ o.op.operands → ev sl y = ev sl' y) : Fop P H f G o sl B = Fop P H f G o sl' B := by
 have evsE : ∀ (xs : Array Operand), (∀ y, y ∈ xs → ev sl y = ev sl' y) → evs sl xs = evs sl' xs := by
  intro xs hx
  unfold evs
  exact List.map_congr_left fun y hy => hx y (by simpa using hy)
 have evpE : ∀ (ps : Array (Nat × Operand)), (∀ y, y ∈ (ps.toList.map (·.2)).toArray → ev sl y = ev sl' y) → (ps.toList.map fun q => (q.1, ev sl q.2)) = ps.toList.map fun q => (q.1, ev sl' q.2) := by
  intro ps hx
  refine List.map_congr_left fun q hq => ?_
  rw [hx q.2 (by simp only [List.mem_toArray]; exact List.mem_map.2 ⟨q, hq, rfl⟩)]
 have evoE : ∀ (x : Option Operand), (∀ y, y ∈ x.toArray → ev sl y = ev sl' y) → evo sl x = evo sl' x := by
  intro x hx
  cases x with
  | none => rfl
  | some y => show some _ = some _; rw [hx y (by simp)]
 rcases o with ⟨dst, op, ty, pos, after, guard⟩
 unfold Fop stepOp
 cases op <;> simp only [Op.operands] at h <;> simp only []
 case move x => rw [h x (by simp)]
 case assign x => rw [h x (by simp)]
 case pick c a b => rw [h c (by simp), h a (by simp), h b (by simp)]
 case box t x => rw [h x (by simp)]
 case build t ps => rw [evpE ps h]
 case buildSlice t n ps => rw [evpE ps h]
 case load t x => rw [h x (by simp)]
 case store t x y => rw [h x (by simp), h y (by simp)]
 case nilCheck x => rw [h x (by simp)]
 case binOp op t x y yt => rw [h x (by simp), h y (by simp)]
 case unOp op t x => rw [h x (by simp)]
 case convert s d x => rw [h x (by simp)]
 case makeFunc fn a b =>
  cases fn with
  | func g => simp only; rw [evsE a fun y hy => h y (by simp [hy]), evsE b fun y hy => h y (by simp [hy])]
  | _ => rfl
 case slice t x lo hi mx =>
  rw [h x (by simp), evoE lo fun y hy => h y (by simp at hy; simp [hy]), evoE hi fun y hy => h y (by simp at hy; simp [hy]), evoE mx fun y hy => h y (by simp at hy; simp [hy])]
 case fieldAddr s x fd => rw [h x (by simp)]
 case field s x fd => rw [h x (by simp)]
 case indexAddr t x i => rw [h x (by simp), h i (by simp)]
 case extract x i => rw [h x (by simp)]
 case index t x i => rw [h x (by simp), h i (by simp)]
 case makeMap t r => cases r <;> rfl
 case lookup t x i c => rw [h x (by simp), h i (by simp)]
 case mapUpdate t m k x => rw [h m (by simp), h k (by simp), h x (by simp)]
 case insert t m k x => rw [h m (by simp), h k (by simp), h x (by simp)]
 case call c =>
  rcases c with ⟨cal, args, ats⟩
  simp only [Call.operands] at h
  have hargs : evs sl args = evs sl' args := evsE args fun y hy => h y (by simp [hy])
  cases cal with
  | builtin b =>
   cases b with
   | len =>
    simp only
    split
    ·rename_i x t h1 h2
     have hx : x ∈ args := by rw [Zdx h1]; simp
     rw [h x (by simp [hx])]
    ·rfl
   | append =>
    simp only
    split
    ·rename_i x y t t' h1 h2
     have hx : x ∈ args := by rw [Zdy h1]; simp
     have hy : y ∈ args := by rw [Zdy h1]; simp
     rw [h x (by simp [hx]), h y (by simp [hy])]
    ·rfl
   | delete =>
    simp only
    split
    ·rename_i x y t t' h1 h2
     have hx : x ∈ args := by rw [Zdy h1]; simp
     have hy : y ∈ args := by rw [Zdy h1]; simp
     rw [h x (by simp [hx]), h y (by simp [hy])]
    ·rfl
   | max => simp only; rw [hargs]
   | min => simp only; rw [hargs]
   | _ => rfl
  | value x =>
   cases x with
   | func g => simp only; rw [hargs]
   | _ =>
    simp only
    exact Zxf H (h _ (by simp)) hargs
  | invoke r m => rfl
def want (ops : Array Oper) (o : Oper) (sl : Sl) : Option Bool :=
 match o.guard with
 | none => some true
 | some (j, w) =>
  match (ops[j]?).bind (·.dst) with
  | none => none
  | some d =>
   match get sl d with
   | .p (.v (.bool b)) => some (b == w)
   | .p (.tup []) => some false
   | _ => none
def Tr (ops : Array Oper) (o : Oper) (sl : Sl) (B : List Row) (sl' : Sl) (B' : List Row) : Prop :=
 (want ops o sl = some true ∧ ∃ v, Fop P H f G o sl B = some (v, B') ∧ Eqv sl' (put (weakL sl (wk H f o)) o.dst v)) ∨ (want ops o sl = some false ∧ B' = B ∧ Eqv sl' (put sl o.dst ud))
variable {P H f G}
theorem Tr.congr {ops : Array Oper} {o : Oper} {sl sl' sl2 : Sl} {B B' : List Row} (h : Tr P H f G ops o sl B sl' B') (he : Eqv sl2 sl) : Tr P H f G ops o sl2 B sl' B' := by
 have hw : want ops o sl2 = want ops o sl := by
  unfold want
  split
  ·rfl
  ·split
   ·rfl
   ·rw [he]
 rcases h with ⟨h1, v, h2, h3⟩ | ⟨h1, h2, h3⟩
 ·exact .inl ⟨by rw [hw]; exact h1, v, by rw [Zf5 P H f G o sl2 sl B fun y _ => he.ev y]; exact h2, h3.trans (Eqv.put (Eqv.weakL _ he.symm) _ _)⟩
 ·exact .inr ⟨by rw [hw]; exact h1, h2, h3.trans (he.symm.put _ _)⟩
theorem ZkB {sl : Sl} {d : Nat} {b : Bool} (h : get sl d = .p (.v (.bool b))) : Eqv ((d, .p (.v (.bool b))) :: sl) sl := by
 intro t
 rw [Z2L]
 split
 ·rename_i e; subst e; exact h.symm
 ·rfl
theorem Zy0 {ops : Array Oper} {o : Oper} {os : List Oper} {K : Sl → List Row → Option Res} {i : Nat} {sk : List Nat} {sl : Sl} {B : List Row} {r : Res} (h : runOps P H f G ops (o :: os) K i sk sl B = some r) :
  ∃ i' sk' sl' B', Tr P H f G ops o sl B sl' B' ∧ runOps P H f G ops os K i' sk' sl' B' = some r := by
 change guarded ops sk o.guard sl (fun sl => stepOp P H f G o sl B fun v sl B => runOps P H f G ops os K (i + 1) sk (put sl o.dst v) B) (fun sl => runOps P H f G ops os K (i + 1) (i :: sk) (put sl o.dst ud) B) = some r at h
 have yes : ∀ sl0, Eqv sl0 sl → want ops o sl = some true → stepOp P H f G o sl0 B (fun v sl B => runOps P H f G ops os K (i + 1) sk (put sl o.dst v) B) = some r →
   ∃ i' sk' sl' B', Tr P H f G ops o sl B sl' B' ∧ runOps P H f G ops os K i' sk' sl' B' = some r := by
  intro sl0 he hw hs
  rw [Zsz] at hs
  obtain ⟨q, hq, hk⟩ := Z1t hs
  refine ⟨_, _, _, _, .inl ⟨hw, q.1, ?_, ?_⟩, hk⟩
  ·rw [← Zf5 P H f G o sl0 sl B fun y _ => he.ev y]
   exact hq
  ·exact Eqv.put (Eqv.weakL _ he) _ _
 have no : ∀ sl0, Eqv sl0 sl → want ops o sl = some false → runOps P H f G ops os K (i + 1) (i :: sk) (put sl0 o.dst ud) B = some r →
   ∃ i' sk' sl' B', Tr P H f G ops o sl B sl' B' ∧ runOps P H f G ops os K i' sk' sl' B' = some r := by
  intro sl0 he hw hs
  exact ⟨_, _, _, _, .inr ⟨hw, rfl, he.put _ _⟩, hs⟩
 unfold guarded at h
 split at h
 ·rename_i hg
  exact yes sl (.refl _) (by unfold want; rw [hg]) h
 ·rename_i j w hg
  split at h
  ·simp at h
  ·rename_i d hd
   split at h
   ·unfold udK at h
    split at h
    ·rename_i hu
     have hw : want ops o sl = some false := by
      unfold want
      simp only [hg, hd, hu]
     exact no sl (.refl _) hw h
    ·simp at h
   ·obtain ⟨b, hb, h⟩ := Zqz h
    have hw : want ops o sl = some (b == w) := by
     unfold want
     simp only [hg, hd, hb]
    unfold br hi at h
    split at h
    ·rename_i hbt
     have hbt : b = true := hbt
     subst hbt
     cases w with
     | true => exact yes _ (ZkB hb) hw h
     | false => exact no _ (ZkB hb) hw h
    ·rename_i hbf
     have hbf : b = false := by simpa using hbf
     subst hbf
     cases w with
     | true => exact no _ (ZkB hb) hw h
     | false => exact yes _ (ZkB hb) hw h
end
end Go.Abs
end
section
set_option linter.unusedSimpArgs false
set_option linter.unusedVariables false
namespace Go.Abs
open Go
structure Base where
 nt : Nat
 m0 : Nat
 n : Nat
 w : World
 S : Stay
 β : Nat → Nat
 U : Nat → Prop
def At (b : Base) (sl : Sl) (B : List Row) (a : Act) (w : World) : Prop :=
 ∃ S β, Good b.nt w S β sl B a ∧ Step b.m0 b.w b.S b.β b.n b.U w S β B.length (UB (Here b.nt sl a.tmps B β w))
theorem Step.less {m0 : Nat} {w : World} {S : Stay} {β : Nat → Nat} {n : Nat} {U : Nat → Prop} {w' : World} {S' : Stay} {β' : Nat → Nat} {n' : Nat} {U' U2 : Nat → Prop} (h : Step m0 w S β n U w' S' β' n' U')
  (hU : ∀ b, U2 b → U' b) : Step m0 w S β n U w' S' β' n' U2 := { h with uns := fun b hb => h.uns b (hU b hb) }
theorem Good.eqv {nt : Nat} {w : World} {S : Stay} {β : Nat → Nat} {sl sl' : Sl} {B : List Row} {a : Act} (h : Good nt w S β sl B a) (e : Eqv sl' sl) : Good nt w S β sl' B a :=
 h.reslot (fun t _ => .inl (e t)) (fun t ht => (e t).trans (h.high t ht))
theorem At.eqv {b : Base} {sl sl' : Sl} {B : List Row} {a : Act} {w : World} (h : At b sl B a w) (e : Eqv sl' sl) : At b sl' B a w := by
 obtain ⟨S, β, h1, h2⟩ := h
 exact ⟨S, β, h1.eqv e, h2.less fun b hb => UB.reslot (fun t _ => .inl (e t)) b hb⟩
section
variable {P : Program} {H : Hints} {f : FuncId} {G : GF} {b : Base} {ops : Array Oper} {sl sl' : Sl} {B B' : List Row} {a : Act} {w : World} {Q : Exit → Act → World → Prop}
theorem ZyI {nt : Nat} {S : Stay} {β : Nat → Nat} {o : Oper} {c : Bool} (h : Good nt w S β sl B a) (hw : want ops o sl = some c) : Region.wanted o (yielded ops a.tmps) = c := by
 unfold want at hw
 unfold Region.wanted
 split at hw
 ·rename_i hg
  simp only [Option.some.injEq] at hw
  rw [hg]
  exact hw
 ·rename_i j k hg
  simp only [hg]
  split at hw
  ·simp at hw
  ·rename_i d hd
   split at hw
   ·rename_i x hx
    simp only [Option.some.injEq] at hw
    have hdn : d < nt := by
     rcases Nat.lt_or_ge d nt with h1 | h1
     ·exact h1
     ·rw [h.high d h1] at hx
      simp [jk] at hx
    have hr := h.slots d hdn
    rw [hx] at hr
    have hv := Z5h hr
    have hds : d < a.tmps.size := by rw [h.size]; exact hdn
    have hget : a.tmps[d]? = some (.bool x) := by
     rw [← hv]
     simp [hds]
    unfold yielded
    rw [hd]
    simp only [Option.bind_some, hget]
    rw [← hw]
    cases x <;> cases k <;> rfl
   ·rename_i hx
    simp only [Option.some.injEq] at hw
    have hdn : d < nt := by
     rcases Nat.lt_or_ge d nt with h1 | h1
     ·exact h1
     ·rw [h.high d h1] at hx
      simp [jk] at hx
    have hr := h.slots d hdn
    rw [hx] at hr
    have hv : a.tmps.getD d undef = .tuple #[] := by
     generalize a.tmps.getD d undef = u at hr
     cases hr with
     | p _ _ hp =>
      cases hp with
      | tup _ arr h1 _ _ =>
       congr 1
       exact Array.size_eq_zero_iff.1 (by simpa using h1)
    have hds : d < a.tmps.size := by rw [h.size]; exact hdn
    have hget : a.tmps[d]? = some (.tuple #[]) := by
     rw [← hv]
     simp [hds]
    unfold yielded
    rw [hd]
    simp only [Option.bind_some, hget]
    rw [← hw]
    cases k <;> rfl
   ·simp at hw
theorem Zx5 {I : Inv} (hp : Pers I) (hI : I b.w b.S) (hF : Zaa P I G) {o : Oper} (hd : ∀ t, o.dst = some t → t < b.nt) (ht : Tr P H f G ops o sl B sl' B') (h : At b sl B a w) :
  if Region.wanted o (yielded ops a.tmps) = true then o.wp P a w (At b sl' B') Q else At b sl' B' (a.put o.dst undef) w := by
 obtain ⟨S, β, hg, hst⟩ := h
 rcases ht with ⟨h1, v, h2, h3⟩ | ⟨h1, rfl, h3⟩
 ·rw [if_pos (ZyI hg h1)]
  have hk : stepOp P H f G o sl B (fun v sl2 B2 => open Classical in if Eqv sl' (put sl2 o.dst v) ∧ B2 = B' then some (jk, []) else none) = some (jk, []) := by
   rw [Zsz, h2]
   exact if_pos ⟨h3, rfl⟩
  refine Oper.wp_mono ?_ (ZAT (m0 := b.m0) (Q := Q) hg hd (hp _ _ _ _ hst.keeps hI) hF hk)
  rintro a' w' ⟨x, sl2, B2, S', β', q1, q2, q3⟩
  simp only at q1
  split at q1
  ·rename_i hc
   obtain ⟨e, rfl⟩ := hc
   exact ⟨S', β', q2.eqv e, hst.trans (q3.less fun b hb => UB.reslot (fun t _ => .inl (e t)) b hb)⟩
  ·simp at q1
 ·rw [if_neg (by rw [ZyI hg h1]; simp)]
  have hud : ARel w S β B'.length ud undef := .p _ _ (.tup [] #[] rfl (by simp) (by simp))
  refine ⟨S, β, (hg.put hd hud rfl).eqv h3, hst.less fun b hb => ?_⟩
  exact UB.put hg.size hd (x := ud) rfl b (UB.reslot (fun t _ => .inl (h3 t)) b hb)
def Run (P : Program) (H : Hints) (f : FuncId) (G : GF) (ops : Array Oper) : List Nat → Sl → List Row → Sl → List Row → Prop
 | [], sl, B, sl', B' => Eqv sl' sl ∧ B' = B
 | i :: l, sl, B, sl', B' => ∃ o sl1 B1, ops[i]? = some o ∧ Tr P H f G ops o sl B sl1 B1 ∧ Run P H f G ops l sl1 B1 sl' B'
theorem Run.congr {l : List Nat} {sl2 : Sl} (h : Run P H f G ops l sl B sl' B') (e : Eqv sl2 sl) : Run P H f G ops l sl2 B sl' B' := by
 cases l with
 | nil => exact ⟨h.1.trans e.symm, h.2⟩
 | cons i l =>
  obtain ⟨o, sl1, B1, q1, q2, q3⟩ := h
  exact ⟨o, sl1, B1, q1, q2.congr e, q3⟩
theorem Zih {K : Sl → List Row → Option Res} {r : Res} : ∀ (os : List Oper) (k i : Nat) (sk : List Nat) (sl : Sl) (B : List Row), (∀ j, j < os.length → os[j]? = ops[k + j]?) → runOps P H f G ops os K i sk sl B = some r →
  ∃ slF BF, Run P H f G ops (List.range' k os.length) sl B slF BF ∧ K slF BF = some r
 | [], k, i, sk, sl, B, _, h => ⟨sl, B, ⟨.refl _, rfl⟩, h⟩
 | o :: os, k, i, sk, sl, B, hl, h => by
  obtain ⟨i', sk', sl1, B1, ht, h1⟩ := Zy0 h
  obtain ⟨slF, BF, h2, h3⟩ := Zih os (k + 1) i' sk' sl1 B1 (fun j hj => by
   have := hl (j + 1) (by simpa using hj)
   rw [List.getElem?_cons_succ] at this
   rw [this]
   congr 1
   omega) h1
  refine ⟨slF, BF, ?_, h3⟩
  have h0 := hl 0 (by simp)
  exact ⟨o, sl1, B1, by simpa using h0.symm, ht, h2⟩
theorem Zpd {I : Inv} (hp : Pers I) (hI : I b.w b.S) (hF : Zaa P I G) (hd : ∀ (i : Nat) (o : Oper) (t : Tmp), ops[i]? = some o → o.dst = some t → t < b.nt) {slF : Sl} {BF : List Row} : ∀ (l : List Nat) (sl : Sl) (B : List Row) (a : Act) (w : World),
  Run P H f G ops l sl B slF BF → At b sl B a w → (∀ a w, At b slF BF a w → Q .normal a w) → wpOps P ops Q l a w
 | [], sl, B, a, w, hr, h, hQ => by
  obtain ⟨e, rfl⟩ := hr
  exact hQ a w (h.eqv e)
 | i :: l, sl, B, a, w, hr, h, hQ => by
  obtain ⟨o, sl1, B1, q1, q2, q3⟩ := hr
  have := Zx5 (Q := Q) hp hI hF (fun t ht => hd i o t q1 ht) q2 h
  simp only [wpOps, q1]
  split at this
  ·rename_i hw
   rw [if_pos hw]
   exact .inl (Oper.wp_mono (fun a w ha => Zpd hp hI hF hd l sl1 B1 a w q3 ha hQ) this)
  ·rename_i hw
   rw [if_neg hw]
   exact Zpd hp hI hF hd l sl1 B1 _ w q3 this hQ
theorem ZwQ {I : Inv} (hp : Pers I) (hI : I b.w b.S) (hF : Zaa P I G) (hd : ∀ (i : Nat) (o : Oper) (t : Tmp), ops[i]? = some o → o.dst = some t → t < b.nt) {id : Nat} {K : Sl → List Row → Option Res} {r : Res} (hk : runOps P H f G ops ops.toList K 0 [] sl B = some r)
  (h : At b sl B a w) (hQ : ∀ sl B a w, K sl B = some r → At b sl B a w → Q .normal a w) : (Code.region id ops false).wp P Q a w := by
 obtain ⟨slF, BF, h1, h2⟩ := Zih ops.toList 0 0 [] sl B (fun j _ => by simp) hk
 refine wp_region ?_
 rw [List.range_eq_range']
 exact Zpd hp hI hF hd _ sl B a w h1 h fun a w ha => hQ slF BF a w h2 ha
end
end Go.Abs
end
section
set_option linter.unusedSimpArgs false
set_option linter.unusedVariables false
namespace Go.Abs
open Go
section
variable {P : Program} {H : Hints} {f : FuncId} {G : GF} {o : Oper} {sl : Sl} {B : List Row}
def Free (P : Program) (H : Hints) (f : FuncId) (G : GF) (o : Oper) (sl : Sl) : Prop := ∃ x : Option AV, ∀ B, Fop P H f G o sl B = x.map fun v => (v, B)
def Za5 (P : Program) (H : Hints) (f : FuncId) (G : GF) (o : Oper) (sl : Sl) (id : Nat) (rd : Bool) : Prop :=
 ∃ φ : Row → Option (AV × Row), (∀ B, Fop P H f G o sl B = B[id]?.bind fun row => (φ row).map fun q => (q.1, B.set id q.2)) ∧ (rd = true → ∀ row q, φ row = some q → q.2 = row)
def News (P : Program) (H : Hints) (f : FuncId) (G : GF) (o : Oper) (sl : Sl) : Prop := ∃ x : Option Row, ∀ B, Fop P H f G o sl B = x.map fun row => (.ptr B.length 0, B ++ [row])
theorem Z5d {α : Type} (y : Option α) (g : α → AV) {F : List Row → Option Res} (h : ∀ B, F B = ob y fun a => some (g a, B)) : ∃ x : Option AV, ∀ B, F B = x.map fun v => (v, B) := by
 refine ⟨y.map g, fun B => ?_⟩
 rw [h]
 cases y <;> rfl
theorem Z4D {F : List Row → Option Res} (h : ∀ B, F B = none) : ∃ x : Option AV, ∀ B, F B = x.map fun v => (v, B) := ⟨none, fun B => by rw [h]; rfl⟩
theorem Zhz (v : AV) {F : List Row → Option Res} (h : ∀ B, F B = some (v, B)) : ∃ x : Option AV, ∀ B, F B = x.map fun v => (v, B) := ⟨some v, fun B => by rw [h]; rfl⟩
theorem ZDg (h : cls P H f o = .free) : Free P H f G o sl := by
 rcases o with ⟨dst, op, ty, pos, after, guard⟩
 unfold cls at h
 unfold Free Fop stepOp
 cases op <;> simp only at h ⊢
 case move x => split <;> exact Zhz _ fun _ => rfl
 case assign x => split <;> exact Zhz _ fun _ => rfl
 case pick c a b =>
  unfold asB hi
  split
  ·rename_i t _
   cases t
   ·exact Zhz _ fun _ => rfl
   ·exact Zhz _ fun _ => rfl
  ·exact Z4D fun _ => rfl
 case alloc t => exact absurd h (by simp)
 case box t x => exact absurd h (by simp)
 case build t ps => exact Z5d _ (fun v => v) fun _ => rfl
 case buildSlice t n ps => exact Z5d _ (fun v => if Zex H f dst then unOf v else v) fun _ => rfl
 case load t a => split at h <;> simp at h
 case store t a x => exact absurd h (by simp)
 case nilCheck x => exact Z5d _ (fun v => v) fun _ => rfl
 case binOp op t x y yt =>
  cases y with
  | const c => simp only; split <;> exact Z5d _ (fun v => v) fun _ => rfl
  | _ => exact Z5d _ (fun v => v) fun _ => rfl
 case unOp op t x => exact Z5d _ (fun v => v) fun _ => rfl
 case convert s d x => split <;> exact Z5d _ (fun v => v) fun _ => rfl
 case makeFunc fn a b =>
  cases fn with
  | func g => exact Zhz _ fun _ => rfl
  | _ => exact Z4D fun _ => rfl
 case slice t x lo hi mx =>
  split
  ·split
   ·exact Z4D fun _ => rfl
   ·exact Z5d _ (fun v => v) fun _ => rfl
  ·split
   ·exact Z4D fun _ => rfl
   ·exact Z5d _ (fun v => v) fun _ => rfl
 case fieldAddr s x fd =>
  cases ZmT P s fd with
  | none => exact Z4D fun _ => rfl
  | some off => exact Z5d (xfld off (ev sl x)) (fun v => v) fun _ => rfl
 case field s x fd =>
  split
  ·rename_i fields _
   cases fields[fd]? with
   | none => exact Z4D fun _ => rfl
   | some fl =>
    cases hs : shape P fl.type with
    | none => exact Z4D fun _ => by simp only [Z3c, hs, ZkD]
    | some q => exact Z5d (ZkN q.1 fl.offset q.2 (ev sl x)) (fun v => v) fun _ => by simp only [Z3c, hs]
  ·exact Z4D fun _ => rfl
 case indexAddr t x i =>
  split
  ·split
   ·exact Z5d _ (fun v => v) fun _ => rfl
   ·exact Z4D fun _ => rfl
  ·exact Z5d _ (fun v => v) fun _ => rfl
 case extract x i =>
  split
  ·exact Z5d _ (fun v => v) fun _ => rfl
  ·exact Z5d _ shr fun _ => rfl
 case call c =>
  rcases c with ⟨cal, args, ats⟩
  cases cal with
  | builtin b =>
   cases b with
   | len =>
    simp only at h ⊢
    split
    ·rename_i x t h1 h2
     have hm : mapE P t = none := by
      have e : ats = #[t] := Zdx h2
      subst e
      cases hm : mapE P t with
      | none => rfl
      | some e => simp [hm] at h
     simp only [hm]
     exact Z5d _ (fun v => v) fun _ => rfl
    ·exact Z4D fun _ => rfl
   | delete => simp at h
   | append =>
    simp only
    split
    ·split
     ·exact Z4D fun _ => rfl
     ·exact Z5d _ (fun v => v) fun _ => rfl
    ·exact Z4D fun _ => rfl
   | max => exact Z5d _ (fun v => v) fun _ => rfl
   | min => exact Z5d _ (fun v => v) fun _ => rfl
   | _ => exact Z4D fun _ => rfl
  | value x =>
   cases x with
   | func g =>
    simp only at h
    split at h
    ·simp at h
    ·split at h <;> simp at h
   | _ => simp at h
  | invoke r m => simp at h
 case index t x i => exact Z5d _ (fun v => v) fun _ => rfl
 case makeMap t r => simp at h
 case lookup t x i c => simp at h
 case mapUpdate t m k x => simp at h
 case insert t m k x => simp at h
 all_goals exact Z4D fun _ => rfl
theorem ZEv (h : cls P H f o = .new) : News P H f G o sl := by
 have key : ∀ z : AV, ∃ x : Option Row, ∀ B, bx z B (fun v B => some (v, B)) = x.map fun row => (AV.ptr B.length 0, B ++ [row]) := by
  intro z
  unfold bx
  split
  ·exact ⟨none, fun _ => rfl⟩
  ·exact ⟨some (Z4A z), fun _ => rfl⟩
 rcases o with ⟨dst, op, ty, pos, after, guard⟩
 unfold cls at h
 unfold News Fop stepOp
 cases op <;> simp only at h ⊢
 case alloc t =>
  unfold bz
  cases zeroOf P t with
  | none => exact ⟨none, fun _ => rfl⟩
  | some z => exact key z
 case box t x => exact key (ev sl x)
 case load t a => split at h <;> simp at h
 case call c =>
  rcases c with ⟨cal, args, ats⟩
  cases cal with
  | builtin b => cases b <;> simp only at h <;> first | (split at h <;> simp at h; done) | simp at h
  | value x =>
   cases x with
   | func g =>
    simp only at h
    split at h
    ·simp at h
    ·split at h <;> simp at h
   | _ => simp at h
  | _ => simp at h
 all_goals exact absurd h (by simp)
theorem ZsH (h : cls P H f o = .rd ∨ cls P H f o = .wr ∨ cls P H f o = .ol) : ∃ a, addrOf o = some a ∧
  match ev sl a with
  | .ptr id _ => Za5 P H f G o sl id (cls P H f o == .rd)
  | .cptr _ => Free P H f G o sl
  | _ => ∀ B, Fop P H f G o sl B = none := by
 rcases o with ⟨dst, op, ty, pos, after, guard⟩
 unfold cls at h ⊢
 unfold addrOf
 cases op <;> simp only at h ⊢
 case load t a =>
  refine ⟨a, rfl, ?_⟩
  unfold Za5 Free Fop stepOp
  simp only
  cases hs : shape P t with
  | none =>
   split
   ·rename_i id off heq
    refine ⟨fun _ => none, fun B => ?_, fun _ row q hq => by simp at hq⟩
    split <;> (simp only [ZkD]; cases B[id]? <;> rfl)
   ·split <;> exact Z4D fun _ => rfl
   ·intro B; split <;> rfl
  | some s =>
   split
   ·rename_i id off heq
    split
    ·refine ⟨fun row => if s.1 = true then none else if (mdOf row).isSome = true then none else row[off]?.map fun c => (c, row.set off (shr c)), fun B => ?_, fun e => by simp at e⟩
     simp only [Z3c, heq, ldOwn]
     by_cases h1 : s.1 = true
     ·simp only [if_pos h1]
      cases B[id]? <;> rfl
     ·simp only [if_neg h1]
      cases B[id]? with
      | none => rfl
      | some row =>
       simp only [Z3c, Option.bind_some]
       split
       ·rfl
       ·cases row[off]? <;> rfl
    ·refine ⟨fun row => (if (mdOf row).isSome = true then none else if s.1 then (if off + s.2 ≤ row.length then some (Zg5 (((row.drop off).take s.2).map shr)) else none) else ob row[off]? fun c => some (shr c)).map fun v => (v, row), fun B => ?_, fun _ row q hq => ?_⟩
     ·simp only [Z3c, heq, ldN]
      cases hB : B[id]? with
      | none => rfl
      | some row =>
       have hset : B.set id row = B := by
        apply List.ext_getElem?
        intro i
        rw [List.getElem?_set]
        split
        ·rename_i e
         subst e
         have := (List.getElem?_eq_some_iff.1 hB).1
         rw [if_pos this, hB]
        ·rfl
       simp only [Z3c, Option.bind_some]
       cases (if (mdOf row).isSome = true then none else if s.1 = true then if off + s.2 ≤ row.length then some (Zg5 (List.map shr (List.take s.2 (List.drop off row)))) else none else ob row[off]? fun c => some (shr c)) with
       | none => rfl
       | some v => simp only [Z3c, Option.map_some, hset]
     ·obtain ⟨v, _, rfl⟩ := Option.map_eq_some_iff.1 hq
      rfl
   ·rename_i cs heq
    split
    ·exact Z4D fun B => by simp only [Z3c, heq, ldOwn]; split <;> rfl
    ·exact Z5d (if s.1 = true then if s.2 ≤ cs.length then some (AV.p (PV.agg (List.take s.2 cs))) else none else ob cs[0]? fun c => some (AV.p c)) (fun v => v) fun B => by simp only [Z3c, heq, ldN]
   ·rename_i hne1 hne2
    intro B
    split
    ·simp only [Z3c]
     split
     ·rfl
     ·unfold ldOwn
      split
      ·rename_i heq; exact absurd heq (hne1 _ _)
      ·rfl
    ·simp only [Z3c]
     unfold ldN
     split
     ·rename_i heq; exact absurd heq (hne1 _ _)
     ·rename_i heq; exact absurd heq (hne2 _)
     ·rfl
 case store t a x =>
  refine ⟨a, rfl, ?_⟩
  unfold Za5 Free Fop stepOp
  simp only
  cases hs : shape P t with
  | none =>
   split
   ·rename_i id off heq
    refine ⟨fun _ => none, fun B => ?_, fun e => by simp at e⟩
    simp only [ZkD]; cases B[id]? <;> rfl
   ·exact Z4D fun _ => rfl
   ·intro B; rfl
  | some s =>
   split
   ·rename_i id off heq
    refine ⟨fun row => if (mdOf row).isNone = true ∧ Z7b (ev sl x) = false ∧ (Z4A (ev sl x)).length = s.2 ∧ off + s.2 ≤ row.length then some (jk, setAt row off (Z4A (ev sl x))) else none, fun B => ?_, fun e => by simp at e⟩
    simp only [Z3c, heq, stN]
    cases B[id]? with
    | none => rfl
    | some row =>
     simp only [Z3c, Option.bind_some]
     split <;> rfl
   ·rename_i cs heq
    exact Z4D fun B => by simp only [Z3c, heq, stN]
   ·rename_i hne1 hne2
    intro B
    simp only [Z3c]
    unfold stN
    split
    ·rename_i heq; exact absurd heq (hne1 _ _)
    ·rfl
 case call c =>
  rcases c with ⟨cal, args, ats⟩
  cases cal with
  | builtin b => cases b <;> simp only at h <;> first | (split at h <;> simp at h; done) | simp at h
  | value x =>
   cases x with
   | func g =>
    simp only at h
    split at h
    ·simp at h
    ·split at h <;> simp at h
   | _ => simp at h
  | _ => simp at h
 all_goals exact absurd h (by simp)
theorem ZwM (x : AV) : ptrs (shr x) = ptrs x := by
 cases x with
 | p x =>
  cases x with
  | lst o xs => cases o <;> simp [shr, ptrs]
  | _ => simp [shr, ptrs]
 | tup vs =>
  simp only [shr, ptrs]
  exact ZkH _ (fun x => by cases x <;> simp [ptrs]) _
 | _ => rfl
theorem ZDi (h : cls P H f o = .pure) : ∃ c, o.op = .call c ∧ ∀ B v B', Fop P H f G o sl B = some (v, B') → Z1w (evs sl c.args) = [] → ptrs v = [] → ∀ B2, Fop P H f G o sl B2 = some (v, B2) := by
 rcases o with ⟨dst, op, ty, pos, after, guard⟩
 unfold cls at h
 cases op <;> simp only at h
 case call c =>
  refine ⟨c, rfl, ?_⟩
  rcases c with ⟨cal, args, ats⟩
  cases cal with
  | builtin b => cases b <;> simp only at h <;> first | (split at h <;> simp at h; done) | simp at h
  | value x =>
   cases x with
   | func g =>
    simp only at h
    split at h
    ·simp at h
    rename_i hnear
    simp only [Bool.not_eq_true] at hnear
    split at h
    ·simp at h
    ·rename_i hr
     simp only [Bool.or_eq_true, not_or, Bool.not_eq_true] at hr
     intro B v B' hf hp hv B2
     unfold Fop stepOp at hf ⊢
     simp only at hf hp ⊢
     rw [hr.2, hnear] at hf ⊢
     simp only [Bool.false_and, Bool.false_eq_true, if_false] at hf ⊢
     unfold callQ callS at hf ⊢
     simp only [hp] at hf ⊢
     have hreach : ∀ B : List Row, Z2c B 64 [] [] = [] := fun B => rfl
     rw [hreach] at hf ⊢
     simp only [List.all_nil, Bool.and_true, Bool.not_true, Bool.false_eq_true, if_false, List.length_nil, List.map_nil, List.take_zero, List.drop_zero] at hf ⊢
     obtain ⟨r', hr', hf⟩ := Z1t hf
     rw [hr', Z3c]
     have hno : ptrs r'.1 = [] := by
      have emp : ∀ (g : Nat → Nat) (x : AV), ptrs (Z2k g x) = [] → ptrs x = [] := by
       intro g x
       induction x using AV.rec (motive_2 := fun l => Z1w (Z1X g l) = [] → Z1w l = []) with
       | p x => intro _; simp [ptrs]
       | ptr id off => intro h; simp [Z2k, ptrs] at h
       | mp id => intro h; simp [Z2k, ptrs] at h
       | md es => intro _; simp [ptrs]
       | cptr cs => intro _; simp [ptrs]
       | clo f a b iha ihb =>
        intro h
        simp only [Z2k, ptrs, List.append_eq_nil_iff] at h ⊢
        exact ⟨iha h.1, ihb h.2⟩
       | agg cs ih => intro h; simp only [Z2k, ptrs] at h ⊢; exact ih h
       | tup vs ih => intro h; simp only [Z2k, ptrs] at h ⊢; exact ih h
       | nil => simp [Z1w]
       | cons x r ihx ihr =>
        rename_i h
        simp only [Z1X, Z1w, List.append_eq_nil_iff] at h ⊢
        exact ⟨ihx h.1, ihr h.2⟩
      split at hf
      ·simp only [Option.some.injEq, Prod.mk.injEq] at hf
       exact emp _ _ (by rw [hf.1]; exact hv)
      ·simp only [Option.some.injEq, Prod.mk.injEq] at hf
       exact emp _ _ (by rw [hf.1]; exact hv)
     simp only [hno, below, List.all_nil, if_true, Z2G, Option.some.injEq, Prod.mk.injEq] at hf ⊢
     simpa using hf.1
   | _ => simp at h
  | _ => simp at h
 case load t a => split at h <;> simp at h
 all_goals exact absurd h (by simp)
theorem Zsu {B : List Row} {n j : Nat} {todo seen : List Nat} (h : Z1w (B.getD j []) = []) : Z2c B (n + 1) (j :: todo) seen = if seen.contains j = true then Z2c B n todo seen else Z2c B n todo (seen ++ [j]) := by
 rw [List.getD_eq_getElem?_getD] at h
 rw [Z2c]
 cases hb : B[j]? with
 | none => simp only [List.append_nil]
 | some row =>
  rw [hb] at h
  have e : Z1w row = [] := h
  simp only [e, List.append_nil]
theorem ZiU {B C : List Row} : ∀ (n : Nat) (todo seen : List Nat), (∀ i, i ∈ todo → B[i]? = C[i]? ∧ Z1w (B.getD i []) = []) →
  Z2c B n todo seen = Z2c C n todo seen ∧ ∀ i, i ∈ Z2c B n todo seen → i ∈ seen ∨ i ∈ todo
 | 0, todo, seen, _ => ⟨by cases todo <;> rfl, fun i h => .inl (by cases todo <;> exact h)⟩
 | n + 1, [], seen, _ => ⟨rfl, fun i h => .inl h⟩
 | n + 1, j :: todo, seen, h => by
  have hj := h j (by simp)
  have ht : ∀ i, i ∈ todo → B[i]? = C[i]? ∧ Z1w (B.getD i []) = [] := fun i hi => h i (by simp [hi])
  have hjC : Z1w (C.getD j []) = [] := by rw [List.getD_eq_getElem?_getD, ← hj.1, ← List.getD_eq_getElem?_getD]; exact hj.2
  rw [Zsu hj.2, Zsu hjC]
  split
  ·obtain ⟨k1, k2⟩ := ZiU n todo seen ht
   exact ⟨k1, fun i hi => (k2 i hi).imp id (fun x => by simp [x])⟩
  ·obtain ⟨k1, k2⟩ := ZiU n todo (seen ++ [j]) ht
   refine ⟨k1, fun i hi => ?_⟩
   rcases k2 i hi with x | x
   ·rcases List.mem_append.1 x with y | y
    ·exact .inl y
    ·exact .inr (by simp at y; simp [y])
   ·exact .inr (by simp [x])
theorem ZD7 {id : Nat} {row : Row} : ∀ (rs : List Nat) (rows B : List Row), id ∉ rs → Z2G (B.set id row) rs rows = (Z2G B rs rows).set id row
 | [], rows, B, _ => by cases rows <;> rfl
 | i :: is, [], B, _ => rfl
 | i :: is, r :: rs, B, h => by
  show Z2G ((B.set id row).set i r) is rs = _
  rw [List.set_comm _ _ (fun e => h (by simp [e])), ZD7 is rs (B.set i r) (fun x => h (by simp [x]))]
  rfl
theorem Zh4 {β : Type} {b : Bool} {x : Option β} {r : β} (h : grd b x = some r) : b = true ∧ x = some r := by
 unfold grd hi at h
 cases b
 ·simp at h
 ·exact ⟨rfl, by simpa using h⟩
theorem Zrz {raw : Bool} {G : GF} {g : FuncId} {args : List AV} {B B' : List Row} {v : AV} (h : Zkq raw G g args B (fun v B => some (v, B)) = some (v, B')) :
  B'.length = B.length ∧ ∀ id, id ∉ Z1w args → B'[id]? = B[id]? ∧ ∀ row, Zkq raw G g args (B.set id row) (fun v B => some (v, B)) = some (v, B'.set id row) := by
 unfold Zkq at h
 obtain ⟨h0, h⟩ := Zh4 h
 have h0' : ∀ i, i ∈ Z1w args → Z1w (B.getD i []) = [] := by
  intro i hi
  have := List.all_eq_true.1 h0 i hi
  simpa using this
 unfold callS at h
 simp only at h
 split at h
 ·simp at h
 rename_i hc
 obtain ⟨r', hr', hk⟩ := Z1t h
 have key : B'.length = B.length ∧ ∃ m, B' = Z2G B (Z2c B 64 (Z1w args) []) m ∧ ∀ C : List Row, C.length = B.length → Z2c C 64 (Z1w args) [] = Z2c B 64 (Z1w args) [] →
   (if (below (Z2c B 64 (Z1w args) []).length (ptrs r'.1) && ((r'.2.take (Z2c B 64 (Z1w args) []).length).all fun row => below (Z2c B 64 (Z1w args) []).length (Z1w row))) = true then
    grd (Nat.beq (Z2G C (Z2c B 64 (Z1w args) []) ((r'.2.take (Z2c B 64 (Z1w args) []).length).map (Z1X fun id => (Z2c B 64 (Z1w args) []).getD id 0))).length C.length)
     (some (Z2k (fun id => (Z2c B 64 (Z1w args) []).getD id 0) r'.1, Z2G C (Z2c B 64 (Z1w args) []) ((r'.2.take (Z2c B 64 (Z1w args) []).length).map (Z1X fun id => (Z2c B 64 (Z1w args) []).getD id 0))))
   else
    grd (Nat.beq (Z2G C (Z2c B 64 (Z1w args) []) ((r'.2.take (Z2c B 64 (Z1w args) []).length).map (Z1X fun id => if id < (Z2c B 64 (Z1w args) []).length then (Z2c B 64 (Z1w args) []).getD id 0 else C.length + (id - (Z2c B 64 (Z1w args) []).length))) ++
       (r'.2.drop (Z2c B 64 (Z1w args) []).length).map (Z1X fun id => if id < (Z2c B 64 (Z1w args) []).length then (Z2c B 64 (Z1w args) []).getD id 0 else C.length + (id - (Z2c B 64 (Z1w args) []).length))).length C.length)
     (some (Z2k (fun id => if id < (Z2c B 64 (Z1w args) []).length then (Z2c B 64 (Z1w args) []).getD id 0 else C.length + (id - (Z2c B 64 (Z1w args) []).length)) r'.1,
      Z2G C (Z2c B 64 (Z1w args) []) ((r'.2.take (Z2c B 64 (Z1w args) []).length).map (Z1X fun id => if id < (Z2c B 64 (Z1w args) []).length then (Z2c B 64 (Z1w args) []).getD id 0 else C.length + (id - (Z2c B 64 (Z1w args) []).length))) ++
       (r'.2.drop (Z2c B 64 (Z1w args) []).length).map (Z1X fun id => if id < (Z2c B 64 (Z1w args) []).length then (Z2c B 64 (Z1w args) []).getD id 0 else C.length + (id - (Z2c B 64 (Z1w args) []).length))))) = some (v, Z2G C (Z2c B 64 (Z1w args) []) m) := by
  split at hk
  ·rename_i hb
   obtain ⟨q1, q2⟩ := Zh4 hk
   simp only [Option.some.injEq, Prod.mk.injEq] at q2
   refine ⟨by rw [← q2.2, Zga], _, q2.2.symm, fun C hC _ => ?_⟩
   rw [if_pos hb, q2.1]
   have : Nat.beq (Z2G C (Z2c B 64 (Z1w args) []) ((r'.2.take (Z2c B 64 (Z1w args) []).length).map (Z1X fun id => (Z2c B 64 (Z1w args) []).getD id 0))).length C.length = true := by
    rw [Zga]
    exact Nat.beq_refl _
   rw [this]
   rfl
  ·rename_i hb
   obtain ⟨q1, q2⟩ := Zh4 hk
   simp only [Option.some.injEq, Prod.mk.injEq] at q2
   have hl := Nat.eq_of_beq_eq_true q1
   rw [List.length_append, Zga] at hl
   have hnil : (r'.2.drop (Z2c B 64 (Z1w args) []).length) = [] := by
    apply List.length_eq_zero_iff.1
    rw [List.length_map] at hl
    omega
   refine ⟨by rw [← q2.2, hnil, List.map_nil, List.append_nil, Zga], _, by rw [← q2.2, hnil, List.map_nil, List.append_nil], fun C hC _ => ?_⟩
   rw [if_neg hb, hC, q2.1, hnil, List.map_nil, List.append_nil]
   have : Nat.beq (Z2G C (Z2c B 64 (Z1w args) []) ((r'.2.take (Z2c B 64 (Z1w args) []).length).map (Z1X fun id => if id < (Z2c B 64 (Z1w args) []).length then (Z2c B 64 (Z1w args) []).getD id 0 else B.length + (id - (Z2c B 64 (Z1w args) []).length)))).length B.length = true := by
    rw [Zga, hC]
    exact Nat.beq_refl _
   rw [this]
   rfl
 obtain ⟨hlen, m, hB', hC⟩ := key
 refine ⟨hlen, fun id hid => ?_⟩
 have hsub : ∀ i, i ∈ Z2c B 64 (Z1w args) [] → i ∈ Z1w args := by
  intro i hi
  rcases (ZiU (B := B) (C := B) 64 (Z1w args) [] fun i hi => ⟨rfl, h0' i hi⟩).2 i hi with x | x
  ·simp at x
  ·exact x
 have hidr : id ∉ Z2c B 64 (Z1w args) [] := fun x => hid (hsub id x)
 refine ⟨by rw [hB', ZsD _ _ _ hidr], fun row => ?_⟩
 have hget : ∀ i, i ∈ Z1w args → B[i]? = (B.set id row)[i]? := by
  intro i hi
  rw [List.getElem?_set, if_neg (by rintro rfl; exact hid hi)]
 have hgetD : ∀ i, i ∈ Z1w args → (B.set id row).getD i [] = B.getD i [] := by
  intro i hi
  rw [List.getD_eq_getElem?_getD, List.getD_eq_getElem?_getD, ← hget i hi]
 have hre := (ZiU (B := B) (C := B.set id row) 64 (Z1w args) [] fun i hi => ⟨hget i hi, h0' i hi⟩).1
 have hcc := hC (B.set id row) (List.length_set ..) hre.symm
 unfold Zkq
 have h0s : ((Z1w args).all fun i => (Z1w ((B.set id row).getD i [])).isEmpty) = true := by
  rw [List.all_eq_true]
  intro i hi
  rw [hgetD i hi, h0' i hi]
  rfl
 have hg1 : ∀ {β : Type} {b : Bool} {x : Option β}, b = true → grd b x = x := fun e => by subst e; rfl
 rw [hg1 h0s]
 unfold callS
 simp only
 rw [← hre]
 have hall : ((Z2c B 64 (Z1w args) []).all fun i => decide (i < (B.set id row).length) && (Z1w ((B.set id row).getD i [])).all (Z2c B 64 (Z1w args) []).contains) = ((Z2c B 64 (Z1w args) []).all fun i => decide (i < B.length) && (Z1w (B.getD i [])).all (Z2c B 64 (Z1w args) []).contains) := by
  rw [Bool.eq_iff_iff, List.all_eq_true, List.all_eq_true]
  refine forall_congr' fun i => forall_congr' fun hi => ?_
  rw [hgetD i (hsub i hi), List.length_set]
 have hmap : ((Z2c B 64 (Z1w args) []).map fun i => Z1X (fun id => (Z2c B 64 (Z1w args) []).idxOf id) ((B.set id row).getD i [])) = (Z2c B 64 (Z1w args) []).map fun i => Z1X (fun id => (Z2c B 64 (Z1w args) []).idxOf id) (B.getD i []) := by
  refine List.map_congr_left fun i hi => ?_
  rw [hgetD i (hsub i hi)]
 rw [hall, if_neg hc, hmap, hr']
 show (if _ then _ else _) = _
 rw [hB', ← ZD7 _ _ _ hidr]
 exact hcc
def Near (P : Program) (H : Hints) (f : FuncId) (G : GF) (o : Oper) (sl : Sl) (ids : List Nat) : Prop :=
 ∀ B v B', Fop P H f G o sl B = some (v, B') → ∀ id, id ∉ ids → B'[id]? = B[id]? ∧ ∀ row, Fop P H f G o sl (B.set id row) = some (v, B'.set id row)
theorem ZDh (h : cls P H f o = .near) : ∃ c, o.op = .call c ∧ Near P H f G o sl (Z1w (evs sl c.args)) := by
 rcases o with ⟨dst, op, ty, pos, after, guard⟩
 unfold cls at h
 cases op <;> simp only at h
 case call c =>
  refine ⟨c, rfl, ?_⟩
  rcases c with ⟨cal, args, ats⟩
  cases cal with
  | builtin b => cases b <;> simp only at h <;> first | (split at h <;> simp at h; done) | simp at h
  | value x =>
   cases x with
   | func g =>
    simp only at h
    split at h
    rotate_left
    ·split at h <;> simp at h
    rename_i hnear
    intro B v B' hf id hid
    unfold Fop stepOp at hf ⊢
    simp only at hf hid ⊢
    rw [hnear] at hf ⊢
    split at hf
    ·simp at hf
    rename_i hd
    refine ⟨((Zrz hf).2 id hid).1, fun row => ?_⟩
    rw [if_neg hd]
    exact ((Zrz hf).2 id hid).2 row
   | _ => simp at h
  | _ => simp at h
 case load t a => split at h <;> simp at h
 all_goals exact absurd h (by simp)
end
end Go.Abs
end
section
set_option linter.unusedSimpArgs false
set_option linter.unusedVariables false
namespace Go.Abs
open Go
def ShEq (x y : AV) : Prop := shr x = shr y
theorem ZyF (x : AV) : shr (shr x) = shr x := by
 have hp : ∀ y, shrP (shrP y) = shrP y := by
  intro y
  cases y with
  | lst o xs => cases o <;> rfl
  | _ => rfl
 cases x with
 | p x =>
  cases x with
  | lst o xs => cases o <;> rfl
  | tup vs => simp [shr, hp]
  | _ => rfl
 | tup vs =>
  simp only [shr, List.map_map]
  congr 1
  apply List.map_congr_left
  intro y _
  cases y with
  | p z => simp [hp]
  | _ => rfl
 | _ => rfl
theorem ShEq.refl (x : AV) : ShEq x x := rfl
theorem ShEq.symm {x y : AV} (h : ShEq x y) : ShEq y x := Eq.symm h
theorem ShEq.trans {x y z : AV} (h : ShEq x y) (k : ShEq y z) : ShEq x z := Eq.trans h k
theorem ShEq.shr (x : AV) : ShEq (Go.Abs.shr x) x := ZyF x
theorem ShEq.ptrs {x y : AV} (h : ShEq x y) : ptrs x = ptrs y := by rw [← ZwM x, ← ZwM y, h]
theorem ZuO (x y : AV) : Zb2 (Go.Abs.shr x) (Go.Abs.shr y) = Zb2 x y := by
 cases x with
 | p x =>
  cases x with
  | lst o xs =>
   cases y with
   | p y => cases y with
    | lst o' ys => cases o <;> cases o' <;> rfl
    | tup vs => cases o <;> cases vs <;> rfl
    | _ => cases o <;> rfl
   | _ => cases o <;> rfl
  | tup us =>
   cases us <;> (cases y with
    | p y => cases y with
     | lst o' ys => cases o' <;> rfl
     | tup vs => cases vs <;> rfl
     | _ => rfl
    | _ => rfl)
  | _ =>
   cases y with
   | p y => cases y with
    | lst o' ys => cases o' <;> rfl
    | tup vs => cases vs <;> rfl
    | _ => rfl
   | _ => rfl
 | _ =>
  cases y with
  | p y => cases y with
   | lst o' ys => cases o' <;> rfl
   | tup vs => cases vs <;> rfl
   | _ => rfl
  | _ => rfl
theorem ZnV {x x' y y' : AV} (h : ShEq x x') (k : ShEq y y') : Zb2 x y = Zb2 x' y' := by
 rw [← ZuO x y, ← ZuO x' y', h, k]
def upd (sl : Sl) (ws : List Operand) (d : Option Tmp) (v : AV) : Sl := put (weakL sl ws) d v
theorem ZoX : ∀ (ws : List Operand) (sl : Sl) (t : Nat), get (weakL sl ws) t = if t ∈ tmpsOf ws then shr (get sl t) else get sl t
 | [], sl, t => by simp [weakL, tmpsOf]
 | x :: r, sl, t => by
  show get (weakL (weak sl x) r) t = _
  rw [ZoX r]
  cases x with
  | tmp u =>
   have hg : get (weak sl (.tmp u)) t = if u = t then shr (get sl u) else get sl t := Z2L u _ sl t
   rw [hg]
   simp only [tmpsOf, List.mem_cons]
   by_cases e : u = t
   ·subst e
    simp only [if_true, true_or]
    split
    ·exact ZyF _
    ·rfl
   ·rw [if_neg e]
    have e' : ¬ t = u := fun h => e h.symm
    simp only [e', false_or]
  | const c => rfl
  | global c => rfl
  | func c => rfl
theorem Zh3 (sl : Sl) (ws : List Operand) (d : Option Tmp) (v : AV) (t : Nat) : get (upd sl ws d v) t = if d = some t then v else if t ∈ tmpsOf ws then shr (get sl t) else get sl t := by
 unfold upd
 cases d with
 | none =>
  have hn : ¬ ((none : Option Tmp) = some t) := by simp
  rw [if_neg hn]
  exact ZoX ws sl t
 | some d =>
  show get ((d, v) :: weakL sl ws) t = _
  rw [Z2L, ZoX]
  by_cases e : d = t
  ·subst e; simp
  ·have hn : ¬ (some d = some t) := by simpa using e
   rw [if_neg e, if_neg hn]
theorem ZEf (sl : Sl) {ws ws' : List Operand} {d d' : Option Tmp} (v v' : AV) (h1 : ∀ t, t ∈ tmpsOf ws ∨ d = some t → ¬ (t ∈ tmpsOf ws' ∨ d' = some t)) :
  Eqv (upd (upd sl ws d v) ws' d' v') (upd (upd sl ws' d' v') ws d v) := by
 intro t
 simp only [Zh3]
 by_cases a : d = some t
 ·have := h1 t (.inr a)
  simp only [not_or] at this
  rw [if_neg this.2, if_neg this.1, if_pos a, if_pos a]
 ·by_cases a' : d' = some t
  ·have h2 : ¬ (t ∈ tmpsOf ws) := fun h => h1 t (.inl h) (.inr a')
   rw [if_pos a', if_neg a, if_neg h2, if_pos a']
  ·simp only [if_neg a, if_neg a']
   by_cases b : t ∈ tmpsOf ws
   ·have := h1 t (.inl b)
    simp only [not_or] at this
    rw [if_neg this.1, if_pos b, if_pos b, if_neg this.1]
   ·simp only [if_neg b]
def Z8P (H : Hints) (f : FuncId) (o : Oper) : List Nat := o.dst.toList ++ tmpsOf (wk H f o)
def Zdw (H : Hints) (f : FuncId) (ops : Array Oper) (x o : Oper) : Bool :=
 (Z8P H f x).all (fun t => !(o.looksAt ops).contains t && !(Z8P H f o).contains t) && (Z8P H f o).all (fun t => !(x.looksAt ops).contains t)
section
variable {P : Program} {H : Hints} {f : FuncId} {G : GF} {ops : Array Oper}
theorem Z6B {o : Oper} {t : Nat} : t ∈ Z8P H f o ↔ o.dst = some t ∨ t ∈ tmpsOf (wk H f o) := by
 unfold Z8P
 simp [Option.mem_toList]
theorem Zg9 {x o : Oper} (h : Zdw H f ops x o = true) :
  (∀ t, t ∈ Z8P H f x → t ∉ o.looksAt ops ∧ t ∉ Z8P H f o) ∧ ∀ t, t ∈ Z8P H f o → t ∉ x.looksAt ops := by
 unfold Zdw at h
 simp only [Bool.and_eq_true, List.all_eq_true, Bool.not_eq_true', List.contains_eq_mem, decide_eq_false_iff_not] at h
 exact h
theorem Tr.upd {o : Oper} {sl sl' : Sl} {B B' : List Row} (h : Tr P H f G ops o sl B sl' B') : ∃ ws v, Eqv sl' (upd sl ws o.dst v) ∧ (∀ t, t ∈ tmpsOf ws → t ∈ tmpsOf (wk H f o)) := by
 rcases h with ⟨_, v, _, h⟩ | ⟨_, _, h⟩
 ·exact ⟨_, v, h, fun _ h => h⟩
 ·exact ⟨[], ud, h, fun t ht => by simp [tmpsOf] at ht⟩
theorem Tr.keep {o : Oper} {sl sl' : Sl} {B B' : List Row} (h : Tr P H f G ops o sl B sl' B') {t : Nat} (ht : t ∉ Z8P H f o) : get sl' t = get sl t := by
 obtain ⟨ws, v, h1, h2⟩ := h.upd
 rw [Z6B, not_or] at ht
 rw [h1, Zh3, if_neg ht.1, if_neg (fun h => ht.2 (h2 t h))]
theorem Tr.sh {o : Oper} {sl sl' : Sl} {B B' : List Row} (h : Tr P H f G ops o sl B sl' B') {t : Nat} (ht : o.dst ≠ some t) : ShEq (get sl' t) (get sl t) := by
 obtain ⟨ws, v, h1, h2⟩ := h.upd
 rw [h1, Zh3, if_neg ht]
 split
 ·exact ShEq.shr _
 ·exact .refl _
theorem Run.sh {slF : Sl} {BF : List Row} {t : Nat} : ∀ (l : List Nat) (sl : Sl) (B : List Row), Run P H f G ops l sl B slF BF → (∀ k o, k ∈ l → ops[k]? = some o → o.dst ≠ some t) → ShEq (get slF t) (get sl t)
 | [], sl, B, h, _ => by rw [h.1]; exact .refl _
 | i :: l, sl, B, h, hd => by
  obtain ⟨o, s1, B1, q1, q2, q3⟩ := h
  exact (Run.sh l s1 B1 q3 fun k o hk => hd k o (by simp [hk])).trans (q2.sh (hd i o (by simp) q1))
theorem Zvg {sl sl' : Sl} {o : Oper} (h : ∀ t, t ∈ o.looksAt ops → get sl' t = get sl t) : (∀ y, y ∈ o.op.operands → ev sl' y = ev sl y) ∧ want ops o sl' = want ops o sl := by
 constructor
 ·intro y hy
  cases y with
  | tmp t => exact h t (List.mem_append_left _ (List.mem_filterMap.2 ⟨.tmp t, by simpa using hy, rfl⟩))
  | const c =>
   exact Eqv.ev (sl := sl') (sl' := sl') (.refl _) _ |>.trans (by cases c <;> first | rfl | (rename_i a n m; cases a <;> first | rfl | (cases n <;> cases m <;> rfl)))
  | global g => rfl
  | func g => rfl
 ·unfold want
  split
  ·rfl
  ·rename_i j w hg
   split
   ·rfl
   ·rename_i d hd
    rw [h d (List.mem_append_right _ (by simp [hg, hd]))]
theorem swap {p i : Oper} {sl s1 s2 : Sl} {B B1 B2 : List Row} (hap : Zdw H f ops p i = true) (h1 : Tr P H f G ops p sl B s1 B1) (h2 : Tr P H f G ops i s1 B1 s2 B2)
  (hB : ∀ v u, Fop P H f G p sl B = some (v, B1) → Fop P H f G i sl B1 = some (u, B2) → Eqv s2 (upd (upd sl (wk H f p) p.dst v) (wk H f i) i.dst u) →
   ∃ B1', Fop P H f G i sl B = some (u, B1') ∧ Fop P H f G p sl B1' = some (v, B2)) :
  ∃ s1' B1' s2', Tr P H f G ops i sl B s1' B1' ∧ Tr P H f G ops p s1' B1' s2' B2 ∧ Eqv s2' s2 := by
 obtain ⟨a1, a2⟩ := Zg9 hap
 have keep1 : ∀ t, t ∈ i.looksAt ops → get s1 t = get sl t := fun t ht => h1.keep fun h => (a1 t h).1 ht
 obtain ⟨e1, w1⟩ := Zvg keep1
 have comm : ∀ (ws ws' : List Operand) (v v' : AV), (∀ t, t ∈ tmpsOf ws → t ∈ tmpsOf (wk H f p)) → (∀ t, t ∈ tmpsOf ws' → t ∈ tmpsOf (wk H f i)) →
   Eqv (upd (upd sl ws p.dst v) ws' i.dst v') (upd (upd sl ws' i.dst v') ws p.dst v) := by
  intro ws ws' v v' hw hw'
  refine ZEf sl v v' fun t ht ht' => ?_
  have m1 : t ∈ Z8P H f p := Z6B.2 (ht.elim (fun h => .inr (hw t h)) .inl)
  have m2 : t ∈ Z8P H f i := Z6B.2 (ht'.elim (fun h => .inr (hw' t h)) .inl)
  exact (a1 t m1).2 m2
 have after : ∀ (ws' : List Operand) (v' : AV), (∀ t, t ∈ tmpsOf ws' → t ∈ tmpsOf (wk H f i)) → (∀ y, y ∈ p.op.operands → ev (upd sl ws' i.dst v') y = ev sl y) ∧ want ops p (upd sl ws' i.dst v') = want ops p sl := by
  intro ws' v' hw'
  refine Zvg fun t ht => ?_
  have hn : t ∉ Z8P H f i := fun h => a2 t h ht
  rw [Z6B, not_or] at hn
  rw [Zh3, if_neg hn.1, if_neg (fun h => hn.2 (hw' t h))]
 have updc : ∀ {x y : Sl} (ws : List Operand) (d : Option Tmp) (v : AV), Eqv x y → Eqv (upd x ws d v) (upd y ws d v) := fun ws d v h => Eqv.put (Eqv.weakL ws h) d v
 rcases h1 with ⟨g1, v, g2, g3⟩ | ⟨g1, rfl, g3⟩ <;> rcases h2 with ⟨k1, u, k2, k3⟩ | ⟨k1, rfl, k3⟩
 ·rw [w1] at k1
  rw [Zf5 P H f G i s1 sl B1 e1] at k2
  have hs2 : Eqv s2 (upd (upd sl (wk H f p) p.dst v) (wk H f i) i.dst u) := k3.trans (updc _ _ _ g3)
  obtain ⟨B1', q1, q2⟩ := hB v u g2 k2 hs2
  obtain ⟨e2, w2⟩ := after (wk H f i) u fun _ h => h
  refine ⟨upd sl (wk H f i) i.dst u, B1', upd (upd sl (wk H f i) i.dst u) (wk H f p) p.dst v, .inl ⟨k1, u, q1, .refl _⟩, .inl ⟨by rw [w2]; exact g1, v, ?_, .refl _⟩, ?_⟩
  ·rw [Zf5 P H f G p _ sl B1' e2]; exact q2
  ·exact (comm _ _ v u (fun _ h => h) (fun _ h => h)).symm.trans hs2.symm
 ·rw [w1] at k1
  have hs2 : Eqv s2 (upd (upd sl (wk H f p) p.dst v) [] i.dst ud) := k3.trans (updc [] _ _ g3)
  obtain ⟨e2, w2⟩ := after [] ud fun t h => by simp [tmpsOf] at h
  refine ⟨upd sl [] i.dst ud, B, upd (upd sl [] i.dst ud) (wk H f p) p.dst v, .inr ⟨k1, rfl, .refl _⟩, .inl ⟨by rw [w2]; exact g1, v, ?_, .refl _⟩, ?_⟩
  ·rw [Zf5 P H f G p _ sl B e2]; exact g2
  ·exact (comm _ [] v ud (fun _ h => h) (fun t h => by simp [tmpsOf] at h)).symm.trans hs2.symm
 ·rw [w1] at k1
  rw [Zf5 P H f G i s1 sl _ e1] at k2
  have hs2 : Eqv s2 (upd (upd sl [] p.dst ud) (wk H f i) i.dst u) := k3.trans (updc _ _ _ g3)
  obtain ⟨e2, w2⟩ := after (wk H f i) u fun _ h => h
  refine ⟨upd sl (wk H f i) i.dst u, B2, upd (upd sl (wk H f i) i.dst u) [] p.dst ud, .inl ⟨k1, u, k2, .refl _⟩, .inr ⟨by rw [w2]; exact g1, rfl, .refl _⟩, ?_⟩
  exact (comm [] _ ud u (fun t h => by simp [tmpsOf] at h) (fun _ h => h)).symm.trans hs2.symm
 ·rw [w1] at k1
  have hs2 : Eqv s2 (upd (upd sl [] p.dst ud) [] i.dst ud) := k3.trans (updc [] _ _ g3)
  obtain ⟨e2, w2⟩ := after [] ud fun t h => by simp [tmpsOf] at h
  refine ⟨upd sl [] i.dst ud, _, upd (upd sl [] i.dst ud) [] p.dst ud, .inr ⟨k1, rfl, .refl _⟩, .inr ⟨by rw [w2]; exact g1, rfl, .refl _⟩, ?_⟩
  exact (comm [] [] ud ud (fun t h => by simp [tmpsOf] at h) (fun t h => by simp [tmpsOf] at h)).symm.trans hs2.symm
def Z3x (o : Oper) : List Nat := (match addrOf o with | some a => tmpsOf [a] | none => []) ++ (match o.op with | .call c => tmpsOf c.args.toList | _ => [])
theorem Zi8 {o : Oper} {t : Nat} (h : t ∈ Z3x o) : t ∈ o.looksAt ops := by
 refine List.mem_append_left _ (List.mem_filterMap.2 ⟨.tmp t, ?_, rfl⟩)
 rcases o with ⟨dst, op, ty, pos, after, guard⟩
 unfold Z3x addrOf at h
 cases op <;> simp only [List.append_nil, List.nil_append] at h <;> try (simp at h; done)
 case load t' a => rw [Z4I] at h; simpa [Op.operands] using h
 case store t' a x => rw [Z4I] at h; simp only [List.mem_singleton] at h; simp [Op.operands, h]
 case call c =>
  rw [Z4I] at h
  simp only [Op.operands, Call.operands, Array.toList_append, List.mem_append]
  exact .inr h
inductive Kind (P : Program) (H : Hints) (f : FuncId) (G : GF) (o : Oper) (sl : Sl) (v : AV) : Cls → Prop
 | ind (c : Cls) : (∀ B, Fop P H f G o sl B = some (v, B)) → Kind P H f G o sl v c
 | loc (c : Cls) (a : Operand) (id off : Nat) : (c = .rd ∨ c = .wr ∨ c = .ol) → addrOf o = some a → ev sl a = .ptr id off → Za5 P H f G o sl id (c == .rd) → Kind P H f G o sl v c
 | new : News P H f G o sl → Kind P H f G o sl v .new
 | loud : Kind P H f G o sl v .loud
 | near (c : Call) : o.op = .call c → Near P H f G o sl (Z1w (evs sl c.args)) → Kind P H f G o sl v .near
 | pure (c : Call) : o.op = .call c → (Z1w (evs sl c.args) = [] → ptrs v = [] → ∀ B, Fop P H f G o sl B = some (v, B)) → Kind P H f G o sl v .pure
theorem Zyp {o : Oper} {sl : Sl} {B B' : List Row} {v : AV} (h : Fop P H f G o sl B = some (v, B')) : Kind P H f G o sl v (cls P H f o) := by
 cases hc : cls P H f o with
 | free =>
  obtain ⟨x, hx⟩ := ZDg (G := G) (sl := sl) hc
  rw [hx] at h
  cases x with
  | none => simp at h
  | some x =>
   simp only [Option.map_some, Option.some.injEq, Prod.mk.injEq] at h
   exact .ind _ fun B => by rw [hx, ← h.1]; rfl
 | new => exact .new (ZEv hc)
 | loud => exact .loud
 | near =>
  obtain ⟨c, h1, h2⟩ := ZDh (G := G) (sl := sl) hc
  exact .near c h1 h2
 | pure =>
  obtain ⟨c, h1, h2⟩ := ZDi (G := G) (sl := sl) hc
  exact .pure c h1 fun a b => h2 B v B' h a b
 | rd =>
  obtain ⟨a, h1, h2⟩ := ZsH (G := G) (sl := sl) (.inl hc)
  split at h2
  ·rename_i id off heq; rw [hc] at h2; exact .loc _ a id off (.inl rfl) h1 heq h2
  ·obtain ⟨x, hx⟩ := h2
   rw [hx] at h
   cases x with
   | none => simp at h
   | some x =>
    simp only [Option.map_some, Option.some.injEq, Prod.mk.injEq] at h
    exact .ind _ fun B => by rw [hx, ← h.1]; rfl
  ·rw [h2] at h; simp at h
 | wr =>
  obtain ⟨a, h1, h2⟩ := ZsH (G := G) (sl := sl) (.inr (.inl hc))
  split at h2
  ·rename_i id off heq; rw [hc] at h2; exact .loc _ a id off (.inr (.inl rfl)) h1 heq h2
  ·obtain ⟨x, hx⟩ := h2
   rw [hx] at h
   cases x with
   | none => simp at h
   | some x =>
    simp only [Option.map_some, Option.some.injEq, Prod.mk.injEq] at h
    exact .ind _ fun B => by rw [hx, ← h.1]; rfl
  ·rw [h2] at h; simp at h
 | ol =>
  obtain ⟨a, h1, h2⟩ := ZsH (G := G) (sl := sl) (.inr (.inr hc))
  split at h2
  ·rename_i id off heq; rw [hc] at h2; exact .loc _ a id off (.inr (.inr rfl)) h1 heq h2
  ·obtain ⟨x, hx⟩ := h2
   rw [hx] at h
   cases x with
   | none => simp at h
   | some x =>
    simp only [Option.map_some, Option.some.injEq, Prod.mk.injEq] at h
    exact .ind _ fun B => by rw [hx, ← h.1]; rfl
  ·rw [h2] at h; simp at h
theorem Zv5 {p i : Oper} {sl : Sl} {B B1 B2 : List Row} {v u : AV} (hp : ∀ B, Fop P H f G p sl B = some (v, B)) (h1 : Fop P H f G p sl B = some (v, B1)) (h2 : Fop P H f G i sl B1 = some (u, B2)) :
  ∃ B1', Fop P H f G i sl B = some (u, B1') ∧ Fop P H f G p sl B1' = some (v, B2) := by
 rw [hp] at h1
 simp only [Option.some.injEq, Prod.mk.injEq, true_and] at h1
 subst h1
 exact ⟨B2, h2, hp B2⟩
theorem ZnE {p i : Oper} {sl : Sl} {B B1 B2 : List Row} {v u : AV} (hi : ∀ B, Fop P H f G i sl B = some (u, B)) (h1 : Fop P H f G p sl B = some (v, B1)) (h2 : Fop P H f G i sl B1 = some (u, B2)) :
  ∃ B1', Fop P H f G i sl B = some (u, B1') ∧ Fop P H f G p sl B1' = some (v, B2) := by
 rw [hi] at h2
 simp only [Option.some.injEq, Prod.mk.injEq, true_and] at h2
 subst h2
 exact ⟨B, hi B, h1⟩
theorem Za5.run {o : Oper} {sl : Sl} {id : Nat} {rd : Bool} {B B' : List Row} {v : AV} (h : Za5 P H f G o sl id rd) (hf : Fop P H f G o sl B = some (v, B')) :
  ∃ row row', B[id]? = some row ∧ B' = B.set id row' ∧ (rd = true → row' = row) ∧ ∀ C : List Row, C[id]? = some row → Fop P H f G o sl C = some (v, C.set id row') := by
 obtain ⟨φ, h1, h2⟩ := h
 rw [h1] at hf
 cases hB : B[id]? with
 | none => rw [hB] at hf; simp at hf
 | some row =>
  rw [hB] at hf
  simp only [Option.bind_some] at hf
  obtain ⟨q, hq, e⟩ := Option.map_eq_some_iff.1 hf
  simp only [Prod.mk.injEq] at e
  refine ⟨row, q.2, rfl, e.2.symm, fun hr => h2 hr row q hq, fun C hC => ?_⟩
  rw [h1, hC]
  simp only [Option.bind_some, hq, Option.map_some, e.1]
theorem Zha {B : List Row} {id : Nat} {row : Row} (h : B[id]? = some row) : B.set id row = B := by
 apply List.ext_getElem?
 intro i
 rw [List.getElem?_set]
 split
 ·rename_i e
  subst e
  rw [if_pos (List.getElem?_eq_some_iff.1 h).1, h]
 ·rfl
structure Asked (p i : Oper) (sl s2 : Sl) (v u : AV) : Prop where
 rp : ∀ t, t ∈ Z3x p → ShEq (get s2 t) (get sl t)
 ri : ∀ t, t ∈ Z3x i → ShEq (get s2 t) (get sl t)
 dp : ∀ d, p.dst = some d → ShEq (get s2 d) v
 di : ∀ d, i.dst = some d → ShEq (get s2 d) u
theorem Zpm {sl s2 : Sl} {a : Operand} (h : ∀ t, t ∈ tmpsOf [a] → ShEq (get s2 t) (get sl t)) : ShEq (ev s2 a) (ev sl a) := by
 cases a with
 | tmp t => exact h t (by simp [tmpsOf])
 | const c => cases c <;> first | rfl | (rename_i a n m; cases a <;> first | rfl | (cases n <;> cases m <;> rfl))
 | global g => rfl
 | func g => rfl
theorem Zpk {o : Oper} {sl s2 : Sl} {a : Operand} (ha : addrOf o = some a) (h : ∀ t, t ∈ Z3x o → ShEq (get s2 t) (get sl t)) : ShEq (ev s2 a) (ev sl a) := by
 refine Zpm fun t ht => h t ?_
 unfold Z3x
 rw [ha]
 exact List.mem_append_left _ ht
theorem ZjR {o : Oper} {c : Call} {sl s2 : Sl} {v : AV} (ho : o.op = .call c) (hr : ∀ t, t ∈ Z3x o → ShEq (get s2 t) (get sl t)) (hd : ∀ d, o.dst = some d → ShEq (get s2 d) v)
  (hk : ∀ q, q ∈ Ze8 o → Z4J s2 q = true) : Z1w (evs sl c.args) = [] ∧ ptrs v = [] := by
 have hargs : ∀ y, y ∈ c.args.toList → ptrs (ev s2 y) = ptrs (ev sl y) := by
  intro y hy
  refine (Zpm (sl := sl) (s2 := s2) fun t ht => hr t ?_).ptrs
  rw [Z4I] at ht
  simp only [List.mem_singleton] at ht
  unfold Z3x
  rw [ho]
  exact List.mem_append_right _ (Z4I.2 (ht ▸ hy))
 have hnil : ∀ (l : List AV), Zmo l = true → ∀ x, x ∈ l → ptrs x = [] := by
  intro l hl x hx
  unfold Zmo at hl
  have : Z1w l = [] := by simpa using hl
  cases hp : ptrs x with
  | nil => rfl
  | cons i r =>
   have : i ∈ Z1w l := Z4U.2 ⟨x, hx, by rw [hp]; simp⟩
   simp_all
 have hall : ∀ l : List Operand, Zmo (l.map (ev s2)) = true → (∀ y, y ∈ c.args.toList → y ∈ l) → Z1w (evs sl c.args) = [] := by
  intro l hl hsub
  cases hp : Z1w (evs sl c.args) with
  | nil => rfl
  | cons i r =>
   have : i ∈ Z1w (evs sl c.args) := by rw [hp]; simp
   obtain ⟨x, hx, hi⟩ := Z4U.1 this
   unfold evs at hx
   obtain ⟨y, hy, rfl⟩ := List.mem_map.1 hx
   rw [← hargs y hy, hnil _ hl (ev s2 y) (List.mem_map.2 ⟨y, hsub y hy, rfl⟩)] at hi
   simp at hi
 unfold Ze8 at hk
 rw [ho] at hk
 cases hdd : o.dst with
 | none =>
  rw [hdd] at hk
  have := hk _ (List.mem_singleton.2 rfl)
  simp [Z4J, ev, scal, Zb2] at this
 | some d =>
  rw [hdd] at hk
  have := hk (.np (.tmp d :: c.args.toList)) (by simp)
  refine ⟨hall _ this fun y hy => by simp [hy], ?_⟩
  rw [← (hd d hdd).ptrs]
  exact hnil _ this (get s2 d) (by simp [ev])
end
end Go.Abs
end
section
set_option linter.unusedSimpArgs false
set_option linter.unusedVariables false
namespace Go.Abs
open Go
section
variable {P : Program} {H : Hints} {f : FuncId} {G : GF} {ops : Array Oper}
theorem Zyq {p i : Oper} {sl : Sl} {B B1 B2 : List Row} {v u : AV} {id id' : Nat} {rd rd' : Bool} (hp : Za5 P H f G p sl id rd) (hi : Za5 P H f G i sl id' rd') (hne : id ≠ id' ∨ (rd = true ∧ rd' = true))
  (h1 : Fop P H f G p sl B = some (v, B1)) (h2 : Fop P H f G i sl B1 = some (u, B2)) : ∃ B1', Fop P H f G i sl B = some (u, B1') ∧ Fop P H f G p sl B1' = some (v, B2) := by
 obtain ⟨r, r', p1, rfl, p2, p3⟩ := hp.run h1
 obtain ⟨q, q', i1, rfl, i2, i3⟩ := hi.run h2
 by_cases e : id = id'
 ·obtain ⟨hr, hr'⟩ := hne.resolve_left (fun h => h e)
  subst e
  have e1 := p2 hr
  have e2 := i2 hr'
  subst e1 e2
  rw [Zha p1] at i1 ⊢
  rw [p1] at i1
  cases i1
  rw [Zha p1]
  refine ⟨B, ?_, ?_⟩
  ·have := i3 B p1; rw [Zha p1] at this; exact this
  ·have := p3 B p1; rw [Zha p1] at this; exact this
 ·have hid' : B[id']? = some q := by rw [List.getElem?_set, if_neg e] at i1; exact i1
  refine ⟨_, i3 B hid', ?_⟩
  have hid : (B.set id' q')[id]? = some r := by rw [List.getElem?_set, if_neg (fun h => e h.symm)]; exact p1
  rw [p3 _ hid, List.set_comm _ _ e]
theorem ZG7 {p i : Oper} {sl : Sl} {B B1 B2 : List Row} {v u : AV} {id : Nat} {rd : Bool} (hp : Za5 P H f G p sl id rd) (hi : News P H f G i sl)
  (h1 : Fop P H f G p sl B = some (v, B1)) (h2 : Fop P H f G i sl B1 = some (u, B2)) : ∃ B1', Fop P H f G i sl B = some (u, B1') ∧ Fop P H f G p sl B1' = some (v, B2) := by
 obtain ⟨r, r', p1, rfl, p2, p3⟩ := hp.run h1
 obtain ⟨x, hx⟩ := hi
 rw [hx] at h2
 cases x with
 | none => simp at h2
 | some row =>
  simp only [Option.map_some, List.length_set, Option.some.injEq, Prod.mk.injEq] at h2
  obtain ⟨rfl, rfl⟩ := h2
  have hlt := (List.getElem?_eq_some_iff.1 p1).1
  refine ⟨B ++ [row], by rw [hx]; rfl, ?_⟩
  rw [p3 (B ++ [row]) (by rw [List.getElem?_append, if_pos hlt]; exact p1)]
  rw [List.set_append, if_pos hlt]
theorem ZG9 {p i : Oper} {sl : Sl} {B B1 B2 : List Row} {v u : AV} {id : Nat} {rd : Bool} (hp : News P H f G p sl) (hi : Za5 P H f G i sl id rd) (hne : v ≠ .ptr id 0)
  (h1 : Fop P H f G p sl B = some (v, B1)) (h2 : Fop P H f G i sl B1 = some (u, B2)) : ∃ B1', Fop P H f G i sl B = some (u, B1') ∧ Fop P H f G p sl B1' = some (v, B2) := by
 obtain ⟨q, q', i1, rfl, i2, i3⟩ := hi.run h2
 obtain ⟨x, hx⟩ := hp
 rw [hx] at h1
 cases x with
 | none => simp at h1
 | some row =>
  simp only [Option.map_some, Option.some.injEq, Prod.mk.injEq] at h1
  obtain ⟨rfl, rfl⟩ := h1
  have hlt : id < B.length := by
   have := (List.getElem?_eq_some_iff.1 i1).1
   simp only [List.length_append, List.length_cons, List.length_nil] at this
   rcases Nat.lt_or_ge id B.length with h | h
   ·exact h
   ·have : id = B.length := by omega
    exact absurd (by rw [this]) hne
  rw [List.getElem?_append, if_pos hlt] at i1
  refine ⟨_, i3 B i1, ?_⟩
  rw [hx]
  simp only [Option.map_some, List.length_set, Option.some.injEq, Prod.mk.injEq, true_and]
  rw [List.set_append, if_pos hlt]
theorem ZG8 {p i : Oper} {sl s2 : Sl} {v u : AV} (hA : Asked p i sl s2 v u) {a b : Operand} {id id' off off' : Nat} (ha : addrOf p = some a) (hb : addrOf i = some b) (ea : ev sl a = .ptr id off) (eb : ev sl b = .ptr id' off')
  (hq : Z4J s2 (.ne a b) = true) : id ≠ id' := by
 simp only [Z4J] at hq
 rw [ZnV (Zpk ha hA.rp) (Zpk hb hA.ri), ea, eb] at hq
 simpa [Zb2] using hq
theorem ZHO {o : Oper} {sl s2 : Sl} {v : AV} {d : Tmp} {a : Operand} {id off : Nat} (hr : ∀ t, t ∈ Z3x o → ShEq (get s2 t) (get sl t)) (hv : ShEq (get s2 d) v) (ha : addrOf o = some a) (ea : ev sl a = .ptr id off)
  (hq : Z4J s2 (.ne a (.tmp d)) = true) : v ≠ .ptr id 0 := by
 rintro rfl
 simp only [Z4J] at hq
 rw [ZnV (Zpk ha hr) (show ShEq (ev s2 (.tmp d)) (.ptr id 0) from hv), ea] at hq
 simp [Zb2] at hq
theorem ZDM {p i : Oper} {sl : Sl} {B B1 B2 : List Row} {v u : AV} {id : Nat} {rd : Bool} {ids : List Nat} (hp : Za5 P H f G p sl id rd) (hi : Near P H f G i sl ids) (hid : id ∉ ids)
  (h1 : Fop P H f G p sl B = some (v, B1)) (h2 : Fop P H f G i sl B1 = some (u, B2)) : ∃ B1', Fop P H f G i sl B = some (u, B1') ∧ Fop P H f G p sl B1' = some (v, B2) := by
 obtain ⟨r, r', p1, rfl, _, p3⟩ := hp.run h1
 obtain ⟨k1, k2⟩ := hi _ _ _ h2 id hid
 have hlt : id < B.length := (List.getElem?_eq_some_iff.1 p1).1
 have e1 : (B.set id r')[id]? = some r' := by rw [List.getElem?_set, if_pos rfl, if_pos hlt]
 rw [e1] at k1
 have hlt2 : id < B2.length := (List.getElem?_eq_some_iff.1 k1).1
 have h3 := k2 r
 rw [List.set_set, Zha p1] at h3
 refine ⟨_, h3, ?_⟩
 rw [p3 (B2.set id r) (by rw [List.getElem?_set, if_pos rfl, if_pos hlt2]), List.set_set, Zha k1]
theorem ZDP {p i : Oper} {sl : Sl} {B B1 B2 : List Row} {v u : AV} {id : Nat} {rd : Bool} {ids : List Nat} (hp : Near P H f G p sl ids) (hi : Za5 P H f G i sl id rd) (hid : id ∉ ids)
  (h1 : Fop P H f G p sl B = some (v, B1)) (h2 : Fop P H f G i sl B1 = some (u, B2)) : ∃ B1', Fop P H f G i sl B = some (u, B1') ∧ Fop P H f G p sl B1' = some (v, B2) := by
 obtain ⟨r, r', p1, rfl, _, p3⟩ := hi.run h2
 obtain ⟨k1, k2⟩ := hp _ _ _ h1 id hid
 exact ⟨_, p3 B (k1 ▸ p1), k2 r'⟩
theorem ZCW {id off : Nat} {z : AV} (h : Zb2 (.ptr id off) z = true) : id ∉ ptrs z := by
 cases z with
 | ptr j o => simp [Zb2] at h; simp [ptrs, h]
 | p x => simp [ptrs]
 | cptr c => simp [ptrs]
 | _ => simp [Zb2] at h
theorem ZCp {x y : Oper} {c : Call} {ab : List Ask} {sl s2 : Sl} {a : Operand} {id off : Nat} (hab : Zf8 x y = some ab) (hq : ∀ q, q ∈ ab → Z4J s2 q = true) (ha : addrOf x = some a) (hy : y.op = .call c) (ea : ev sl a = .ptr id off)
  (hx : ∀ t, t ∈ Z3x x → ShEq (get s2 t) (get sl t)) (hc : ∀ t, t ∈ Z3x y → ShEq (get s2 t) (get sl t)) : id ∉ Z1w (evs sl c.args) := by
 unfold Zf8 at hab
 rw [ha, hy] at hab
 simp only [Option.some.injEq] at hab
 subst hab
 intro hid
 obtain ⟨z, hz, hi⟩ := Z4U.1 hid
 unfold evs at hz
 obtain ⟨b, hb, rfl⟩ := List.mem_map.1 hz
 have h := hq (.ne a b) (List.mem_map.2 ⟨b, hb, rfl⟩)
 have hne : Zb2 (ev s2 a) (ev s2 b) = Zb2 (ev sl a) (ev sl b) := by
  refine ZnV (Zpk ha hx) (Zpm fun t ht => hc t ?_)
  rw [Z4I] at ht
  simp only [List.mem_singleton] at ht
  unfold Z3x
  rw [hy]
  exact List.mem_append_right _ (Z4I.2 (ht ▸ hb))
 simp only [Z4J] at h
 rw [hne, ea] at h
 exact ZCW h hi
theorem ZyR {p i : Oper} {sl s2 : Sl} {B B1 B2 : List Row} {v u : AV} {ab : List Ask} (hab : Ze7 P H f p i = some ab) (hq : ∀ q, q ∈ ab → Z4J s2 q = true) (hA : Asked p i sl s2 v u)
  (h1 : Fop P H f G p sl B = some (v, B1)) (h2 : Fop P H f G i sl B1 = some (u, B2)) : ∃ B1', Fop P H f G i sl B = some (u, B1') ∧ Fop P H f G p sl B1' = some (v, B2) := by
 have kp := Zyp h1
 have ki := Zyp h2
 unfold Ze7 at hab
 generalize cls P H f p = cp at kp hab
 generalize cls P H f i = ci at ki hab
 cases kp with
 | ind _ hp => exact Zv5 hp h1 h2
 | loc c a id off hc ha ea hl =>
  cases ki with
  | ind _ hi => exact ZnE hi h1 h2
  | loc c' a' id' off' hc' ha' ea' hl' =>
   rcases hc with rfl | rfl | rfl <;> rcases hc' with rfl | rfl | rfl <;> first
    | exact Zyq hl hl' (.inr ⟨rfl, rfl⟩) h1 h2
    | (simp only [ha, ha', Option.some.injEq] at hab
       subst hab
       exact Zyq hl hl' (.inl (ZG8 hA ha ha' ea ea' (hq _ (by simp)))) h1 h2)
  | new hi => exact ZG7 hl hi h1 h2
  | loud => rcases hc with rfl | rfl | rfl <;> simp at hab
  | near c' ho hi =>
   have hab' : Zf8 p i = some ab := by rcases hc with rfl | rfl | rfl <;> exact hab
   exact ZDM hl hi (ZCp hab' hq ha ho ea hA.rp hA.ri) h1 h2
  | pure c' ho hi =>
   have : ∀ q, q ∈ Ze8 i → Z4J s2 q = true := by
    rcases hc with rfl | rfl | rfl <;> (simp only [Option.some.injEq] at hab; subst hab; exact hq)
   obtain ⟨e1, e2⟩ := ZjR ho hA.ri hA.di this
   exact ZnE (hi e1 e2) h1 h2
 | new hp =>
  cases ki with
  | ind _ hi => exact ZnE hi h1 h2
  | loc c' a' id' off' hc' ha' ea' hl' =>
   cases hd : p.dst with
   | none => rcases hc' with rfl | rfl | rfl <;> simp [ZpP, hd] at hab
   | some d =>
    have hab' : [Ask.ne a' (.tmp d)] = ab := by rcases hc' with rfl | rfl | rfl <;> simpa [ZpP, hd, ha'] using hab
    subst hab'
    exact ZG9 hp hl' (ZHO hA.ri (hA.dp d hd) ha' ea' (hq _ (by simp))) h1 h2
  | new hi => simp at hab
  | loud => simp at hab
  | near c' ho hi => simp at hab
  | pure c' ho hi =>
   simp only [Option.some.injEq] at hab
   subst hab
   obtain ⟨e1, e2⟩ := ZjR ho hA.ri hA.di hq
   exact ZnE (hi e1 e2) h1 h2
 | near c ho hp =>
  cases ki with
  | ind _ hi => exact ZnE hi h1 h2
  | loc c' a' id' off' hc' ha' ea' hl' =>
   have hab' : Zf8 i p = some ab := by rcases hc' with rfl | rfl | rfl <;> exact hab
   exact ZDP hp hl' (ZCp hab' hq ha' ho ea' hA.ri hA.rp) h1 h2
  | _ => simp at hab
 | loud =>
  cases ki with
  | ind _ hi => exact ZnE hi h1 h2
  | loc c' a' id' off' hc' ha' ea' hl' => rcases hc' with rfl | rfl | rfl <;> simp at hab
  | _ => simp at hab
 | pure c ho hp =>
  cases ki with
  | ind _ hi => exact ZnE hi h1 h2
  | loc c' a' id' off' hc' ha' ea' hl' =>
   have : ∀ q, q ∈ Ze8 p → Z4J s2 q = true := by
    rcases hc' with rfl | rfl | rfl <;> (simp only [Option.some.injEq] at hab; subst hab; exact hq)
   obtain ⟨e1, e2⟩ := ZjR ho hA.rp hA.dp this
   exact Zv5 (hp e1 e2) h1 h2
  | new hi =>
   simp only [Option.some.injEq] at hab
   subst hab
   obtain ⟨e1, e2⟩ := ZjR ho hA.rp hA.dp hq
   exact Zv5 (hp e1 e2) h1 h2
  | loud => simp at hab
  | near c' ho' hi => simp at hab
  | pure c' ho' hi =>
   simp only [Option.some.injEq] at hab
   subst hab
   obtain ⟨e1, e2⟩ := ZjR ho hA.rp hA.dp fun q hq' => hq q (List.mem_append_left _ hq')
   exact Zv5 (hp e1 e2) h1 h2
def Later (x o : Oper) : Prop := ∀ d, o.dst = some d → d ∉ Z3x x ∧ x.dst ≠ some d
theorem ZB9 {s s' : Sl} {q : Ask} {p i : Oper} {ab : List Ask} (hab : Ze7 P H f p i = some ab) (hq : q ∈ ab)
  (hp : ∀ t, (t ∈ Z3x p ∨ p.dst = some t) ∨ (t ∈ Z3x i ∨ i.dst = some t) → ShEq (get s t) (get s' t)) : Z4J s q = Z4J s' q := by
 have ne : ∀ (a b : Operand), (∀ t, t ∈ tmpsOf [a] → ShEq (get s t) (get s' t)) → (∀ t, t ∈ tmpsOf [b] → ShEq (get s t) (get s' t)) → Z4J s (.ne a b) = Z4J s' (.ne a b) := by
  intro a b ha hb
  exact ZnV (Zpm ha) (Zpm hb)
 have addr : ∀ {x : Oper} {a : Operand} {t : Nat}, addrOf x = some a → t ∈ tmpsOf [a] → t ∈ Z3x x := by
  intro x a t hx ht
  unfold Z3x
  rw [hx]
  exact List.mem_append_left _ ht
 have np : ∀ {x : Oper}, (∀ t, t ∈ Z3x x ∨ x.dst = some t → ShEq (get s t) (get s' t)) → q ∈ Ze8 x → Z4J s q = Z4J s' q := by
  intro x hx hm
  unfold Ze8 at hm
  split at hm
  ·rename_i c d ho hd
   simp only [List.mem_singleton] at hm
   subst hm
   have : ∀ y, y ∈ (Operand.tmp d :: c.args.toList) → ptrs (ev s y) = ptrs (ev s' y) := by
    intro y hy
    refine (Zpm fun t ht => hx t ?_).ptrs
    rw [Z4I] at ht
    simp only [List.mem_singleton] at ht
    rw [← ht] at hy
    rcases List.mem_cons.1 hy with e | hy
    ·cases e; exact .inr hd
    ·refine .inl ?_
     unfold Z3x
     rw [ho]
     exact List.mem_append_right _ (Z4I.2 hy)
   have hl : ∀ l : List Operand, (∀ y, y ∈ l → ptrs (ev s y) = ptrs (ev s' y)) → Z1w (l.map (ev s)) = Z1w (l.map (ev s')) := by
    intro l
    induction l with
    | nil => intro _; rfl
    | cons y r ih =>
     intro hl
     simp only [List.map_cons, Z1w]
     rw [hl y (by simp), ih fun z hz => hl z (by simp [hz])]
   simp only [Z4J, Zmo]
   rw [hl _ this]
  ·simp only [List.mem_singleton] at hm
   subst hm
   exact ne _ _ (fun t ht => by simp [tmpsOf] at ht) (fun t ht => by simp [tmpsOf] at ht)
  ·simp at hm
 have neN : ∀ {x y : Oper} {l : List Ask}, ZpP x y = some l → q ∈ l → (∀ t, x.dst = some t → ShEq (get s t) (get s' t)) → (∀ t, t ∈ Z3x y → ShEq (get s t) (get s' t)) → Z4J s q = Z4J s' q := by
  intro x y l hl hm h1 h2
  unfold ZpP at hl
  split at hl
  ·rename_i d a hd ha
   simp only [Option.some.injEq] at hl
   subst hl
   simp only [List.mem_singleton] at hm
   subst hm
   refine ne _ _ (fun t ht => h2 t (addr ha ht)) (fun t ht => ?_)
   simp only [tmpsOf, List.mem_singleton] at ht
   subst ht
   exact h1 _ hd
  ·simp at hl
 have farq : ∀ {x y : Oper} {l : List Ask}, Zf8 x y = some l → q ∈ l → (∀ t, t ∈ Z3x x → ShEq (get s t) (get s' t)) → (∀ t, t ∈ Z3x y → ShEq (get s t) (get s' t)) → Z4J s q = Z4J s' q := by
  intro x y l hl hm h1 h2
  unfold Zf8 at hl
  split at hl
  ·rename_i a c ha ho
   simp only [Option.some.injEq] at hl
   subst hl
   obtain ⟨b, hb, rfl⟩ := List.mem_map.1 hm
   refine ne _ _ (fun t ht => h1 t (addr ha ht)) (fun t ht => h2 t ?_)
   rw [Z4I] at ht
   simp only [List.mem_singleton] at ht
   unfold Z3x
   rw [ho]
   exact List.mem_append_right _ (Z4I.2 (ht ▸ hb))
  ·simp at hl
 unfold Ze7 at hab
 split at hab
 all_goals first
  | exact farq hab hq (fun t ht => hp t (.inl (.inl ht))) (fun t ht => hp t (.inr (.inl ht)))
  | exact farq hab hq (fun t ht => hp t (.inr (.inl ht))) (fun t ht => hp t (.inl (.inl ht)))
  | (simp only [Option.some.injEq] at hab; subst hab; simp at hq; done)
  | (simp at hab; done)
  | exact neN hab hq (fun t ht => hp t (.inl (.inr ht))) (fun t ht => hp t (.inr (.inl ht)))
  | exact neN hab hq (fun t ht => hp t (.inr (.inr ht))) (fun t ht => hp t (.inl (.inl ht)))
  | (simp only [Option.some.injEq] at hab; subst hab; exact np (fun t ht => hp t (.inl ht)) hq)
  | (simp only [Option.some.injEq] at hab; subst hab; exact np (fun t ht => hp t (.inr ht)) hq)
  | (simp only [Option.some.injEq] at hab; subst hab
     rcases List.mem_append.1 hq with h | h
     ·exact np (fun t ht => hp t (.inl ht)) h
     ·exact np (fun t ht => hp t (.inr ht)) h)
  | (split at hab
     ·rename_i a b ha hb
      simp only [Option.some.injEq] at hab
      subst hab
      simp only [List.mem_singleton] at hq
      subst hq
      exact ne _ _ (fun t ht => hp t (.inl (.inl (addr ha ht)))) (fun t ht => hp t (.inr (.inl (addr hb ht))))
     ·simp at hab)
theorem ZEn {slF : Sl} {BF : List Row} {i : Nat} {oi : Oper} (hi : ops[i]? = some oi) (hlat : ∀ (j k : Nat) (x o : Oper), j < k → ops[j]? = some x → ops[k]? = some o → Later x o)
  (hown : ∀ (k : Nat) (o : Oper) (d : Tmp), ops[k]? = some o → o.dst = some d → d ∉ Z3x o) :
  ∀ (l : List Nat) (sl : Sl) (B : List Row), l.Pairwise (· < ·) → i ∈ l → Run P H f G ops l sl B slF BF →
   (∀ (k : Nat) (x : Oper), k ∈ l → k < i → ops[k]? = some x → Zdw H f ops x oi = true ∧ ∃ ab, Ze7 P H f x oi = some ab ∧ ∀ q, q ∈ ab → Z4J slF q = true) →
   ∃ s1 B1, Tr P H f G ops oi sl B s1 B1 ∧ Run P H f G ops (l.filter (· != i)) s1 B1 slF BF
 | [], _, _, _, hm, _, _ => by simp at hm
 | k :: l, sl, B, hs, hm, hr, hc => by
  obtain ⟨x, s1, B1, q1, q2, q3⟩ := hr
  obtain ⟨hs1, hs2⟩ := List.pairwise_cons.1 hs
  by_cases e : k = i
  ·subst e
   rw [hi] at q1
   cases q1
   have hno : k ∉ l := fun h => Nat.lt_irrefl _ (hs1 k h)
   have hf : (k :: l).filter (· != k) = l := by
    rw [List.filter_cons]
    simp only [bne_self_eq_false, Bool.false_eq_true, if_false]
    rw [List.filter_eq_self]
    intro y hy
    simp only [bne_iff_ne, ne_eq]
    rintro rfl
    exact hno hy
   rw [hf]
   exact ⟨s1, B1, q2, q3⟩
  ·have hil : i ∈ l := by
    rcases List.mem_cons.1 hm with h | h
    ·exact absurd h.symm e
    ·exact h
   have hki := hs1 i hil
   obtain ⟨t1, C1, r1, r2⟩ := ZEn hi hlat hown l s1 B1 hs2 hil q3 fun k' x' hk' => hc k' x' (by simp [hk'])
   obtain ⟨hap, ab, hab, hask⟩ := hc k x (by simp) hki q1
   obtain ⟨ap1, ap2⟩ := Zg9 hap
   have hend : ∀ t, (t ∈ Z3x x ∨ x.dst = some t) ∨ (t ∈ Z3x oi ∨ oi.dst = some t) → ShEq (get slF t) (get t1 t) := by
    intro t ht
    refine Run.sh _ t1 C1 r2 fun j o hj ho hd => ?_
    rw [List.mem_filter] at hj
    obtain ⟨hjl, hji⟩ := hj
    have hji : j ≠ i := by simpa using hji
    rcases ht with ht | ht
    ·obtain ⟨l1, l2⟩ := hlat k j x o (hs1 j hjl) q1 ho t hd
     rcases ht with ht | ht
     ·exact l1 ht
     ·exact l2 ht
    ·rcases Nat.lt_or_gt_of_ne hji with hlt | hgt
     ·obtain ⟨hap', _⟩ := hc j o (by simp [hjl]) hlt ho
      obtain ⟨b1, b2⟩ := Zg9 hap'
      have hm : t ∈ Z8P H f o := Z6B.2 (.inl hd)
      rcases ht with ht | ht
      ·exact (b1 t hm).1 (Zi8 ht)
      ·exact (b1 t hm).2 (Z6B.2 (.inl ht))
     ·obtain ⟨l1, l2⟩ := hlat i j oi o hgt hi ho t hd
      rcases ht with ht | ht
      ·exact l1 ht
      ·exact l2 ht
   obtain ⟨s1', B1', s2', w1, w2, w3⟩ := swap hap q2 r1 (by
    intro v u g1 g2 g3
    refine ZyR (s2 := t1) hab (fun q hq => ?_) ⟨?_, ?_, ?_, ?_⟩ g1 g2
    ·rw [← ZB9 hab hq hend]; exact hask q hq
    ·intro t ht
     have hx : x.dst ≠ some t := fun hd => hown k x t q1 hd ht
     have ho : oi.dst ≠ some t := fun hd => ap2 t (Z6B.2 (.inl hd)) (Zi8 ht)
     exact (r1.sh ho).trans (q2.sh hx)
    ·intro t ht
     have hx : x.dst ≠ some t := fun hd => (ap1 t (Z6B.2 (.inl hd))).1 (Zi8 ht)
     have ho : oi.dst ≠ some t := fun hd => hown i oi t hi hd ht
     exact (r1.sh ho).trans (q2.sh hx)
    ·intro d hd
     have hm : d ∈ Z8P H f x := Z6B.2 (.inl hd)
     have ho : oi.dst ≠ some d := fun hd' => (ap1 d hm).2 (Z6B.2 (.inl hd'))
     rw [g3, Zh3, if_neg ho, if_neg (fun h => (ap1 d hm).2 (Z6B.2 (.inr h))), Zh3, if_pos hd]
     exact .refl _
    ·intro d hd
     rw [g3, Zh3, if_pos hd]
     exact .refl _)
   have hf : (k :: l).filter (· != i) = k :: l.filter (· != i) := by
    rw [List.filter_cons, if_pos (by simpa using e)]
   rw [hf]
   exact ⟨s1', B1', w1, x, s2', C1, q1, w2, r2.congr w3⟩
end
end Go.Abs
end
section
set_option linter.unusedSimpArgs false
set_option linter.unusedVariables false
namespace Go.Abs
open Go
def msOf : List Oper → List Nat → List Nat
 | [], ms => ms
 | o :: os, ms => msOf os (ms ++ [Z9H ms o.after.toList])
def ZoA (H : Hints) (f : FuncId) (ops : Array Oper) : Bool :=
 (List.range ops.size).all fun k => match ops[k]? with
  | none => true
  | some o => o.after.all (fun e => !Region.binds .any e || decide (e.on < k)) &&
   (match o.dst with | some d => !(Z3x o).contains d | none => true) &&
   (List.range k).all fun i => match ops[i]? with
    | none => true
    | some x => (match o.dst with | some d => !(Z3x x).contains d && x.dst != some d | none => true) && (((msOf ops.toList []).getD k 0).testBit i || Zdw H f ops x o)
section
variable {P : Program} {H : Hints} {f : FuncId} {G : GF} {ops : Array Oper}
theorem Zxk (h : ZoA H f ops = true) :
  (∀ (k : Nat) (o : Oper) (e : Edge), ops[k]? = some o → e ∈ o.after → Region.binds .any e = true → e.on < k) ∧ (∀ (k : Nat) (o : Oper) (d : Tmp), ops[k]? = some o → o.dst = some d → d ∉ Z3x o) ∧
  (∀ (j k : Nat) (x o : Oper), j < k → ops[j]? = some x → ops[k]? = some o → Later x o) ∧
  ∀ (j k : Nat) (x o : Oper), j < k → ops[j]? = some x → ops[k]? = some o → ((msOf ops.toList []).getD k 0).testBit j = true ∨ Zdw H f ops x o = true := by
 unfold ZoA at h
 simp only [List.all_eq_true, List.mem_range] at h
 have hk : ∀ {k : Nat} {o : Oper}, ops[k]? = some o → k < ops.size := fun h => (Array.getElem?_eq_some_iff.1 h).1
 refine ⟨?_, ?_, ?_, ?_⟩
 ·intro k o e ho he hb
  have := h k (hk ho)
  simp only [ho, Bool.and_eq_true, Array.all_eq_true_iff_forall_mem] at this
  have := this.1.1 e he
  simpa [hb] using this
 ·intro k o d ho hd
  have := h k (hk ho)
  simp only [ho, Bool.and_eq_true, hd] at this
  simpa using this.1.2
 ·intro j k x o hjk hx ho d hd
  have := h k (hk ho)
  simp only [ho, Bool.and_eq_true, List.all_eq_true, List.mem_range] at this
  have := this.2 j hjk
  simp only [hx, hd, Bool.and_eq_true] at this
  simpa using this.1
 ·intro j k x o hjk hx ho
  have := h k (hk ho)
  simp only [ho, Bool.and_eq_true, List.all_eq_true, List.mem_range] at this
  have := this.2 j hjk
  simp only [hx, Bool.and_eq_true, Bool.or_eq_true] at this
  exact this.2
theorem ZnM : ∀ (os : List Oper) (ms : List Nat) (i : Nat), i < ms.length → (msOf os ms)[i]? = ms[i]?
 | [], ms, i, _ => rfl
 | o :: os, ms, i, h => by
  rw [msOf, ZnM os _ i (by simp; omega), List.getElem?_append, if_pos h]
theorem Zyr : ∀ (os : List Oper) (ms : List Nat) (k : Nat) (o : Oper), os[k]? = some o → (msOf os ms)[ms.length + k]? = some (Z9H ((msOf os ms).take (ms.length + k)) o.after.toList)
 | [], ms, k, o, h => by simp at h
 | x :: os, ms, k, o, h => by
  cases k with
  | zero =>
   simp only [List.getElem?_cons_zero, Option.some.injEq] at h
   subst h
   rw [msOf, Nat.add_zero, ZnM os _ ms.length (by simp)]
   have : (msOf os (ms ++ [Z9H ms x.after.toList])).take ms.length = ms := by
    apply List.ext_getElem?
    intro i
    rw [List.getElem?_take]
    split
    ·rw [ZnM os _ i (by simp; omega), List.getElem?_append, if_pos ‹_›]
    ·rw [List.getElem?_eq_none (by omega)]
   rw [this]
   simp
  | succ k =>
   have := Zyr os (ms ++ [Z9H ms x.after.toList]) k o (by simpa using h)
   simp only [List.length_append, List.length_cons, List.length_nil] at this
   rw [msOf]
   have e : ms.length + (k + 1) = ms.length + (0 + 1) + k := by omega
   rw [e]
   exact this
theorem Zrc {ms : List Nat} {i : Nat} : ∀ (es : List Edge), (Z9H ms es).testBit i = true → ∃ e, e ∈ es ∧ Region.binds .any e = true ∧ (e.on = i ∨ (ms.getD e.on 0).testBit i = true)
 | [], h => by simp [Z9H] at h
 | e :: es, h => by
  rw [Z9H] at h
  split at h
  ·rename_i hb
   rw [Nat.testBit_or, Nat.testBit_or, Bool.or_eq_true, Bool.or_eq_true, Nat.testBit_two_pow] at h
   rcases h with h | h | h
   ·exact ⟨e, by simp, hb, .inl (by simpa using h)⟩
   ·exact ⟨e, by simp, hb, .inr h⟩
   ·obtain ⟨e', h1, h2⟩ := Zrc es h
    exact ⟨e', by simp [h1], h2⟩
  ·obtain ⟨e', h1, h2⟩ := Zrc es h
   exact ⟨e', by simp [h1], h2⟩
def Down (ops : Array Oper) (listed : Array Bool) : Prop := ∀ (j : Nat) (o : Oper) (e : Edge), listed.getD j false = true → ops[j]? = some o → e ∈ o.after → Region.binds .any e = true → listed.getD e.on false = true
theorem ZxQ {listed : Array Bool} (hok : ∀ (k : Nat) (o : Oper) (e : Edge), ops[k]? = some o → e ∈ o.after → Region.binds .any e = true → e.on < k) (hd : Down ops listed) :
  ∀ (k : Nat) (o : Oper) (i : Nat), ops[k]? = some o → (∀ e, e ∈ o.after → Region.binds .any e = true → listed.getD e.on false = true) → ((msOf ops.toList []).getD k 0).testBit i = true → listed.getD i false = true := by
 intro k
 induction k using Nat.strongRecOn with
 | _ k ih =>
  intro o i ho he hb
  have hat := Zyr ops.toList [] k o (by simpa using ho)
  simp only [List.length_nil, Nat.zero_add] at hat
  rw [List.getD_eq_getElem?_getD, hat] at hb
  obtain ⟨e, h1, h2, h3⟩ := Zrc _ hb
  have h1' : e ∈ o.after := by simpa using h1
  have hlt := hok k o e ho h1' h2
  have hl := he e h1' h2
  rcases h3 with h3 | h3
  ·rw [← h3]; exact hl
  ·have hk : k < ops.size := (Array.getElem?_eq_some_iff.1 ho).1
   have hon : ops[e.on]? = some ops[e.on] := by simp
   refine ih e.on hlt _ i hon (fun e' h4 h5 => hd e.on _ e' hl hon h4 h5) ?_
   rw [List.getD_eq_getElem?_getD] at h3 ⊢
   rw [List.getElem?_take, if_pos hlt] at h3
   exact h3
theorem Zig {m : Nat} {o : Oper} : ∀ {nf : List (Nat × Oper)} {l : List Ask}, Zh8 P H f m o nf = some l → ∀ i x, (i, x) ∈ nf → m.testBit i = true ∨ ∃ ab, Ze7 P H f x o = some ab ∧ ∀ q, q ∈ ab → q ∈ l
 | [], _, _, i, x, h => by simp at h
 | (j, y) :: r, l, h, i, x, hm => by
  rw [Zh8] at h
  split at h
  ·rename_i hb
   rcases List.mem_cons.1 hm with e | hm
   ·cases e; exact .inl hb
   ·exact Zig h i x hm
  ·split at h
   ·simp at h
   ·rename_i ab hab
    split at h
    ·simp at h
    ·rename_i l' hl'
     simp only [Option.some.injEq] at h
     subst h
     rcases List.mem_cons.1 hm with e | hm
     ·cases e
      exact .inr ⟨ab, hab, fun q hq => by simp [hq]⟩
     ·rcases Zig hl' i x hm with h1 | ⟨ab', h1, h2⟩
      ·exact .inl h1
      ·exact .inr ⟨ab', h1, fun q hq => by simp [h2 q hq]⟩
theorem ZAH {o : Oper} {os : List Oper} {j : Nat} {ms : List Nat} {nf : List (Nat × Oper)} {asks l : List Ask} (h : Zhk P H f (o :: os) j ms nf asks = some l) :
  (cls P H f o = .free ∧ Zhk P H f os (j + 1) (ms ++ [Z9H ms o.after.toList]) nf asks = some l) ∨
  (cls P H f o ≠ .free ∧ ∃ ab, Zh8 P H f (Z9H ms o.after.toList) o nf = some ab ∧ Zhk P H f os (j + 1) (ms ++ [Z9H ms o.after.toList]) (nf ++ [(j, o)]) (asks ++ ab) = some l) := by
 have hf : ∀ {α : Type} (n : Nat) (k : Nat → α), force n k = k n := fun n k => by cases n <;> rfl
 rw [Zhk, hf] at h
 split at h
 ·rename_i hc
  exact .inl ⟨hc, h⟩
 ·rename_i hc
  split at h
  ·simp at h
  ·rename_i ab hab
   exact .inr ⟨hc, ab, hab, h⟩
theorem ZnK : ∀ (os : List Oper) (j : Nat) (ms : List Nat) (nf : List (Nat × Oper)) (asks l : List Ask), ms.length = j → Zhk P H f os j ms nf asks = some l →
  (∀ q, q ∈ asks → q ∈ l) ∧ ∀ (k : Nat) (o : Oper) (i : Nat) (x : Oper), os[k]? = some o → cls P H f o ≠ .free →
   ((i, x) ∈ nf ∨ ∃ k', k' < k ∧ i = j + k' ∧ os[k']? = some x ∧ cls P H f x ≠ .free) →
   ((msOf os ms).getD (j + k) 0).testBit i = true ∨ ∃ ab, Ze7 P H f x o = some ab ∧ ∀ q, q ∈ ab → q ∈ l
 | [], j, ms, nf, asks, l, _, h => by
  simp only [Zhk, Option.some.injEq] at h
  subst h
  exact ⟨fun _ h => h, fun k o i x h => by simp at h⟩
 | o :: os, j, ms, nf, asks, l, hl, h => by
  have hm0 : (msOf os (ms ++ [Z9H ms o.after.toList])).getD j 0 = Z9H ms o.after.toList := by
   rw [List.getD_eq_getElem?_getD, ZnM os _ j (by simp; omega), ← hl]
   simp
  have hj : ∀ k, j + (k + 1) = j + 1 + k := fun k => by omega
  rcases ZAH h with ⟨hc, h⟩ | ⟨hc, ab, hab, h⟩
  ·obtain ⟨h1, h2⟩ := ZnK os (j + 1) _ _ _ l (by simp [hl]) h
   refine ⟨h1, ?_⟩
   intro k o' i x ho' hc' hx
   cases k with
   | zero =>
    simp only [List.getElem?_cons_zero, Option.some.injEq] at ho'
    subst ho'
    exact absurd hc hc'
   | succ k =>
    rw [msOf, hj]
    refine h2 k o' i x (by simpa using ho') hc' ?_
    rcases hx with hx | ⟨k', hk', rfl, hx, hcx⟩
    ·exact .inl hx
    ·cases k' with
     | zero =>
      simp only [List.getElem?_cons_zero, Option.some.injEq] at hx
      subst hx
      exact absurd hc hcx
     | succ k' => exact .inr ⟨k', by omega, by omega, by simpa using hx, hcx⟩
  ·obtain ⟨h1, h2⟩ := ZnK os (j + 1) _ _ _ l (by simp [hl]) h
   refine ⟨fun q hq => h1 q (by simp [hq]), ?_⟩
   intro k o' i x ho' hc' hx
   cases k with
   | zero =>
    simp only [List.getElem?_cons_zero, Option.some.injEq] at ho'
    subst ho'
    rcases hx with hx | ⟨k', hk', _⟩
    ·rw [msOf, Nat.add_zero, hm0]
     rcases Zig hab i x hx with h3 | ⟨ab', h3, h4⟩
     ·exact .inl h3
     ·exact .inr ⟨ab', h3, fun q hq => h1 q (by simp [h4 q hq])⟩
    ·omega
   | succ k =>
    rw [msOf, hj]
    refine h2 k o' i x (by simpa using ho') hc' ?_
    rcases hx with hx | ⟨k', hk', rfl, hx, hcx⟩
    ·exact .inl (by simp [hx])
    ·cases k' with
     | zero =>
      simp only [List.getElem?_cons_zero, Option.some.injEq] at hx
      subst hx
      exact .inl (by simp)
     | succ k' => exact .inr ⟨k', by omega, by omega, by simpa using hx, hcx⟩
theorem Zxb {x o : Oper} (h : cls P H f x = .free ∨ cls P H f o = .free) : Ze7 P H f x o = some [] := by
 unfold Ze7
 rcases h with h | h
 ·rw [h]
 ·rw [h]
  split <;> first | rfl | (simp_all; done)
theorem Zqa {sl : Sl} {k : Option Res} {r : Res} : ∀ {l : List Ask}, askAll sl l k = some r → (∀ q, q ∈ l → Z4J sl q = true) ∧ k = some r
 | [], h => ⟨by simp, h⟩
 | q :: l, h => by
  change grd (Z4J sl q) (askAll sl l k) = some r at h
  unfold grd hi at h
  split at h
  ·rename_i hq
   obtain ⟨h1, h2⟩ := Zqa h
   refine ⟨fun q' hq' => ?_, h2⟩
   rcases List.mem_cons.1 hq' with rfl | hq'
   ·exact hq
   ·exact h1 q' hq'
  ·simp at h
def Z8l (ops : Array Oper) (listed : Array Bool) : List Nat := (List.range ops.size).filter fun j => !listed.getD j true
theorem Zpb (listed : Array Bool) : (Z8l ops listed).Pairwise (· < ·) := List.Pairwise.filter _ List.pairwise_lt_range
theorem ZhY {listed : Array Bool} {j : Nat} : j ∈ Z8l ops listed ↔ j < ops.size ∧ listed.getD j true = false := by
 unfold Z8l
 simp
variable {b : Base} {Q : Exit → Act → World → Prop}
theorem ZDk {I : Inv} (hp : Pers I) (hI : I b.w b.S) (hF : Zaa P I G) (hdst : ∀ (i : Nat) (o : Oper) (t : Tmp), ops[i]? = some o → o.dst = some t → t < b.nt) (hok : ZoA H f ops = true) {l : List Ask} (hl : Zhk P H f ops.toList 0 [] [] [] = some l)
  {slF : Sl} {BF : List Row} (hask : ∀ q, q ∈ l → Z4J slF q = true) (hQ : ∀ a w, At b slF BF a w → Q .normal a w) :
  ∀ (fuel : Nat) (listed : Array Bool) (sl : Sl) (B : List Row) (a : Act) (w : World), listed.size = ops.size → Down ops listed → (Z8l ops listed).length ≤ fuel →
   Run P H f G ops (Z8l ops listed) sl B slF BF → At b sl B a w → wpAny P .any ops Q fuel listed a w := by
 obtain ⟨k1, k2, k3, k4⟩ := Zxk hok
 obtain ⟨_, hl2⟩ := ZnK ops.toList 0 [] [] [] l rfl hl
 have hempty : ∀ (listed : Array Bool), Z8l ops listed = [] → Region.ready .any ops listed = [] := by
  intro listed hr
  cases hre : Region.ready .any ops listed with
  | nil => rfl
  | cons i r =>
   have : i ∈ Region.ready .any ops listed := by rw [hre]; simp
   obtain ⟨h1, o, ho, _⟩ := mem_ready.1 this
   have : i ∈ Z8l ops listed := ZhY.2 ⟨(Array.getElem?_eq_some_iff.1 ho).1, h1⟩
   rw [hr] at this
   simp at this
 intro fuel
 induction fuel with
 | zero =>
  intro listed sl B a w hsz hdown hlen hrun h
  have hr : Z8l ops listed = [] := List.length_eq_zero_iff.1 (by omega)
  rw [hr] at hrun
  refine ⟨hempty listed hr, ?_⟩
  obtain ⟨e, rfl⟩ := hrun
  exact hQ a w (h.eqv e)
 | succ fuel ih =>
  intro listed sl B a w hsz hdown hlen hrun h
  refine ⟨fun hre => ?_, fun i hi => ?_⟩
  ·cases hr : Z8l ops listed with
   | nil =>
    rw [hr] at hrun
    obtain ⟨e, rfl⟩ := hrun
    exact hQ a w (h.eqv e)
   | cons i0 rest =>
    exfalso
    have hm : i0 ∈ Z8l ops listed := by rw [hr]; simp
    obtain ⟨h1, h2⟩ := ZhY.1 hm
    have hs := Zpb (ops := ops) listed
    rw [hr] at hs
    have hmin := (List.pairwise_cons.1 hs).1
    have ho : ops[i0]? = some ops[i0] := by simp [h1]
    have : i0 ∈ Region.ready .any ops listed := by
     refine mem_ready.2 ⟨h2, _, ho, fun e he hb => ?_⟩
     have hlt := k1 i0 _ e ho he hb
     have hn : e.on ∉ Z8l ops listed := by
      rw [hr]
      intro hm'
      rcases List.mem_cons.1 hm' with h3 | h3
      ·omega
      ·have := hmin _ h3; omega
     rw [ZhY] at hn
     have hlt' : e.on < ops.size := by omega
     cases hg : listed.getD e.on true with
     | false => exact absurd ⟨hlt', hg⟩ hn
     | true =>
      have hs' : e.on < listed.size := by omega
      simp only [Array.getD_eq_getD_getElem?, Array.getElem?_eq_getElem hs', Option.getD_some] at hg ⊢
      exact hg
    rw [hre] at this
    simp at this
  ·obtain ⟨h1, o, ho, hedge⟩ := mem_ready.1 hi
   have hin : i < ops.size := (Array.getElem?_eq_some_iff.1 ho).1
   have hil : i < listed.size := by omega
   have hm : i ∈ Z8l ops listed := ZhY.2 ⟨hin, h1⟩
   obtain ⟨s1, B1, ht, hrun'⟩ := ZEn ho k3 k2 (Z8l ops listed) sl B (Zpb listed) hm hrun (by
    intro k x hk hki hx
    have hnb : ((msOf ops.toList []).getD i 0).testBit k ≠ true := by
     intro hb
     have hlk := ZxQ k1 hdown i o k ho hedge hb
     have := (ZhY.1 hk).2
     have hs' : k < listed.size := by omega
     simp only [Array.getD_eq_getD_getElem?, Array.getElem?_eq_getElem hs', Option.getD_some] at this hlk
     rw [this] at hlk
     simp at hlk
    refine ⟨(k4 k i x o hki hx ho).resolve_left hnb, ?_⟩
    by_cases hfree : cls P H f x = .free ∨ cls P H f o = .free
    ·exact ⟨[], Zxb hfree, by simp⟩
    ·simp only [not_or] at hfree
     have := hl2 i o k x (by simpa using ho) hfree.2 (.inr ⟨k, hki, by omega, by simpa using hx, hfree.1⟩)
     rw [Nat.zero_add] at this
     obtain ⟨ab, h3, h4⟩ := this.resolve_left hnb
     exact ⟨ab, h3, fun q hq => hask q (h4 q hq)⟩)
   have hset : ∀ j, (listed.setIfInBounds i true).getD j true = (listed.getD j true || j == i) := by
    intro j
    by_cases e : i = j
    ·subst e; simp [hil]
    ·rw [getD_set_ne true e]
     have : (j == i) = false := by simpa using fun h => e h.symm
     rw [this, Bool.or_false]
   have hrem : Z8l ops (listed.setIfInBounds i true) = (Z8l ops listed).filter (· != i) := by
    unfold Z8l
    rw [List.filter_filter]
    congr 1
    funext j
    rw [hset]
    simp only [bne, Bool.not_or]
    exact Bool.and_comm _ _
   have hdown' : Down ops (listed.setIfInBounds i true) := by
    intro j o' e hj ho' he hb
    by_cases e' : i = j
    ·subst e'
     rw [ho] at ho'
     cases ho'
     exact getD_set_true (hedge e he hb)
    ·rw [getD_set_ne false e'] at hj
     exact getD_set_true (hdown j o' e hj ho' he hb)
   have hlen' : (Z8l ops (listed.setIfInBounds i true)).length ≤ fuel := by
    rw [hrem]
    have : ((Z8l ops listed).filter (· != i)).length < (Z8l ops listed).length := by
     rw [List.length_filter_lt_length_iff_exists]
     exact ⟨i, hm, by simp⟩
    omega
   rw [← hrem] at hrun'
   have hgo : ∀ a w, At b s1 B1 a w → wpAny P .any ops Q fuel (listed.setIfInBounds i true) a w := fun a w ha => ih _ s1 B1 a w (by simp [hsz]) hdown' hlen' hrun' ha
   have := Zx5 (Q := Q) hp hI hF (fun t ht => hdst i o t ho ht) ht h
   unfold wpOp
   simp only [ho]
   split at this
   ·rename_i hw
    rw [if_pos hw]
    exact .inl (Oper.wp_mono hgo this)
   ·rename_i hw
    rw [if_neg hw]
    exact hgo _ _ this
theorem At.drew {sl : Sl} {B : List Row} {a : Act} {w : World} (h : At b sl B a w) : At b sl B a { w with drawn := w.drawn + 1 } := by
 obtain ⟨S, β, hg, hst⟩ := h
 have hk : Keeps w S { w with drawn := w.drawn + 1 } S := ⟨fun _ _ h => h, fun _ _ _ => rfl⟩
 refine ⟨S, β, hg.world hk (fun i hi => ⟨rfl, hg.mem.apart i hi⟩) hg.mem.stay (fun l x v hl hu => (hg.uns.ok l x v hl hu).1.world fun _ _ => ⟨rfl, fun _ h => h⟩), ?_⟩
 exact { hst with keeps := hst.keeps.trans hk, uns := fun b hb => hst.uns b (UB.world hg.mem (fun _ _ => rfl) hb), block := fun b h1 h2 h3 => hst.block b h1 h2 h3 }
theorem ZxX {I : Inv} (hp : Pers I) (hI : I b.w b.S) (hF : Zaa P I G) (hm : P.follows .mixedOrders = true) (hdst : ∀ (i : Nat) (o : Oper) (t : Tmp), ops[i]? = some o → o.dst = some t → t < b.nt) (hok : ZoA H f ops = true) {id : Nat}
  {K : Sl → List Row → Option Res} {r : Res} {sl : Sl} {B : List Row} {a : Act} {w : World} (hk : runRegion P H f G ops true K sl B = some r) (h : At b sl B a w)
  (hQ : ∀ sl B a w, K sl B = some r → At b sl B a w → Q .normal a w) : (Code.region id ops true).wp P Q a w := by
 unfold runRegion at hk
 simp only at hk
 split at hk
 ·simp at hk
 ·rename_i l hl
  obtain ⟨slF, BF, h1, h2⟩ := Zih ops.toList 0 0 [] sl B (fun j _ => by simp) hk
  obtain ⟨h3, h4⟩ := Zqa h2
  have hrem : Z8l ops (Array.replicate ops.size false) = List.range' 0 ops.toList.length := by
   unfold Z8l
   rw [List.filter_eq_self.2]
   ·rw [List.range_eq_range']; simp
   ·intro j hj
    simp only [List.mem_range] at hj
    simp [hj]
  refine wp_region_any hm (ZDk hp hI hF hdst hok hl h3 (fun a w ha => hQ slF BF a w h4 ha) ops.size _ sl B a _ (by simp) ?_ (by rw [hrem]; simp) (by rw [hrem]; exact h1) h.drew)
  intro j o e hj
  have : (Array.replicate ops.size false).getD j false = false := by
   simp only [Array.getD_eq_getD_getElem?]
   cases hj' : (Array.replicate ops.size false)[j]? with
   | none => rfl
   | some x =>
    have := Array.mem_of_getElem? hj'
    simp at this
    simp [this.2]
  rw [this] at hj
  simp at hj
end
end Go.Abs
end
section
set_option linter.unusedSimpArgs false
set_option linter.unusedVariables false
namespace Go.Abs
open Go
theorem ZE7 : ∀ (x : AV), Z2k (fun i => i) x = x := by
 intro x
 induction x using AV.rec (motive_2 := fun l => Z1X (fun i => i) l = l) with
 | p x => simp [Z2k]
 | ptr id off => simp [Z2k]
 | mp id => simp [Z2k]
 | md es => simp [Z2k]
 | cptr cs => simp [Z2k]
 | clo f a b iha ihb => simp [Z2k, iha, ihb]
 | agg cs ih => simp [Z2k, ih]
 | tup vs ih => simp [Z2k, ih]
 | nil => simp [Z1X]
 | cons x r ihx ihr => simp [Z1X, ihx, ihr]
theorem ARel.fewer {w : World} {S : Stay} {β : Nat → Nat} {n n' : Nat} {x : AV} {v : Value} (h : ARel w S β n x v) (hp : ∀ i, i ∈ ptrs x → i < n') : ARel w S β n' x v := by
 have := Zfo (g := fun i => i) (β' := β) (n' := n') h fun i hi => ⟨hp i hi, rfl⟩
 rwa [ZE7] at this
theorem Zo0 {B : List Row} {n i : Nat} {r : Row} (h : (B.take n)[i]? = some r) : i < n ∧ B[i]? = some r := by
 rw [List.getElem?_take] at h
 split at h
 ·exact ⟨‹_›, h⟩
 ·simp at h
section
variable {b : Base} {sl : Sl} {B : List Row} {a : Act} {w : World}
theorem At.take (h : At b sl B a w) {n : Nat} (hm : b.m0 ≤ n) (hs : ∀ t i, i ∈ ptrs (get sl t) → i < n) (hr : ∀ row, row ∈ B.take n → ∀ i, i ∈ Z1w row → i < n) : At b sl (B.take n) a w := by
 obtain ⟨S, β, hg, hst⟩ := h
 have hlen : (B.take n).length = min n B.length := by simp
 have hle : ∀ i, i < (B.take n).length → i < B.length := by intro i hi; rw [hlen] at hi; omega
 have fewer : ∀ {x : AV} {v : Value}, ARel w S β B.length x v → (∀ i, i ∈ ptrs x → i < n) → ARel w S β (B.take n).length x v := by
  intro x v hx hp
  refine hx.fewer fun i hi => ?_
  have := Zrl hx i hi
  have := hp i hi
  rw [hlen]; omega
 have here : ∀ l x v, Here b.nt sl a.tmps (B.take n) β w l x v → Here b.nt sl a.tmps B β w l x v := by
  intro l x v hl
  cases l with
  | slot t => exact hl
  | box id j =>
   obtain ⟨row, q1, q2, q3⟩ := hl
   exact ⟨row, (Zo0 q1).2, q2, q3⟩
 refine ⟨S, β, ⟨hg.size, hg.defers, ?_, hg.high, ⟨?_, ?_, ?_, ?_, hg.mem.stay, fun id r es hid hm => hg.mem.maps id r es (Zo0 hid).2 hm⟩, ⟨?_, ?_⟩⟩, ?_⟩
 ·intro t ht
  exact fewer (hg.slots t ht) (hs t)
 ·intro id r hid hm
  exact hg.mem.row id r (Zo0 hid).2 hm
 ·intro id r j x hid hm hx
  obtain ⟨v, q1, q2, q3⟩ := hg.mem.cell id r j x (Zo0 hid).2 hm hx
  exact ⟨v, q1, fewer q2 fun i hi => hr r (List.mem_of_getElem? hid) i (Z4U.2 ⟨x, List.mem_of_getElem? hx, hi⟩), q3⟩
 ·intro i j hi hj
  exact hg.mem.inj i j (hle i hi) (hle j hj)
 ·intro i hi
  exact hg.mem.apart i (hle i hi)
 ·intro l x v hl hu
  obtain ⟨q1, q2⟩ := hg.uns.ok l x v (here l x v hl) hu
  exact ⟨q1, fun i hi => q2 i (hle i hi)⟩
 ·intro l l' x x' v v' hl hl'
  exact hg.uns.inj l l' x x' v v' (here l x v hl) (here l' x' v' hl')
 ·refine { hst with low := fun h1 => ?_, boxes := fun i hi => hst.boxes i (hle i hi), uns := fun c hc => ?_ }
  ·obtain ⟨q1, q2⟩ := hst.low h1
   exact ⟨by rw [hlen]; omega, q2⟩
  ·obtain ⟨l, x, v, hl, hu, hb⟩ := hc
   exact hst.uns c ⟨l, x, v, here l x v hl, hu, hb⟩
theorem Zkz (sl : Sl) : ∀ (l : List Nat) (t : Nat), get (Zcb sl l) t = get sl t ∨ get (Zcb sl l) t = jk
 | [], t => .inr rfl
 | u :: r, t => by
  show get ((u, get sl u) :: Zcb sl r) t = _ ∨ get ((u, get sl u) :: Zcb sl r) t = _
  rw [Z2L]
  by_cases e : u = t
  ·rw [if_pos e, e]; exact .inl rfl
  ·rw [if_neg e]; exact Zkz sl r t
theorem At.clean (h : At b sl B a w) (m : List Nat) : At b (Zcb sl m) B a w := by
 obtain ⟨S, β, hg, hst⟩ := h
 have hr : ∀ t, t < b.nt → get (Zcb sl m) t = get sl t ∨ isUn (get (Zcb sl m) t) = false := by
  intro t _
  rcases Zkz sl m t with e | e
  ·exact .inl e
  ·exact .inr (by rw [e]; rfl)
 refine ⟨S, β, hg.reslot ?_ ?_, hst.less fun c hc => UB.reslot hr c hc⟩
 ·intro t _
  rcases Zkz sl m t with e | e
  ·exact .inl e
  ·exact .inr (by rw [e]; exact ⟨ARel.junk _, rfl⟩)
 ·intro t ht
  rcases Zkz sl m t with e | e
  ·rw [e]; exact hg.high t ht
  ·exact e
theorem ZuF : ∀ (l : List Nat) (m : Nat), m ≤ l.foldl (fun n i => max n (i + 1)) m ∧ ∀ i, i ∈ l → i < l.foldl (fun n i => max n (i + 1)) m
 | [], m => by simp
 | x :: r, m => by
  obtain ⟨h1, h2⟩ := ZuF r (max m (x + 1))
  simp only [List.foldl_cons]
  refine ⟨by omega, ?_⟩
  intro i hi
  rcases List.mem_cons.1 hi with rfl | hi
  ·omega
  ·exact h2 i hi
theorem Zwy : ∀ (sl : Sl) (t : Nat), get sl t = jk ∨ get sl t ∈ ZjU sl
 | [], _ => .inl rfl
 | (u, x) :: r, t => by
  rw [Z2L]
  by_cases e : u = t
  ·rw [if_pos e]; exact .inr (by simp [ZjU])
  ·rw [if_neg e]
   rcases Zwy r t with h | h
   ·exact .inl h
   ·exact .inr (by simp [ZjU, h])
theorem At.gc (h : At b sl B a w) : At b sl (gcB b.m0 (ZjU sl) B) a w := by
 unfold gcB
 simp only
 split
 ·rename_i hc
  obtain ⟨h1, h2⟩ := ZuF (Z1w (ZjU sl)) b.m0
  refine h.take h1 ?_ ?_
  ·intro t i hi
   rcases Zwy sl t with e | e
   ·rw [e] at hi; simp [jk, ptrs] at hi
   ·exact h2 i (Z4U.2 ⟨_, e, hi⟩)
  ·intro row hrow
   exact ZmE (List.all_eq_true.1 hc row hrow)
 ·exact h
theorem Zis {H : Hints} {f : Nat} {c : Code} {k : Sl → List Row → Option Res} {r : Res} (hk : enter H f b.m0 c k sl B = some r) (h : At b sl B a w) : ∃ sl' B', k sl' B' = some r ∧ At b sl' B' a w := by
 unfold enter hi at hk
 split at hk
 ·exact ⟨sl, B, hk, h⟩
 ·rename_i m _
  exact ⟨_, _, hk, (h.clean m).gc⟩
end
def Zrs (P : Program) (c : Code) (Q : Exit → Act → World → Prop) (a : Act) (w : World) : Prop :=
 ∀ (b : Frame) (k : List Item) (cs : List Frame), ∃ e a' w', Q e a' w' ∧ Arrives P (lone (b.at a (.code c :: .inLoop c :: k)) cs w) b k cs e a' w'
theorem ZAG {P : Program} {c : Code} {Q : Exit → Act → World → Prop} {a : Act} {w : World} (h : c.wp P (Exit.then (Zrs P c Q) Q) a w) : Zrs P c Q a w := by
 intro b k cs
 obtain ⟨e, a₁, w₁, hq, harr⟩ := h b (.inLoop c :: k) cs
 cases e with
 | normal =>
  obtain ⟨e₂, a₂, w₂, hq₂, harr₂⟩ := hq b k cs
  exact ⟨e₂, a₂, w₂, hq₂, .of_steps (Steps.trans harr (.one step_inLoop)) harr₂⟩
 | exit id => exact ⟨_, a₁, w₁, hq, .pass (x := .inLoop c) rfl (fun _ _ => .inl (by simp)) harr⟩
 | goto l => exact ⟨_, a₁, w₁, hq, .pass (x := .inLoop c) rfl (fun _ _ => .inl (by simp)) harr⟩
 | ret => exact ⟨_, a₁, w₁, hq, .pass (x := .inLoop c) rfl (fun _ _ => .inl (by simp)) harr⟩
 | panic ch => exact ⟨_, a₁, w₁, hq, .pass (x := .inLoop c) rfl (fun _ _ => .inl (by simp)) harr⟩
 | outgrown => exact ⟨_, a₁, w₁, hq, .pass (x := .inLoop c) rfl (fun _ _ => .inl (by simp)) harr⟩
theorem ZAV {P : Program} {c : Code} {Q : Exit → Act → World → Prop} {a : Act} {w : World} (h : Zrs P c Q a w) : (Code.loop c).wp P Q a w := by
 intro b k cs
 obtain ⟨e, a', w', hq, harr⟩ := h b k cs
 exact ⟨e, a', w', hq, .of_steps (.one step_loop) harr⟩
def codeOk (H : Hints) (f nt : Nat) : Code → Bool
 | .region _ ops draw => ops.all (fun o => match o.dst with | some d => decide (d < nt) | none => true) && (!draw || ZoA H f ops)
 | .seq a b | .cond _ a b => codeOk H f nt a && codeOk H f nt b
 | .block _ c | .loop c | .scope c => codeOk H f nt c
 | _ => true
def QK (b : Base) (r : Res) (K : Kont) : Exit → Act → World → Prop
 | .normal, a, w => ∃ sl B, K .normal sl B = some r ∧ At b sl B a w
 | .exit id, a, w => ∃ sl B, K (.exit id) sl B = some r ∧ At b sl B a w
 | .ret, a, w => ∃ sl B, K .ret sl B = some r ∧ At b sl B a w
 | _, _, _ => False
def ZyJ (P : Program) (I : Inv) (H : Hints) (LP : LF) : Prop := ∀ (f m0 : Nat) (c : Code) (K : Kont) (sl : Sl) (B : List Row) (r : Res) (b : Base) (a : Act) (w : World),
 I b.w b.S → codeOk H f b.nt c = true → b.m0 = m0 → LP f m0 c K sl B = some r → At b sl B a w → Zrs P c (QK b r K) a w
theorem ZrD {P : Program} {H : Hints} {f : Nat} {G : GF} {LP : LF} {I : Inv} (hp : Pers I) (hF : Zaa P I G) (hL : ZyJ P I H LP) (hm : P.follows .mixedOrders = true) {b : Base} (hI : I b.w b.S) {r : Res} (c : Code) :
  ∀ (K : Kont) (sl : Sl) (B : List Row) (a : Act) (w : World), codeOk H f b.nt c = true → exec P H f b.m0 G LP c K sl B = some r → At b sl B a w → c.wp P (QK b r K) a w := by
 induction c with
 | skip => intro K sl B a w _ he h; exact wp_skip ⟨sl, B, he, h⟩
 | region id ops draw =>
  intro K sl B a w hc he h
  simp only [codeOk, Bool.and_eq_true, Array.all_eq_true_iff_forall_mem, Bool.or_eq_true, Bool.not_eq_true'] at hc
  have hd : ∀ (i : Nat) (o : Oper) (t : Tmp), ops[i]? = some o → o.dst = some t → t < b.nt := by
   intro i o t ho ht
   have := hc.1 o (Array.mem_of_getElem? ho)
   rw [ht] at this
   simpa using this
  change runRegion P H f G ops draw (K .normal) sl B = some r at he
  cases draw with
  | false => exact ZwQ hp hI hF hd he h fun sl B a w hk ha => ⟨sl, B, hk, ha⟩
  | true => exact ZxX hp hI hF hm hd (hc.2.resolve_left (by simp)) he h fun sl B a w hk ha => ⟨sl, B, hk, ha⟩
 | seq x y ihx ihy =>
  intro K sl B a w hc he h
  simp only [codeOk, Bool.and_eq_true] at hc
  refine wp_seq (wp_mono (ihx (kseq H f b.m0 y (exec P H f b.m0 G LP y K) K) sl B a w hc.1 he h) ?_)
  intro e a w hq
  cases e with
  | normal =>
   obtain ⟨sl', B', hk, ha⟩ := hq
   obtain ⟨sl2, B2, hk2, ha2⟩ := Zis hk ha
   exact ihy K sl2 B2 a w hc.2 hk2 ha2
  | exit id => exact hq
  | ret => exact hq
  | goto l => exact hq.elim
  | panic ch => exact hq.elim
  | outgrown => exact hq.elim
 | cond c x y ihx ihy =>
  intro K sl B a w hc he h
  simp only [codeOk, Bool.and_eq_true] at hc
  change asB (ev sl c) (fun t => br t (enter H f b.m0 x (exec P H f b.m0 G LP x K) sl B) (enter H f b.m0 y (exec P H f b.m0 G LP y K) sl B)) = some r at he
  obtain ⟨t, ht, he⟩ := Zqz he
  have hv : a.eval c = .bool t := by
   obtain ⟨S, β, hg, _⟩ := h
   have := hg.ev c
   rw [ht] at this
   exact Z5h this
  refine wp_cond hv ?_
  cases t with
  | true =>
   obtain ⟨sl', B', hk, ha⟩ := Zis (k := exec P H f b.m0 G LP x K) he h
   exact ihx K sl' B' a w hc.1 hk ha
  | false =>
   obtain ⟨sl', B', hk, ha⟩ := Zis (k := exec P H f b.m0 G LP y K) he h
   exact ihy K sl' B' a w hc.2 hk ha
 | block id c ih =>
  intro K sl B a w hc he h
  refine wp_block (wp_mono (ih (kblk id K) sl B a w hc he h) ?_)
  intro e a w hq
  cases e with
  | exit i =>
   obtain ⟨sl', B', hk, ha⟩ := hq
   change (if i = id then K .normal sl' B' else K (.exit i) sl' B') = some r at hk
   show if i = id then _ else _
   split at hk
   ·rename_i e; rw [if_pos e]; exact ⟨sl', B', hk, ha⟩
   ·rename_i e; rw [if_neg e]; exact ⟨sl', B', hk, ha⟩
  | normal => exact hq
  | ret => exact hq
  | goto l => exact hq.elim
  | panic ch => exact hq.elim
  | outgrown => exact hq.elim
 | loop c _ =>
  intro K sl B a w hc he h
  exact ZAV (hL f b.m0 c K sl B r b a w hI hc rfl he h)
 | exit id => intro K sl B a w _ he h; exact wp_exit ⟨sl, B, he, h⟩
 | scope c ih =>
  intro K sl B a w hc he h
  refine wp_scope_straight (wp_mono (ih K sl B a w hc he h) ?_)
  intro e a w hq
  cases e with
  | goto l => exact hq.elim
  | _ => exact hq
 | label l => intro K sl B a w _ he h; exact wp_label ⟨sl, B, he, h⟩
 | ret => intro K sl B a w _ he h; exact wp_ret ⟨sl, B, he, h⟩
 | _ => intro K sl B a w _ he h; simp [exec] at he
end Go.Abs
end
