/- The evaluator: operations in a row, drawn orders, loops. No condition. -/
import Derived.Test.YtocikhhkicahoaaDoorEvB
import Derived.Scope

set_option linter.unusedSimpArgs false
set_option linter.unusedVariables false
set_option linter.defProp false
section
namespace Go.Abs
open Go
def wk (H:Hints) (f:FuncId) (o:Oper):List Operand :=
 match o.op with
 | .move x | .assign x | .extract x _ => if Z8s H f o.dst then [x] else []
 | .box _ x => [x]
 | .slice _ x _ _ _ => if Z8s H f o.dst then [x] else []
 | .store _ _ x => [x]
 | .mapUpdate _ _ _ x => [x]
 | .insert _ _ _ x => [x]
 | .convert s d x => match Nat.beq s d with | true => [x] | false => []
 | .call c =>
  match c.callee with
  | .builtin .append => match c.args.toList with
   | [x,_] => [x]
   | _ => []
  | .value (.func g) => if H.raw g then c.args.toList else []
  | _ => []
 | _ => []
section
variable (P:Program) (H:Hints) (f:FuncId) (G:GF)
noncomputable def Fop (o:Oper) (sl:Sl) (B:List Row):Option (AV × List Row):=stepOp P H f G o sl B fun v _ B => some (v,B)
theorem Z3u {α β γ:Type} (x:Option α) (k:α → Option β) (k':β → Option γ):ob (ob x k) k' = ob x fun a => ob (k a) k':=by cases x <;> rfl
theorem Z22 {α β:Type} (a:α) (k:α → Option β):ob (some a) k = k a:=rfl
theorem ZbA {α β:Type} (k:α → Option β):ob (none:Option α) k = none:=rfl
theorem Zl4 {α β:Type} (c:Prop) [Decidable c] (x y:Option α) (k:α → Option β):ob (if c then x else y) k = if c then ob x k else ob y k:=by split <;> rfl
theorem ZID {α β:Type} (c:Bool) (x y:Option α) (k:α → Option β):ob (br c x y) k = br c (ob x k) (ob y k):=by cases c <;> rfl
theorem ZHH {α β:Type} (x:AV) (j:Bool → Option α) (k:α → Option β):ob (asB x j) k = asB x fun b => ob (j b) k:=by
 unfold asB hi
 split <;> rfl
theorem ZEv (x:AV) (B:List Row) (j:AV → List Row → Option Res) (k:Res → Option Res):ob (bx x B j) k = bx x B fun v B => ob (j v B) k:=by
 unfold bx; split <;> rfl
theorem ZHI (l:List (Nat × Nat)) (x:AV) (B:List Row) (j:AV → List Row → Option Res) (k:Res → Option Res):ob (bxM l x B j) k = bxM l x B fun v B => ob (j v B) k:=by
 cases l with
 | nil => exact ZEv x B j k
 | cons q l => unfold bxM; simp only; split <;> rfl
theorem ZIE {α:Type} (P:Program) (t:TypeId) (B:List Row) (j:AV → List Row → Option Res) (k:Res → Option Res):ob (bz P t B j) k = bz P t B fun v B => ob (j v B) k:=by
 unfold bz; rw [Z3u]; congr; funext z; exact ZEv z B j k
theorem ZHJ (n:Nat) (a x:AV) (B:List Row) (j:List Row → Option Res) (k:Res → Option Res):ob (stN n a x B j) k = stN n a x B fun B => ob (j B) k:=by
 unfold stN
 split
 ·rw [Z3u]
  congr
  funext row
  simp only
  split <;> rfl
 ·rfl
theorem ZCe {β γ:Type} (x:AV) (j:Int → Option β) (k:β → Option γ):ob (asK x j) k = asK x fun n => ob (j n) k:=by
 unfold asK
 split <;> rfl
theorem Zxm (P:Program) (t:TypeId) (a b x:AV) (B:List Row) (j:List Row → Option Res) (k:Res → Option Res):ob (xupd P t a b x B j) k = xupd P t a b x B fun B => ob (j B) k:=by
 unfold xupd
 rw [Z3u]; congr; funext e
 rw [Z3u]; congr; funext q
 rw [ZCe]; congr; funext n
 rw [Z3u]; congr; funext y
 split <;> rfl
theorem ZF3 (P:Program) (t:TypeId) (a b:AV) (B:List Row) (j:List Row → Option Res) (k:Res → Option Res):ob (xdel P t a b B j) k = xdel P t a b B fun B => ob (j B) k:=by
 unfold xdel
 rw [Z3u]; congr; funext e
 rw [Z3u]; congr; funext q
 rw [ZCe]
theorem ZDB (P:Program) (t:TypeId) (B:List Row) (j:AV → List Row → Option Res) (k:Res → Option Res):ob (xmake P t B j) k = xmake P t B fun v B => ob (j v B) k:=by
 unfold xmake
 rw [Z3u]
theorem ZDA (x:AV) (B:List Row) (j:AV → List Row → Option Res) (k:Res → Option Res):ob (ldOwn x B j) k = ldOwn x B fun v B => ob (j v B) k:=by
 unfold ldOwn
 split
 ·rw [Z3u]; congr; funext row; rw [Zl4,Z3u]; rfl
 ·rfl
theorem ZF2 (x:AV) (B:List Row) (j:AV → List Row → Option Res) (k:Res → Option Res):ob (ldFz x B j) k = ldFz x B fun v B => ob (j v B) k:=by
 unfold ldFz
 split
 ·rw [Z3u]; congr; funext row; rw [Zl4,Z3u]
  congr
  funext c
  split <;> rfl
 ·rfl
theorem Zpd (raw:Bool) (g:FuncId) (args:List AV) (B:List Row) (j:AV → List Row → Option Res) (k:Res → Option Res):ob (callS raw G g args B j) k = callS raw G g args B fun v B => ob (j v B) k:=by
 unfold callS
 simp only
 split
 ·rfl
 ·rw [Z3u]; congr; funext r; split <;> rfl
theorem ZCf {α β:Type} (c:Bool) (x:Option α) (k:α → Option β):ob (grd c x) k = grd c (ob x k):=by unfold grd hi; cases c <;> rfl
theorem ZDy (near raw:Bool) (g:FuncId) (args:List AV) (B:List Row) (j:AV → List Row → Option Res) (k:Res → Option Res):ob (callQ near raw G g args B j) k = callQ near raw G g args B fun v B => ob (j v B) k:=by
 cases near with
 | false => exact Zpd G _ _ _ _ _ _
 | true =>
  show ob (Zjz raw G g args B j) k = Zjz raw G g args B fun v B => ob (j v B) k
  unfold Zjz
  rw [ZCf,Zpd]
  congr
  funext v B'
  rw [ZCf]
theorem ZDz (x:AV) (args:List AV) (B:List Row) (j:AV → List Row → Option Res) (k:Res → Option Res):ob (callV H G x args B j) k = callV H G x args B fun v B => ob (j v B) k:=by
 unfold callV
 split
 ·split
  ·rfl
  ·exact Zpd G _ _ _ _ _ _
 ·rfl
theorem Zat (o:Oper) (sl:Sl) (B:List Row) (K:AV → Sl → List Row → Option Res) :
  stepOp P H f G o sl B K = ob (Fop P H f G o sl B) fun q => K q.1 (weakL sl (wk H f o)) q.2:=by
 unfold Fop stepOp wk
 rcases o with ⟨dst,op,ty,pos,after,guard⟩
 cases op with
 | makeFunc fn a b => cases fn <;> rfl
 | binOp op t x y yt =>
  cases y with
  | const c => simp only; split <;> simp only [Z3u,Z22,weakL]
  | _ => simp only [Z3u,Z22,weakL]
 | call c =>
  rcases c with ⟨cal,args,ats⟩
  cases cal with
  | builtin b =>
   cases b with
   | len =>
    simp only
    split
    ·split <;> simp only [Z3u,Z22,weakL]
    ·rfl
   | delete =>
    simp only
    split
    ·simp only [ZF3,Z22,weakL]
    ·rfl
   | append =>
    simp only
    split
    ·rename_i h1 h2
     simp only [h1]
     split <;> simp only [Z3u,Z22,ZbA,weakL]
    ·rfl
   | max => simp only [Z3u,Z22,weakL]
   | min => simp only [Z3u,Z22,weakL]
   | _ => rfl
  | value x =>
   cases x with
   | func g =>
    simp only
    split
    ·rfl
    ·rw [ZDy]
     simp only [Z22]
     split <;> rfl
   | _ =>
    simp only
    rw [ZDz]
    rfl
  | invoke r m => rfl
 | makeMap t r =>
  cases r with
  | none => simp only [ZDB,Z22,weakL]
  | some r => rfl
 | mapUpdate t m k x => simp only [Zxm,Z22,weakL]
 | insert t m k x => simp only [Zxm,Z22,weakL]
 | move x => simp only; split <;> rfl
 | assign x => simp only; split <;> rfl
 | extract x i =>
  simp only [Z3u]
  congr
  funext v
  split <;> rfl
 | load t a =>
  simp only
  split
  ·simp only [Z3u,Zl4,ZbA,ZDA,Z22,weakL]
  ·split
   ·simp only [Z3u,Zl4,ZbA,ZF2,Z22,weakL]
   ·simp only [Z3u,Z22,weakL]
 | pick c a b => simp only [ZHH,ZID,Z22,weakL]
 | store t a x => simp only [Z3u,ZHJ,Z22,weakL]
 | box t x => simp only [ZHI,Z22,weakL]
 | convert s d x => simp only; generalize Nat.beq s d = q; cases q <;> simp only [Z3u,Z22,weakL]
 | alloc t => simp only [ZIE (α:=Unit),Z22,weakL]
 | slice t x lo hi mx =>
  simp only
  split
  ·simp only [Z3u,Z22,weakL]
  ·simp only [Zl4,Z3u,Z22,ZbA,weakL]
 | field s x fd => simp only; split <;> simp only [Z3u,Z22,ZbA,weakL]
 | indexAddr t x i => simp only; repeat' split <;> simp only [Z3u,Z22,ZbA,weakL]
 | _ => first | rfl | simp only [Z3u,Z22,weakL]
def Eqv (sl sl':Sl):Prop:=∀ t,get sl t = get sl' t
theorem Eqv.refl (sl:Sl):Eqv sl sl:=fun _ => rfl
theorem Eqv.symm {sl sl':Sl} (h:Eqv sl sl'):Eqv sl' sl:=fun t => (h t).symm
theorem Eqv.trans {sl sl' sl2:Sl} (h:Eqv sl sl') (k:Eqv sl' sl2):Eqv sl sl2:=fun t => (h t).trans (k t)
theorem Eqv.ev {sl sl':Sl} (h:Eqv sl sl') (x:Operand):ev sl x = ev sl' x:=by
 cases x with
 | tmp t => exact h t
 | const v =>
  cases v with
  | slice a n m => cases a with
   | none => cases n <;> cases m <;> rfl
   | some _ => rfl
  | _ => rfl
 | global g => rfl
 | func g => rfl
theorem Eqv.put {sl sl':Sl} (h:Eqv sl sl') (d:Option Tmp) (v:AV):Eqv (Go.Abs.put sl d v) (Go.Abs.put sl' d v):=by
 intro t
 cases d with
 | none => exact h t
 | some d => show get ((d,v) :: sl) t = get ((d,v) :: sl') t; rw [Z1Z,Z1Z,h t]
theorem Eqv.weak {sl sl':Sl} (h:Eqv sl sl') (x:Operand):Eqv (Go.Abs.weak sl x) (Go.Abs.weak sl' x):=by
 intro t
 cases x with
 | tmp u => show get ((u,shr (get sl u)) :: sl) t = get ((u,shr (get sl' u)) :: sl') t; rw [Z1Z,Z1Z,h t,h u]
 | _ => exact h t
theorem Eqv.weakL:∀ (l:List Operand) {sl sl':Sl},Eqv sl sl' → Eqv (Go.Abs.weakL sl l) (Go.Abs.weakL sl' l)
 | [],_,_,h => h
 | x :: r,_,_,h => Eqv.weakL r (h.weak x)
theorem ZwE {x y:AV} (h:x = y) {a b:List AV} (h':a = b) {G:GF} {B:List Row} {k:AV → List Row → Option Res}:callV H G x a B k = callV H G y b B k:=by rw [h,h']
theorem Za1 (o:Oper) (sl sl':Sl) (B:List Row) (h:∀ y,y ∈ o.op.operands → ev sl y = ev sl' y):Fop P H f G o sl B = Fop P H f G o sl' B:=by
 have evsE:∀ (xs:Array Operand),(∀ y,y ∈ xs → ev sl y = ev sl' y) → evs sl xs = evs sl' xs:=by
  intro xs hx
  unfold evs
  exact Znn fun y hy => hx y (by simpa using hy)
 have evpE:∀ (ps:Array (Nat × Operand)),(∀ y,y ∈ (ps.toList.map (·.2)).toArray → ev sl y = ev sl' y) → (ps.toList.map fun q => (q.1,ev sl q.2)) = ps.toList.map fun q => (q.1,ev sl' q.2):=by
  intro ps hx
  refine Znn fun q hq => ?_
  rw [hx q.2 (by simp only [List.mem_toArray]; exact Z7a.2 ⟨q,hq,rfl⟩)]
 have evoE:∀ (x:Option Operand),(∀ y,y ∈ x.toArray → ev sl y = ev sl' y) → evo sl x = evo sl' x:=by
  intro x hx
  cases x with
  | none => rfl
  | some y => show some _ = some _; rw [hx y (by simp)]
 rcases o with ⟨dst,op,ty,pos,after,guard⟩
 unfold Fop stepOp
 cases op <;> simp only [Op.operands] at h <;> simp only []
 case move x => rw [h x (by simp)]
 case assign x => rw [h x (by simp)]
 case pick c a b => rw [h c (by simp),h a (by simp),h b (by simp)]
 case box t x => rw [h x (by simp)]
 case build t ps => rw [evpE ps h]
 case buildSlice t n ps => rw [evpE ps h]
 case load t x => rw [h x (by simp)]
 case store t x y => rw [h x (by simp),h y (by simp)]
 case nilCheck x => rw [h x (by simp)]
 case binOp op t x y yt => rw [h x (by simp),h y (by simp)]
 case unOp op t x => rw [h x (by simp)]
 case convert s d x => rw [h x (by simp)]
 case makeFunc fn a b =>
  cases fn with
  | func g => simp only; rw [evsE a fun y hy => h y (by simp [hy]),evsE b fun y hy => h y (by simp [hy])]
  | _ => rfl
 case slice t x lo hi mx =>
  rw [h x (by simp),evoE lo fun y hy => h y (by simp at hy; simp [hy]),evoE hi fun y hy => h y (by simp at hy; simp [hy]),evoE mx fun y hy => h y (by simp at hy; simp [hy])]
 case fieldAddr s x fd => rw [h x (by simp)]
 case field s x fd => rw [h x (by simp)]
 case indexAddr t x i => rw [h x (by simp),h i (by simp)]
 case extract x i => rw [h x (by simp)]
 case index t x i => rw [h x (by simp),h i (by simp)]
 case makeMap t r => cases r <;> rfl
 case lookup t x i c => rw [h x (by simp),h i (by simp)]
 case mapUpdate t m k x => rw [h m (by simp),h k (by simp),h x (by simp)]
 case insert t m k x => rw [h m (by simp),h k (by simp),h x (by simp)]
 case call c =>
  rcases c with ⟨cal,args,ats⟩
  simp only [Call.operands] at h
  have hargs:evs sl args = evs sl' args:=evsE args fun y hy => h y (by simp [hy])
  cases cal with
  | builtin b =>
   cases b with
   | len =>
    simp only
    split
    ·rename_i x t h1 h2
     have hx:x ∈ args:=by rw [Ziq h1]; simp
     rw [h x (by simp [hx])]
    ·rfl
   | append =>
    simp only
    split
    ·rename_i x y t t' h1 h2
     have hx:x ∈ args:=by rw [Zau h1]; simp
     have hy:y ∈ args:=by rw [Zau h1]; simp
     rw [h x (by simp [hx]),h y (by simp [hy])]
    ·rfl
   | delete =>
    simp only
    split
    ·rename_i x y t t' h1 h2
     have hx:x ∈ args:=by rw [Zau h1]; simp
     have hy:y ∈ args:=by rw [Zau h1]; simp
     rw [h x (by simp [hx]),h y (by simp [hy])]
    ·rfl
   | max => simp only; rw [hargs]
   | min => simp only; rw [hargs]
   | _ => rfl
  | value x =>
   cases x with
   | func g => simp only; rw [hargs]
   | _ =>
    simp only
    exact ZwE H (h _ (by simp)) hargs
  | invoke r m => rfl
def want (ops:Array Oper) (o:Oper) (sl:Sl):Option Bool :=
 match o.guard with
 | none => some true
 | some (j,w) =>
  match (ops[j]?).bind (·.dst) with
  | none => none
  | some d =>
   match get sl d with
   | .p (.v (.bool b)) => some (b == w)
   | .p (.tup []) => some false
   | _ => none
def Tr (ops:Array Oper) (o:Oper) (sl:Sl) (B:List Row) (sl':Sl) (B':List Row):Prop :=
 (want ops o sl = some true ∧ ∃ v,Fop P H f G o sl B = some (v,B') ∧ Eqv sl' (put (weakL sl (wk H f o)) o.dst v)) ∨ (want ops o sl = some false ∧ B' = B ∧ Eqv sl' (put sl o.dst ud))
variable {P H f G}
theorem Tr.congr {ops:Array Oper} {o:Oper} {sl sl' sl2:Sl} {B B':List Row} (h:Tr P H f G ops o sl B sl' B') (he:Eqv sl2 sl):Tr P H f G ops o sl2 B sl' B':=by
 have hw:want ops o sl2 = want ops o sl:=by
  unfold want
  split
  ·rfl
  ·split
   ·rfl
   ·rw [he]
 rcases h with ⟨h1,v,h2,h3⟩ | ⟨h1,h2,h3⟩
 ·exact .inl ⟨by rw [hw]; exact h1,v,by rw [Za1 P H f G o sl2 sl B fun y _ => he.ev y]; exact h2,h3.trans (Eqv.put (Eqv.weakL _ he.symm) _ _)⟩
 ·exact .inr ⟨by rw [hw]; exact h1,h2,h3.trans (he.symm.put _ _)⟩
theorem ZjG {sl:Sl} {d:Nat} {b:Bool} (h:get sl d = .p (.v (.bool b))):Eqv ((d,.p (.v (.bool b))) :: sl) sl:=by
 intro t
 rw [Z1Z]
 split
 ·rename_i e; subst e; exact h.symm
 ·rfl
theorem ZwY {ops:Array Oper} {o:Oper} {os:List Oper} {K:Sl → List Row → Option Res} {i:Nat} {sk:List Nat} {sl:Sl} {B:List Row} {r:Res} (h:runOps P H f G ops (o :: os) K i sk sl B = some r) :
  ∃ i' sk' sl' B',Tr P H f G ops o sl B sl' B' ∧ runOps P H f G ops os K i' sk' sl' B' = some r:=by
 change guarded ops sk o.guard sl (fun sl => stepOp P H f G o sl B fun v sl B => runOps P H f G ops os K (i + 1) sk (put sl o.dst v) B) (fun sl => runOps P H f G ops os K (i + 1) (i :: sk) (put sl o.dst ud) B) = some r at h
 have yes:∀ sl0,Eqv sl0 sl → want ops o sl = some true → stepOp P H f G o sl0 B (fun v sl B => runOps P H f G ops os K (i + 1) sk (put sl o.dst v) B) = some r →
   ∃ i' sk' sl' B',Tr P H f G ops o sl B sl' B' ∧ runOps P H f G ops os K i' sk' sl' B' = some r:=by
  intro sl0 he hw hs
  rw [Zat] at hs
  obtain ⟨q,hq,hk⟩:=ZR hs
  refine ⟨_,_,_,_,.inl ⟨hw,q.1,?_,?_⟩,hk⟩
  ·rw [← Za1 P H f G o sl0 sl B fun y _ => he.ev y]
   exact hq
  ·exact Eqv.put (Eqv.weakL _ he) _ _
 have no:∀ sl0,Eqv sl0 sl → want ops o sl = some false → runOps P H f G ops os K (i + 1) (i :: sk) (put sl0 o.dst ud) B = some r →
   ∃ i' sk' sl' B',Tr P H f G ops o sl B sl' B' ∧ runOps P H f G ops os K i' sk' sl' B' = some r:=by
  intro sl0 he hw hs
  exact ⟨_,_,_,_,.inr ⟨hw,rfl,he.put _ _⟩,hs⟩
 unfold guarded at h
 split at h
 ·rename_i hg
  exact yes sl (.refl _) (by unfold want; rw [hg]) h
 ·rename_i j w hg
  split at h
  ·simp at h
  ·rename_i d hd
   split at h
   ·unfold udK at h
    split at h
    ·rename_i hu
     have hw:want ops o sl = some false:=by
      unfold want
      simp only [hg,hd,hu]
     exact no sl (.refl _) hw h
    ·simp at h
   ·obtain ⟨b,hb,h⟩:=ZoN h
    have hw:want ops o sl = some (b == w):=by
     unfold want
     simp only [hg,hd,hb]
    unfold br hi at h
    split at h
    ·rename_i hbt
     have hbt:b = true:=hbt
     subst hbt
     cases w with
     | true => exact yes _ (ZjG hb) hw h
     | false => exact no _ (ZjG hb) hw h
    ·rename_i hbf
     have hbf:b = false:=by simpa using hbf
     subst hbf
     cases w with
     | true => exact no _ (ZjG hb) hw h
     | false => exact yes _ (ZjG hb) hw h
end
end Go.Abs
end
section
namespace Go.Abs
open Go
structure Base where
 nt:Nat
 m0:Nat
 n:Nat
 w:World
 S:Stay
 β:Nat → Nat
 U:Nat → Prop
def At (b:Base) (sl:Sl) (B:List Row) (a:Act) (w:World):Prop :=
 ∃ S β,Good b.nt w S β sl B a ∧ Step b.m0 b.w b.S b.β b.n b.U w S β B.length (UB (Here b.nt sl a.tmps B β w))
theorem Step.less {m0:Nat} {w:World} {S:Stay} {β:Nat → Nat} {n:Nat} {U:Nat → Prop} {w':World} {S':Stay} {β':Nat → Nat} {n':Nat} {U' U2:Nat → Prop} (h:Step m0 w S β n U w' S' β' n' U')
  (hU:∀ b,U2 b → U' b):Step m0 w S β n U w' S' β' n' U2:={ h with uns:=fun b hb => h.uns b (hU b hb) }
theorem Good.eqv {nt:Nat} {w:World} {S:Stay} {β:Nat → Nat} {sl sl':Sl} {B:List Row} {a:Act} (h:Good nt w S β sl B a) (e:Eqv sl' sl):Good nt w S β sl' B a :=
 h.reslot (fun t _ => .inl (e t)) (fun t ht => (e t).trans (h.high t ht))
theorem At.eqv {b:Base} {sl sl':Sl} {B:List Row} {a:Act} {w:World} (h:At b sl B a w) (e:Eqv sl' sl):At b sl' B a w:=by
 obtain ⟨S,β,h1,h2⟩:=h
 exact ⟨S,β,h1.eqv e,h2.less fun b hb => UB.reslot (fun t _ => .inl (e t)) b hb⟩
section
variable {P:Program} {H:Hints} {f:FuncId} {G:GF} {b:Base} {ops:Array Oper} {sl sl':Sl} {B B':List Row} {a:Act} {w:World} {Q:Exit → Act → World → Prop}
theorem ZxD {nt:Nat} {S:Stay} {β:Nat → Nat} {o:Oper} {c:Bool} (h:Good nt w S β sl B a) (hw:want ops o sl = some c):Region.wanted o (yielded ops a.tmps) = c:=by
 unfold want at hw
 unfold Region.wanted
 split at hw
 ·rename_i hg
  simp only [q1_] at hw
  rw [hg]
  exact hw
 ·rename_i j k hg
  simp only [hg]
  split at hw
  ·simp at hw
  ·rename_i d hd
   split at hw
   ·rename_i x hx
    simp only [q1_] at hw
    have hdn:d < nt:=by
     rcases Z9X d nt with h1 | h1
     ·exact h1
     ·rw [h.high d h1] at hx
      simp [jk] at hx
    have hr:=h.slots d hdn
    rw [hx] at hr
    have hv:=Z5b hr
    have hds:d < a.tmps.size:=by rw [h.size]; exact hdn
    have hget:a.tmps[d]? = some (.bool x):=by
     rw [← hv]
     simp [hds]
    unfold yielded
    rw [hd]
    simp only [q0_,hget]
    rw [← hw]
    cases x <;> cases k <;> rfl
   ·rename_i hx
    simp only [q1_] at hw
    have hdn:d < nt:=by
     rcases Z9X d nt with h1 | h1
     ·exact h1
     ·rw [h.high d h1] at hx
      simp [jk] at hx
    have hr:=h.slots d hdn
    rw [hx] at hr
    have hv:a.tmps.getD d undef = .tuple #[]:=by
     generalize a.tmps.getD d undef = u at hr
     cases hr with
     | p _ _ hp =>
      cases hp with
      | tup _ arr h1 _ _ =>
       congr 1
       exact Array.size_eq_zero_iff.1 (by simpa using h1)
    have hds:d < a.tmps.size:=by rw [h.size]; exact hdn
    have hget:a.tmps[d]? = some (.tuple #[]):=by
     rw [← hv]
     simp [hds]
    unfold yielded
    rw [hd]
    simp only [q0_,hget]
    rw [← hw]
    cases k <;> rfl
   ·simp at hw
theorem Zwr {I:Inv} (hp:Pers I) (hI:I b.w b.S) (hF:Z90 P I G) {o:Oper} (hd:∀ t,o.dst = some t → t < b.nt) (ht:Tr P H f G ops o sl B sl' B') (h:At b sl B a w) :
  if Region.wanted o (yielded ops a.tmps) = true then o.wp P a w (At b sl' B') Q else At b sl' B' (a.put o.dst undef) w:=by
 obtain ⟨S,β,hg,hst⟩:=h
 rcases ht with ⟨h1,v,h2,h3⟩ | ⟨h1,rfl,h3⟩
 ·rw [if_pos (ZxD hg h1)]
  have hk:stepOp P H f G o sl B (fun v sl2 B2 => open Classical in if Eqv sl' (put sl2 o.dst v) ∧ B2 = B' then some (jk,[]) else none) = some (jk,[]):=by
   rw [Zat,h2]
   exact if_pos ⟨h3,rfl⟩
  refine Oper.wp_mono ?_ (Zri (m0:=b.m0) (Q:=Q) hg hd (hp _ _ _ _ hst.keeps hI) hF hk)
  rintro a' w' ⟨x,sl2,B2,S',β',q1,q2,q3⟩
  simp only at q1
  split at q1
  ·rename_i hc
   obtain ⟨e,rfl⟩:=hc
   exact ⟨S',β',q2.eqv e,hst.trans (q3.less fun b hb => UB.reslot (fun t _ => .inl (e t)) b hb)⟩
  ·simp at q1
 ·rw [if_neg (by rw [ZxD hg h1]; simp)]
  have hud:ARel w S β B'.length ud undef:=.p _ _ (.tup [] #[] rfl (by simp) (by simp))
  refine ⟨S,β,(hg.put hd hud rfl).eqv h3,hst.less fun b hb => ?_⟩
  exact UB.put hg.size hd (x:=ud) rfl b (UB.reslot (fun t _ => .inl (h3 t)) b hb)
def Run (P:Program) (H:Hints) (f:FuncId) (G:GF) (ops:Array Oper):List Nat → Sl → List Row → Sl → List Row → Prop
 | [],sl,B,sl',B' => Eqv sl' sl ∧ B' = B
 | i :: l,sl,B,sl',B' => ∃ o sl1 B1,ops[i]? = some o ∧ Tr P H f G ops o sl B sl1 B1 ∧ Run P H f G ops l sl1 B1 sl' B'
theorem Run.congr {l:List Nat} {sl2:Sl} (h:Run P H f G ops l sl B sl' B') (e:Eqv sl2 sl):Run P H f G ops l sl2 B sl' B':=by
 cases l with
 | nil => exact ⟨h.1.trans e.symm,h.2⟩
 | cons i l =>
  obtain ⟨o,sl1,B1,q1,q2,q3⟩:=h
  exact ⟨o,sl1,B1,q1,q2.congr e,q3⟩
theorem ZhE {K:Sl → List Row → Option Res} {r:Res}:∀ (os:List Oper) (k i:Nat) (sk:List Nat) (sl:Sl) (B:List Row),(∀ j,j < os.length → os[j]? = ops[k + j]?) → runOps P H f G ops os K i sk sl B = some r →
  ∃ slF BF,Run P H f G ops (List.range' k os.length) sl B slF BF ∧ K slF BF = some r
 | [],k,i,sk,sl,B,_,h => ⟨sl,B,⟨.refl _,rfl⟩,h⟩
 | o :: os,k,i,sk,sl,B,hl,h => by
  obtain ⟨i',sk',sl1,B1,ht,h1⟩:=ZwY h
  obtain ⟨slF,BF,h2,h3⟩:=ZhE os (k + 1) i' sk' sl1 B1 (fun j hj => by
   have:=hl (j + 1) (by simpa using hj)
   rw [Zhz] at this
   rw [this]
   congr 1
   omega) h1
  refine ⟨slF,BF,?_,h3⟩
  have h0:=hl 0 (by simp)
  exact ⟨o,sl1,B1,by simpa using h0.symm,ht,h2⟩
theorem ZnB {I:Inv} (hp:Pers I) (hI:I b.w b.S) (hF:Z90 P I G) (hd:∀ (i:Nat) (o:Oper) (t:Tmp),ops[i]? = some o → o.dst = some t → t < b.nt) {slF:Sl} {BF:List Row}:∀ (l:List Nat) (sl:Sl) (B:List Row) (a:Act) (w:World),
  Run P H f G ops l sl B slF BF → At b sl B a w → (∀ a w,At b slF BF a w → Q .normal a w) → wpOps P ops Q l a w
 | [],sl,B,a,w,hr,h,hQ => by
  obtain ⟨e,rfl⟩:=hr
  exact hQ a w (h.eqv e)
 | i :: l,sl,B,a,w,hr,h,hQ => by
  obtain ⟨o,sl1,B1,q1,q2,q3⟩:=hr
  have:=Zwr (Q:=Q) hp hI hF (fun t ht => hd i o t q1 ht) q2 h
  simp only [wpOps,q1]
  split at this
  ·rename_i hw
   rw [if_pos hw]
   exact .inl (Oper.wp_mono (fun a w ha => ZnB hp hI hF hd l sl1 B1 a w q3 ha hQ) this)
  ·rename_i hw
   rw [if_neg hw]
   exact ZnB hp hI hF hd l sl1 B1 _ w q3 this hQ
theorem Zwe {I:Inv} (hp:Pers I) (hI:I b.w b.S) (hF:Z90 P I G) (hd:∀ (i:Nat) (o:Oper) (t:Tmp),ops[i]? = some o → o.dst = some t → t < b.nt) {id:Nat} {K:Sl → List Row → Option Res} {r:Res} (hk:runOps P H f G ops ops.toList K 0 [] sl B = some r)
  (h:At b sl B a w) (hQ:∀ sl B a w,K sl B = some r → At b sl B a w → Q .normal a w):(Code.region id ops false).wp P Q a w:=by
 obtain ⟨slF,BF,h1,h2⟩:=ZhE ops.toList 0 0 [] sl B (fun j _ => by simp) hk
 refine wp_region ?_
 rw [Ztd]
 exact ZnB hp hI hF hd _ sl B a w h1 h fun a w ha => hQ slF BF a w h2 ha
end
end Go.Abs
end
section
namespace Go.Abs
open Go
section
variable {P:Program} {H:Hints} {f:FuncId} {G:GF} {o:Oper} {sl:Sl} {B:List Row}
def Free (P:Program) (H:Hints) (f:FuncId) (G:GF) (o:Oper) (sl:Sl):Prop:=∃ x:Option AV,∀ B,Fop P H f G o sl B = x.map fun v => (v,B)
def Z7X (P:Program) (H:Hints) (f:FuncId) (G:GF) (o:Oper) (sl:Sl) (id:Nat) (rd:Bool):Prop :=
 ∃ φ:Row → Option (AV × Row),(∀ B,Fop P H f G o sl B = B[id]?.bind fun row => (φ row).map fun q => (q.1,B.set id q.2)) ∧ (rd = true → ∀ row q,φ row = some q → q.2 = row)
def News (P:Program) (H:Hints) (f:FuncId) (G:GF) (o:Oper) (sl:Sl):Prop:=∃ x:Option Row,∀ B,Fop P H f G o sl B = x.map fun row => (.ptr B.length 0,B ++ [row])
theorem Z4Z {α:Type} (y:Option α) (g:α → AV) {F:List Row → Option Res} (h:∀ B,F B = ob y fun a => some (g a,B)):∃ x:Option AV,∀ B,F B = x.map fun v => (v,B):=by
 refine ⟨y.map g,fun B => ?_⟩
 rw [h]
 cases y <;> rfl
theorem ZHC {α:Type} {a b:Bool} (h:a = true ∨ b = false) (x y z:α):(if a = true then x else if b = true then y else z) = if a = true then x else z:=by
 rcases h with rfl | rfl
 ·rfl
 ·simp
theorem Z4j {F:List Row → Option Res} (h:∀ B,F B = none):∃ x:Option AV,∀ B,F B = x.map fun v => (v,B):=⟨none,fun B => by rw [h]; rfl⟩
theorem ZgK (v:AV) {F:List Row → Option Res} (h:∀ B,F B = some (v,B)):∃ x:Option AV,∀ B,F B = x.map fun v => (v,B):=⟨some v,fun B => by rw [h]; rfl⟩
theorem Ztm (h:cls P H f o = .free):Free P H f G o sl:=by
 rcases o with ⟨dst,op,ty,pos,after,guard⟩
 unfold cls at h
 unfold Free Fop stepOp
 cases op <;> simp only at h ⊢
 case move x => split <;> exact ZgK _ fun _ => rfl
 case assign x => split <;> exact ZgK _ fun _ => rfl
 case pick c a b =>
  unfold asB hi
  split
  ·rename_i t _
   cases t
   ·exact ZgK _ fun _ => rfl
   ·exact ZgK _ fun _ => rfl
  ·exact Z4j fun _ => rfl
 case alloc t => exact absurd h (by simp)
 case box t x => exact absurd h (by simp)
 case build t ps => exact Z4Z _ (fun v => v) fun _ => rfl
 case buildSlice t n ps => exact Z4Z _ (fun v => if Z8s H f dst then unOf v else v) fun _ => rfl
 case load t a =>
  split at h
  ·simp at h
  ·split at h <;> simp at h
 case store t a x => exact absurd h (by simp)
 case nilCheck x => exact Z4Z _ (fun v => v) fun _ => rfl
 case binOp op t x y yt =>
  cases y with
  | const c => simp only; split <;> exact Z4Z _ (fun v => v) fun _ => rfl
  | _ => exact Z4Z _ (fun v => v) fun _ => rfl
 case unOp op t x => exact Z4Z _ (fun v => v) fun _ => rfl
 case convert s d x => split <;> exact Z4Z _ (fun v => v) fun _ => rfl
 case makeFunc fn a b =>
  cases fn with
  | func g => exact ZgK _ fun _ => rfl
  | _ => exact Z4j fun _ => rfl
 case slice t x lo hi mx =>
  split
  ·exact Z4Z _ (fun v => v) fun _ => rfl
  split
  ·split
   ·exact Z4j fun _ => rfl
   ·exact Z4Z _ (fun v => v) fun _ => rfl
  ·split
   ·exact Z4j fun _ => rfl
   ·exact Z4Z _ (fun v => v) fun _ => rfl
 case fieldAddr s x fd =>
  cases Zci P s fd with
  | none => exact Z4j fun _ => rfl
  | some off => exact Z4Z (xfld off (ev sl x)) (fun v => v) fun _ => rfl
 case field s x fd =>
  split
  ·rename_i fields _
   cases fields[fd]? with
   | none => exact Z4j fun _ => rfl
   | some fl =>
    cases hs:shape P fl.type with
    | none => exact Z4j fun _ => by simp only [Z22,hs,ZbA]
    | some q => exact Z4Z (Zof q.1 fl.offset q.2 (ev sl x)) (fun v => v) fun _ => by simp only [Z22,hs]
  ·exact Z4j fun _ => rfl
 case indexAddr t x i =>
  split
  ·split
   ·exact Z4Z _ (fun v => v) fun _ => rfl
   ·exact Z4j fun _ => rfl
  ·exact Z4Z _ (fun v => v) fun _ => rfl
 case extract x i =>
  split
  ·exact Z4Z _ (fun v => v) fun _ => rfl
  ·exact Z4Z _ shr fun _ => rfl
 case call c =>
  rcases c with ⟨cal,args,ats⟩
  cases cal with
  | builtin b =>
   cases b with
   | len =>
    simp only at h ⊢
    split
    ·rename_i x t h1 h2
     have hm:mapE P t = none:=by
      have e:ats = #[t]:=Ziq h2
      subst e
      cases hm:mapE P t with
      | none => rfl
      | some e => simp [hm] at h
     simp only [hm]
     exact Z4Z _ (fun v => v) fun _ => rfl
    ·exact Z4j fun _ => rfl
   | delete => simp at h
   | append =>
    simp only
    split
    ·split
     ·exact Z4j fun _ => rfl
     ·exact Z4Z _ (fun v => v) fun _ => rfl
    ·exact Z4j fun _ => rfl
   | max => exact Z4Z _ (fun v => v) fun _ => rfl
   | min => exact Z4Z _ (fun v => v) fun _ => rfl
   | _ => exact Z4j fun _ => rfl
  | value x =>
   cases x with
   | func g =>
    simp only at h
    split at h
    ·simp at h
    ·split at h <;> simp at h
   | _ => simp at h
  | invoke r m => simp at h
 case index t x i => exact Z4Z _ (fun v => v) fun _ => rfl
 case makeMap t r => simp at h
 case lookup t x i c => simp at h
 case mapUpdate t m k x => simp at h
 case insert t m k x => simp at h
 all_goals exact Z4j fun _ => rfl
theorem ZEI (h:cls P H f o = .new):News P H f G o sl:=by
 have key:∀ z:AV,∃ x:Option Row,∀ B,bx z B (fun v B => some (v,B)) = x.map fun row => (AV.ptr B.length 0,B ++ [row]):=by
  intro z
  unfold bx
  split
  ·exact ⟨none,fun _ => rfl⟩
  ·exact ⟨some (Z2k z),fun _ => rfl⟩
 rcases o with ⟨dst,op,ty,pos,after,guard⟩
 unfold cls at h
 unfold News Fop stepOp
 cases op <;> simp only at h ⊢
 case alloc t =>
  unfold bz
  cases zeroOf P t with
  | none => exact ⟨none,fun _ => rfl⟩
  | some z => exact key z
 case box t x =>
  unfold bxM
  split
  ·exact key (ev sl x)
  ·split
   ·exact ⟨none,fun _ => rfl⟩
   ·exact ⟨some (ZaO _ (Z2k (ev sl x))),fun _ => rfl⟩
 case load t a =>
  split at h
  ·simp at h
  ·split at h <;> simp at h
 case call c =>
  rcases c with ⟨cal,args,ats⟩
  cases cal with
  | builtin b => cases b <;> simp only at h <;> first | (split at h <;> simp at h; done) | simp at h
  | value x =>
   cases x with
   | func g =>
    simp only at h
    split at h
    ·simp at h
    ·split at h <;> simp at h
   | _ => simp at h
  | _ => simp at h
 all_goals exact absurd h (by simp)
def IsAt (x:AV) (id:Nat):Prop:=(∃ off,x = .ptr id off) ∨ x = .mp id
theorem Zz0 {id:Nat} {rd:Bool} (h:∀ B,Fop P H f G o sl B = none):Z7X P H f G o sl id rd :=
 ⟨fun _ => none,fun B => by rw [h]; cases B[id]? <;> rfl,fun _ row q hq => by simp at hq⟩
theorem ZCY {t:TypeId} {x i:Operand} {c:Bool} (ho:o.op = .lookup t x i c) :
  match ev sl x with
  | .mp id => Z7X P H f G o sl id true
  | _ => ∀ B,Fop P H f G o sl B = none:=by
 have none_of:∀ y:AV,ev sl x = y → (∀ id,y ≠ .mp id) → ∀ B,Fop P H f G o sl B = none:=by
  intro y hy hne B
  unfold Fop stepOp
  simp only [ho]
  unfold Zrp ZlR
  rw [hy]
  cases mapE P t with
  | none => rfl
  | some e =>
   cases y with
   | mp id => exact absurd rfl (hne id)
   | _ => rfl
 split
 ·rename_i id heq
  refine ⟨fun row => (ob (mapE P t) fun e => ob (mdOf row) fun es => asK (ev sl i) fun n =>
    match getE es n with
    | some y => some (AV.p (if c = true then .tup [y,.v (.bool true)] else y))
    | none => ob ((P.info? e).bind (·.zero)) fun z => ob (Z8i z) fun z => ob (ZnL z) fun z => some (AV.p (if c = true then .tup [z,.v (.bool false)] else z))).map fun v => (v,row),fun B => ?_,fun _ row q hq => ?_⟩
  ·unfold Fop stepOp
   simp only [ho]
   unfold Zrp ZlR
   rw [heq]
   cases hB:B[id]? with
   | none =>
    cases mapE P t with
    | none => rfl
    | some e => simp only [hB,Z22,ZbA,Option.bind_none]
   | some row =>
    have hset:B.set id row = B:=by
     apply Zm0
     intro k
     rw [Z8u]
     split
     ·rename_i e
      subst e
      have:=(q2_.1 hB).1
      rw [if_pos this,hB]
     ·rfl
    simp only [q0_]
    cases mapE P t with
    | none => rfl
    | some e =>
     simp only [hB,Z22]
     cases mdOf row with
     | none => rfl
     | some es =>
      simp only [Z22]
      generalize hq:(asK (ev sl i) fun n =>
       match getE es n with
       | some y => some (AV.p (if c = true then .tup [y,.v (.bool true)] else y))
       | none => ob ((P.info? e).bind (·.zero)) fun z => ob (Z8i z) fun z => ob (ZnL z) fun z => some (AV.p (if c = true then .tup [z,.v (.bool false)] else z))) = q
      cases q with
      | none => rfl
      | some v => simp only [Z22,Z8O,hset]
  ·obtain ⟨v,_,rfl⟩:=q6_.1 hq
   rfl
 ·rename_i hne
  exact none_of _ rfl hne
theorem Zru (h:cls P H f o = .rd ∨ cls P H f o = .wr ∨ cls P H f o = .ol):∃ a,addrOf o = some a ∧
  match ev sl a with
  | .ptr id _ => Z7X P H f G o sl id (cls P H f o == .rd)
  | .mp id => Z7X P H f G o sl id (cls P H f o == .rd)
  | .cptr _ => Free P H f G o sl
  | _ => ∀ B,Fop P H f G o sl B = none:=by
 by_cases hlk:∃ t x i c,o.op = .lookup t x i c
 ·obtain ⟨t,x,i,c,ho⟩:=hlk
  have hc:cls P H f o = .rd:=by unfold cls; simp only [ho]
  have:=ZCY (P:=P) (H:=H) (f:=f) (G:=G) (sl:=sl) ho
  refine ⟨x,by unfold addrOf; simp only [ho],?_⟩
  split
  ·rename_i id off heq
   simp only [heq] at this
   exact Zz0 this
  ·rename_i id heq
   simp only [heq] at this
   rw [hc]
   exact this
  ·rename_i cs heq
   simp only [heq] at this
   exact Z4j this
  ·rename_i h1 h2 h3
   split at this
   ·rename_i id heq
    exact absurd heq (h2 id)
   ·exact this
 rcases o with ⟨dst,op,ty,pos,after,guard⟩
 unfold cls at h ⊢
 unfold addrOf
 cases op <;> simp only at h ⊢
 case load t a =>
  refine ⟨a,rfl,?_⟩
  have hz:Z8s H f dst = true ∨ ZqF H f dst = false:=by
   cases hown:Z8s H f dst with
   | true => exact .inl rfl
   | false =>
    cases hfz:ZqF H f dst with
    | false => exact .inr rfl
    | true => simp [hown,hfz] at h
  unfold Z7X Free Fop stepOp
  simp only [ZHC hz]
  cases hs:shape P t with
  | none =>
   split
   ·rename_i id off heq
    refine ⟨fun _ => none,fun B => ?_,fun _ row q hq => by simp at hq⟩
    split <;> (simp only [ZbA]; cases B[id]? <;> rfl)
   ·rename_i id heq
    refine ⟨fun _ => none,fun B => ?_,fun _ row q hq => by simp at hq⟩
    split <;> (simp only [ZbA]; cases B[id]? <;> rfl)
   ·split <;> exact Z4j fun _ => rfl
   ·intro B; split <;> rfl
  | some s =>
   split
   ·rename_i id off heq
    split
    ·refine ⟨fun row => if s.1 = true then none else if (mdOf row).isSome = true then none else row[off]?.map fun c => (c,row.set off (shr c)),fun B => ?_,fun e => by simp at e⟩
     simp only [Z22,heq,ldOwn]
     by_cases h1:s.1 = true
     ·simp only [if_pos h1]
      cases B[id]? <;> rfl
     ·simp only [if_neg h1]
      cases B[id]? with
      | none => rfl
      | some row =>
       simp only [Z22,q0_]
       split
       ·rfl
       ·cases row[off]? <;> rfl
    ·refine ⟨fun row => (if (mdOf row).isSome = true then none else if s.1 then (if off + s.2 ≤ row.length then some (Zfj (((row.drop off).take s.2).map shr)) else none) else ob row[off]? fun c => some (shr c)).map fun v => (v,row),fun B => ?_,fun _ row q hq => ?_⟩
     ·simp only [Z22,heq,ldN]
      cases hB:B[id]? with
      | none => rfl
      | some row =>
       have hset:B.set id row = B:=by
        apply Zm0
        intro i
        rw [Z8u]
        split
        ·rename_i e
         subst e
         have:=(q2_.1 hB).1
         rw [if_pos this,hB]
        ·rfl
       simp only [Z22,q0_]
       cases (if (mdOf row).isSome = true then none else if s.1 = true then if off + s.2 ≤ row.length then some (Zfj (List.map shr (List.take s.2 (List.drop off row)))) else none else ob row[off]? fun c => some (shr c)) with
       | none => rfl
       | some v => simp only [Z22,Z8O,hset]
     ·obtain ⟨v,_,rfl⟩:=q6_.1 hq
      rfl
   ·rename_i id heq
    refine ⟨fun _ => none,fun B => ?_,fun _ row q hq => by simp at hq⟩
    split
    ·simp only [Z22,heq,ldOwn]
     split <;> (cases B[id]? <;> rfl)
    ·simp only [Z22,heq,ldN,ZbA]
     cases B[id]? <;> rfl
   ·rename_i cs heq
    split
    ·exact Z4j fun B => by simp only [Z22,heq,ldOwn]; split <;> rfl
    ·exact Z4Z (if s.1 = true then if s.2 ≤ cs.length then some (AV.p (PV.agg (List.take s.2 cs))) else none else ob cs[0]? fun c => some (AV.p c)) (fun v => v) fun B => by simp only [Z22,heq,ldN]
   ·rename_i hne1 _ hne2
    intro B
    split
    ·simp only [Z22]
     split
     ·rfl
     ·unfold ldOwn
      split
      ·rename_i heq; exact absurd heq (hne1 _ _)
      ·rfl
    ·simp only [Z22]
     unfold ldN
     split
     ·rename_i heq; exact absurd heq (hne1 _ _)
     ·rename_i heq; exact absurd heq (hne2 _)
     ·rfl
 case store t a x =>
  refine ⟨a,rfl,?_⟩
  unfold Z7X Free Fop stepOp
  simp only
  cases hs:shape P t with
  | none =>
   split
   ·rename_i id off heq
    refine ⟨fun _ => none,fun B => ?_,fun e => by simp at e⟩
    simp only [ZbA]; cases B[id]? <;> rfl
   ·rename_i id heq
    refine ⟨fun _ => none,fun B => ?_,fun e => by simp at e⟩
    simp only [ZbA]; cases B[id]? <;> rfl
   ·exact Z4j fun _ => rfl
   ·intro B; rfl
  | some s =>
   split
   ·rename_i id off heq
    refine ⟨fun row => if (mdOf row).isNone = true ∧ Z5a (ev sl x) = false ∧ (Z2k (ev sl x)).length = s.2 ∧ off + s.2 ≤ row.length then some (jk,setAt row off (Z2k (ev sl x))) else none,fun B => ?_,fun e => by simp at e⟩
    simp only [Z22,heq,stN]
    cases B[id]? with
    | none => rfl
    | some row =>
     simp only [Z22,q0_]
     split <;> rfl
   ·rename_i id heq
    refine ⟨fun _ => none,fun B => ?_,fun e => by simp at e⟩
    simp only [Z22,heq,stN]
    cases B[id]? <;> rfl
   ·rename_i cs heq
    exact Z4j fun B => by simp only [Z22,heq,stN]
   ·rename_i hne1 _ hne2
    intro B
    simp only [Z22]
    unfold stN
    split
    ·rename_i heq; exact absurd heq (hne1 _ _)
    ·rfl
 case lookup t x i c => exact absurd ⟨t,x,i,c,rfl⟩ hlk
 case call c =>
  rcases c with ⟨cal,args,ats⟩
  cases cal with
  | builtin b => cases b <;> simp only at h <;> first | (split at h <;> simp at h; done) | simp at h
  | value x =>
   cases x with
   | func g =>
    simp only at h
    split at h
    ·simp at h
    ·split at h <;> simp at h
   | _ => simp at h
  | _ => simp at h
 all_goals exact absurd h (by simp)
theorem ZvY (x:AV):ptrs (shr x) = ptrs x:=by
 cases x with
 | p x =>
  cases x with
  | lst o xs => cases o <;> simp [shr,ptrs]
  | _ => simp [shr,ptrs]
 | tup vs =>
  simp only [shr,ptrs]
  exact ZjK _ (fun x => by cases x <;> simp [ptrs]) _
 | _ => rfl
theorem ZD0 (h:cls P H f o = .pure):∃ c,o.op = .call c ∧ ∀ B v B',Fop P H f G o sl B = some (v,B') → Z1p (evs sl c.args) = [] → ptrs v = [] → ∀ B2,Fop P H f G o sl B2 = some (v,B2):=by
 rcases o with ⟨dst,op,ty,pos,after,guard⟩
 unfold cls at h
 cases op <;> simp only at h
 case call c =>
  refine ⟨c,rfl,?_⟩
  rcases c with ⟨cal,args,ats⟩
  cases cal with
  | builtin b => cases b <;> simp only at h <;> first | (split at h <;> simp at h; done) | simp at h
  | value x =>
   cases x with
   | func g =>
    simp only at h
    split at h
    ·simp at h
    rename_i hnear
    simp only [Bool.not_eq_true] at hnear
    split at h
    ·simp at h
    ·rename_i hr
     simp only [Zj7,not_or,Bool.not_eq_true] at hr
     intro B v B' hf hp hv B2
     unfold Fop stepOp at hf ⊢
     simp only at hf hp ⊢
     rw [hr.2,hnear] at hf ⊢
     simp only [Bool.false_and,Zj4,if_false] at hf ⊢
     unfold callQ callS at hf ⊢
     simp only [hp] at hf ⊢
     have hreach:∀ B:List Row,Z2b B 64 [] [] = []:=fun B => rfl
     rw [hreach] at hf ⊢
     simp only [List.all_nil,Bool.and_true,Bool.not_true,Zj4,if_false,q8_,Zev,List.take_zero,Zpl] at hf ⊢
     obtain ⟨r',hr',hf⟩:=ZR hf
     rw [hr',Z22]
     have hno:ptrs r'.1 = []:=by
      have emp:∀ (g:Nat → Nat) (x:AV),ptrs (Z2o g x) = [] → ptrs x = []:=by
       intro g x
       induction x using AV.rec (motive_2:=fun l => Z1p (Z1W g l) = [] → Z1p l = []) with
       | p x => intro _; simp [ptrs]
       | ptr id off => intro h; simp [Z2o,ptrs] at h
       | mp id => intro h; simp [Z2o,ptrs] at h
       | md es => intro _; simp [ptrs]
       | cptr cs => intro _; simp [ptrs]
       | clo f a b iha ihb =>
        intro h
        simp only [Z2o,ptrs,List.append_eq_nil_iff] at h ⊢
        exact ⟨iha h.1,ihb h.2⟩
       | agg cs ih => intro h; simp only [Z2o,ptrs] at h ⊢; exact ih h
       | tup vs ih => intro h; simp only [Z2o,ptrs] at h ⊢; exact ih h
       | nil => simp [Z1p]
       | cons x r ihx ihr =>
        rename_i h
        simp only [Z1W,Z1p,List.append_eq_nil_iff] at h ⊢
        exact ⟨ihx h.1,ihr h.2⟩
      split at hf
      ·simp only [q1_,Z43] at hf
       exact emp _ _ (by rw [hf.1]; exact hv)
      ·simp only [q1_,Z43] at hf
       exact emp _ _ (by rw [hf.1]; exact hv)
     simp only [hno,below,List.all_nil,if_true,Z2E,q1_,Z43] at hf ⊢
     simpa using hf.1
   | _ => simp at h
  | _ => simp at h
 case load t a =>
  split at h
  ·simp at h
  ·split at h <;> simp at h
 all_goals exact absurd h (by simp)
theorem Zre {B:List Row} {n j:Nat} {todo seen:List Nat} (h:Z1p (B.getD j []) = []):Z2b B (n + 1) (j :: todo) seen = if seen.contains j = true then Z2b B n todo seen else Z2b B n todo (seen ++ [j]):=by
 rw [Z87] at h
 rw [Z2b]
 cases hb:B[j]? with
 | none => simp only [Zkb]
 | some row =>
  rw [hb] at h
  have e:Z1p row = []:=h
  simp only [e,Zkb]
theorem Zip {B C:List Row}:∀ (n:Nat) (todo seen:List Nat),(∀ i,i ∈ todo → B[i]? = C[i]? ∧ Z1p (B.getD i []) = []) →
  Z2b B n todo seen = Z2b C n todo seen ∧ ∀ i,i ∈ Z2b B n todo seen → i ∈ seen ∨ i ∈ todo
 | 0,todo,seen,_ => ⟨by cases todo <;> rfl,fun i h => .inl (by cases todo <;> exact h)⟩
 | n + 1,[],seen,_ => ⟨rfl,fun i h => .inl h⟩
 | n + 1,j :: todo,seen,h => by
  have hj:=h j (by simp)
  have ht:∀ i,i ∈ todo → B[i]? = C[i]? ∧ Z1p (B.getD i []) = []:=fun i hi => h i (by simp [hi])
  have hjC:Z1p (C.getD j []) = []:=by rw [Z87,← hj.1,← Z87]; exact hj.2
  rw [Zre hj.2,Zre hjC]
  split
  ·obtain ⟨k1,k2⟩:=Zip n todo seen ht
   exact ⟨k1,fun i hi => (k2 i hi).imp id (fun x => by simp [x])⟩
  ·obtain ⟨k1,k2⟩:=Zip n todo (seen ++ [j]) ht
   refine ⟨k1,fun i hi => ?_⟩
   rcases k2 i hi with x | x
   ·rcases Zb8.1 x with y | y
    ·exact .inl y
    ·exact .inr (by simp at y; simp [y])
   ·exact .inr (by simp [x])
theorem ZCL {id:Nat} {row:Row}:∀ (rs:List Nat) (rows B:List Row),id ∉ rs → Z2E (B.set id row) rs rows = (Z2E B rs rows).set id row
 | [],rows,B,_ => by cases rows <;> rfl
 | i :: is,[],B,_ => rfl
 | i :: is,r :: rs,B,h => by
  show Z2E ((B.set id row).set i r) is rs = _
  rw [List.set_comm _ _ (fun e => h (by simp [e])),ZCL is rs (B.set i r) (fun x => h (by simp [x]))]
  rfl
theorem Zga {β:Type} {b:Bool} {x:Option β} {r:β} (h:grd b x = some r):b = true ∧ x = some r:=by
 unfold grd hi at h
 cases b
 ·simp at h
 ·exact ⟨rfl,by simpa using h⟩
theorem Zpz {raw:Bool} {G:GF} {g:FuncId} {args:List AV} {B B':List Row} {v:AV} (h:Zjz raw G g args B (fun v B => some (v,B)) = some (v,B')) :
  B'.length = B.length ∧ ∀ id,id ∉ Z1p args → B'[id]? = B[id]? ∧ ∀ row,Zjz raw G g args (B.set id row) (fun v B => some (v,B)) = some (v,B'.set id row):=by
 unfold Zjz at h
 obtain ⟨h0,h⟩:=Zga h
 have h0':∀ i,i ∈ Z1p args → Z1p (B.getD i []) = []:=by
  intro i hi
  have:=Z8v.1 h0 i hi
  simpa using this
 unfold callS at h
 simp only at h
 split at h
 ·simp at h
 rename_i hc
 obtain ⟨r',hr',hk⟩:=ZR h
 have key:B'.length = B.length ∧ ∃ m,B' = Z2E B (Z2b B 64 (Z1p args) []) m ∧ ∀ C:List Row,C.length = B.length → Z2b C 64 (Z1p args) [] = Z2b B 64 (Z1p args) [] →
   (if (below (Z2b B 64 (Z1p args) []).length (ptrs r'.1) && ((r'.2.take (Z2b B 64 (Z1p args) []).length).all fun row => below (Z2b B 64 (Z1p args) []).length (Z1p row))) = true then
    grd (Nat.beq (Z2E C (Z2b B 64 (Z1p args) []) ((r'.2.take (Z2b B 64 (Z1p args) []).length).map (Z1W fun id => (Z2b B 64 (Z1p args) []).getD id 0))).length C.length)
     (some (Z2o (fun id => (Z2b B 64 (Z1p args) []).getD id 0) r'.1,Z2E C (Z2b B 64 (Z1p args) []) ((r'.2.take (Z2b B 64 (Z1p args) []).length).map (Z1W fun id => (Z2b B 64 (Z1p args) []).getD id 0))))
   else
    grd (Nat.beq (Z2E C (Z2b B 64 (Z1p args) []) ((r'.2.take (Z2b B 64 (Z1p args) []).length).map (Z1W fun id => if id < (Z2b B 64 (Z1p args) []).length then (Z2b B 64 (Z1p args) []).getD id 0 else C.length + (id - (Z2b B 64 (Z1p args) []).length))) ++
       (r'.2.drop (Z2b B 64 (Z1p args) []).length).map (Z1W fun id => if id < (Z2b B 64 (Z1p args) []).length then (Z2b B 64 (Z1p args) []).getD id 0 else C.length + (id - (Z2b B 64 (Z1p args) []).length))).length C.length)
     (some (Z2o (fun id => if id < (Z2b B 64 (Z1p args) []).length then (Z2b B 64 (Z1p args) []).getD id 0 else C.length + (id - (Z2b B 64 (Z1p args) []).length)) r'.1,
      Z2E C (Z2b B 64 (Z1p args) []) ((r'.2.take (Z2b B 64 (Z1p args) []).length).map (Z1W fun id => if id < (Z2b B 64 (Z1p args) []).length then (Z2b B 64 (Z1p args) []).getD id 0 else C.length + (id - (Z2b B 64 (Z1p args) []).length))) ++
       (r'.2.drop (Z2b B 64 (Z1p args) []).length).map (Z1W fun id => if id < (Z2b B 64 (Z1p args) []).length then (Z2b B 64 (Z1p args) []).getD id 0 else C.length + (id - (Z2b B 64 (Z1p args) []).length))))) = some (v,Z2E C (Z2b B 64 (Z1p args) []) m):=by
  split at hk
  ·rename_i hb
   obtain ⟨q1,q2⟩:=Zga hk
   simp only [q1_,Z43] at q2
   refine ⟨by rw [← q2.2,Zfv],_,q2.2.symm,fun C hC _ => ?_⟩
   rw [if_pos hb,q2.1]
   have:Nat.beq (Z2E C (Z2b B 64 (Z1p args) []) ((r'.2.take (Z2b B 64 (Z1p args) []).length).map (Z1W fun id => (Z2b B 64 (Z1p args) []).getD id 0))).length C.length = true:=by
    rw [Zfv]
    exact Nat.beq_refl _
   rw [this]
   rfl
  ·rename_i hb
   obtain ⟨q1,q2⟩:=Zga hk
   simp only [q1_,Z43] at q2
   have hl:=Zt7 q1
   rw [q3_,Zfv] at hl
   have hnil:(r'.2.drop (Z2b B 64 (Z1p args) []).length) = []:=by
    apply Zpg.1
    rw [ZbC] at hl
    omega
   refine ⟨by rw [← q2.2,hnil,Zev,Zkb,Zfv],_,by rw [← q2.2,hnil,Zev,Zkb],fun C hC _ => ?_⟩
   rw [if_neg hb,hC,q2.1,hnil,Zev,Zkb]
   have:Nat.beq (Z2E C (Z2b B 64 (Z1p args) []) ((r'.2.take (Z2b B 64 (Z1p args) []).length).map (Z1W fun id => if id < (Z2b B 64 (Z1p args) []).length then (Z2b B 64 (Z1p args) []).getD id 0 else B.length + (id - (Z2b B 64 (Z1p args) []).length)))).length B.length = true:=by
    rw [Zfv,hC]
    exact Nat.beq_refl _
   rw [this]
   rfl
 obtain ⟨hlen,m,hB',hC⟩:=key
 refine ⟨hlen,fun id hid => ?_⟩
 have hsub:∀ i,i ∈ Z2b B 64 (Z1p args) [] → i ∈ Z1p args:=by
  intro i hi
  rcases (Zip (B:=B) (C:=B) 64 (Z1p args) [] fun i hi => ⟨rfl,h0' i hi⟩).2 i hi with x | x
  ·simp at x
  ·exact x
 have hidr:id ∉ Z2b B 64 (Z1p args) []:=fun x => hid (hsub id x)
 refine ⟨by rw [hB',Zrn _ _ _ hidr],fun row => ?_⟩
 have hget:∀ i,i ∈ Z1p args → B[i]? = (B.set id row)[i]?:=by
  intro i hi
  rw [Z8u,if_neg (by rintro rfl; exact hid hi)]
 have hgetD:∀ i,i ∈ Z1p args → (B.set id row).getD i [] = B.getD i []:=by
  intro i hi
  rw [Z87,Z87,← hget i hi]
 have hre:=(Zip (B:=B) (C:=B.set id row) 64 (Z1p args) [] fun i hi => ⟨hget i hi,h0' i hi⟩).1
 have hcc:=hC (B.set id row) (List.length_set ..) hre.symm
 unfold Zjz
 have h0s:((Z1p args).all fun i => (Z1p ((B.set id row).getD i [])).isEmpty) = true:=by
  rw [Z8v]
  intro i hi
  rw [hgetD i hi,h0' i hi]
  rfl
 have hg1:∀ {β:Type} {b:Bool} {x:Option β},b = true → grd b x = x:=fun e => by subst e; rfl
 rw [hg1 h0s]
 unfold callS
 simp only
 rw [← hre]
 have hall:((Z2b B 64 (Z1p args) []).all fun i => decide (i < (B.set id row).length) && (Z1p ((B.set id row).getD i [])).all (Z2b B 64 (Z1p args) []).contains) = ((Z2b B 64 (Z1p args) []).all fun i => decide (i < B.length) && (Z1p (B.getD i [])).all (Z2b B 64 (Z1p args) []).contains):=by
  rw [Bool.eq_iff_iff,Z8v,Z8v]
  refine forall_congr' fun i => forall_congr' fun hi => ?_
  rw [hgetD i (hsub i hi),List.length_set]
 have hmap:((Z2b B 64 (Z1p args) []).map fun i => Z1W (fun id => (Z2b B 64 (Z1p args) []).idxOf id) ((B.set id row).getD i [])) = (Z2b B 64 (Z1p args) []).map fun i => Z1W (fun id => (Z2b B 64 (Z1p args) []).idxOf id) (B.getD i []):=by
  refine Znn fun i hi => ?_
  rw [hgetD i (hsub i hi)]
 rw [hall,if_neg hc,hmap,hr']
 show (if _ then _ else _) = _
 rw [hB',← ZCL _ _ _ hidr]
 exact hcc
def Near (P:Program) (H:Hints) (f:FuncId) (G:GF) (o:Oper) (sl:Sl) (ids:List Nat):Prop :=
 ∀ B v B',Fop P H f G o sl B = some (v,B') → ∀ id,id ∉ ids → B'[id]? = B[id]? ∧ ∀ row,Fop P H f G o sl (B.set id row) = some (v,B'.set id row)
theorem ZCZ (h:cls P H f o = .near):∃ c,o.op = .call c ∧ Near P H f G o sl (Z1p (evs sl c.args)):=by
 rcases o with ⟨dst,op,ty,pos,after,guard⟩
 unfold cls at h
 cases op <;> simp only at h
 case call c =>
  refine ⟨c,rfl,?_⟩
  rcases c with ⟨cal,args,ats⟩
  cases cal with
  | builtin b => cases b <;> simp only at h <;> first | (split at h <;> simp at h; done) | simp at h
  | value x =>
   cases x with
   | func g =>
    simp only at h
    split at h
    rotate_left
    ·split at h <;> simp at h
    rename_i hnear
    intro B v B' hf id hid
    unfold Fop stepOp at hf ⊢
    simp only at hf hid ⊢
    rw [hnear] at hf ⊢
    split at hf
    ·simp at hf
    rename_i hd
    refine ⟨((Zpz hf).2 id hid).1,fun row => ?_⟩
    rw [if_neg hd]
    exact ((Zpz hf).2 id hid).2 row
   | _ => simp at h
  | _ => simp at h
 case load t a =>
  split at h
  ·simp at h
  ·split at h <;> simp at h
 all_goals exact absurd h (by simp)
end
end Go.Abs
end
section
namespace Go.Abs
open Go
def ShEq (x y:AV):Prop:=shr x = shr y
theorem Zxz (x:AV):shr (shr x) = shr x:=by
 have hp:∀ y,shrP (shrP y) = shrP y:=by
  intro y
  cases y with
  | lst o xs => cases o <;> rfl
  | _ => rfl
 cases x with
 | p x =>
  cases x with
  | lst o xs => cases o <;> rfl
  | tup vs => simp [shr,hp]
  | _ => rfl
 | tup vs =>
  simp only [shr,Zph]
  congr 1
  apply Znn
  intro y _
  cases y with
  | p z => simp [hp]
  | _ => rfl
 | _ => rfl
theorem ShEq.refl (x:AV):ShEq x x:=rfl
theorem ShEq.symm {x y:AV} (h:ShEq x y):ShEq y x:=Eq.symm h
theorem ShEq.trans {x y z:AV} (h:ShEq x y) (k:ShEq y z):ShEq x z:=Eq.trans h k
theorem ShEq.shr (x:AV):ShEq (Go.Abs.shr x) x:=Zxz x
theorem ShEq.ptrs {x y:AV} (h:ShEq x y):ptrs x = ptrs y:=by rw [← ZvY x,← ZvY y,h]
theorem ZsG (x y:AV):ZbB (Go.Abs.shr x) (Go.Abs.shr y) = ZbB x y:=by
 cases x with
 | p x =>
  cases x with
  | lst o xs =>
   cases y with
   | p y => cases y with
    | lst o' ys => cases o <;> cases o' <;> rfl
    | tup vs => cases o <;> cases vs <;> rfl
    | _ => cases o <;> rfl
   | _ => cases o <;> rfl
  | tup us =>
   cases us <;> (cases y with
    | p y => cases y with
     | lst o' ys => cases o' <;> rfl
     | tup vs => cases vs <;> rfl
     | _ => rfl
    | _ => rfl)
  | _ =>
   cases y with
   | p y => cases y with
    | lst o' ys => cases o' <;> rfl
    | tup vs => cases vs <;> rfl
    | _ => rfl
   | _ => rfl
 | _ =>
  cases y with
  | p y => cases y with
   | lst o' ys => cases o' <;> rfl
   | tup vs => cases vs <;> rfl
   | _ => rfl
  | _ => rfl
theorem ZlY {x x' y y':AV} (h:ShEq x x') (k:ShEq y y'):ZbB x y = ZbB x' y':=by
 rw [← ZsG x y,← ZsG x' y',h,k]
def upd (sl:Sl) (ws:List Operand) (d:Option Tmp) (v:AV):Sl:=put (weakL sl ws) d v
theorem Zn9:∀ (ws:List Operand) (sl:Sl) (t:Nat),get (weakL sl ws) t = if t ∈ tmpsOf ws then shr (get sl t) else get sl t
 | [],sl,t => by simp [weakL,tmpsOf]
 | x :: r,sl,t => by
  show get (weakL (weak sl x) r) t = _
  rw [Zn9 r]
  cases x with
  | tmp u =>
   have hg:get (weak sl (.tmp u)) t = if u = t then shr (get sl u) else get sl t:=Z1Z u _ sl t
   rw [hg]
   simp only [tmpsOf,Z5G]
   by_cases e:u = t
   ·subst e
    simp only [if_true,true_or]
    split
    ·exact Zxz _
    ·rfl
   ·rw [if_neg e]
    have e':¬ t = u:=fun h => e h.symm
    simp only [e',false_or]
  | const c => rfl
  | global c => rfl
  | func c => rfl
theorem Zde (sl:Sl) (ws:List Operand) (d:Option Tmp) (v:AV) (t:Nat):get (upd sl ws d v) t = if d = some t then v else if t ∈ tmpsOf ws then shr (get sl t) else get sl t:=by
 unfold upd
 cases d with
 | none =>
  have hn:¬ ((none:Option Tmp) = some t):=by simp
  rw [if_neg hn]
  exact Zn9 ws sl t
 | some d =>
  show get ((d,v) :: weakL sl ws) t = _
  rw [Z1Z,Zn9]
  by_cases e:d = t
  ·subst e; simp
  ·have hn:¬ (some d = some t):=by simpa using e
   rw [if_neg e,if_neg hn]
theorem ZDV (sl:Sl) {ws ws':List Operand} {d d':Option Tmp} (v v':AV) (h1:∀ t,t ∈ tmpsOf ws ∨ d = some t → ¬ (t ∈ tmpsOf ws' ∨ d' = some t)) :
  Eqv (upd (upd sl ws d v) ws' d' v') (upd (upd sl ws' d' v') ws d v):=by
 intro t
 simp only [Zde]
 by_cases a:d = some t
 ·have:=h1 t (.inr a)
  simp only [not_or] at this
  rw [if_neg this.2,if_neg this.1,if_pos a,if_pos a]
 ·by_cases a':d' = some t
  ·have h2:¬ (t ∈ tmpsOf ws):=fun h => h1 t (.inl h) (.inr a')
   rw [if_pos a',if_neg a,if_neg h2,if_pos a']
  ·simp only [if_neg a,if_neg a']
   by_cases b:t ∈ tmpsOf ws
   ·have:=h1 t (.inl b)
    simp only [not_or] at this
    rw [if_neg this.1,if_pos b,if_pos b,if_neg this.1]
   ·simp only [if_neg b]
def Z7I (H:Hints) (f:FuncId) (o:Oper):List Nat:=o.dst.toList ++ tmpsOf (wk H f o)
def Z9b (H:Hints) (f:FuncId) (ops:Array Oper) (x o:Oper):Bool :=
 (Z7I H f x).all (fun t => !(o.looksAt ops).contains t && !(Z7I H f o).contains t) && (Z7I H f o).all (fun t => !(x.looksAt ops).contains t)
section
variable {P:Program} {H:Hints} {f:FuncId} {G:GF} {ops:Array Oper}
theorem Z5q {o:Oper} {t:Nat}:t ∈ Z7I H f o ↔ o.dst = some t ∨ t ∈ tmpsOf (wk H f o):=by
 unfold Z7I
 simp [Option.mem_toList]
theorem Zc9 {x o:Oper} (h:Z9b H f ops x o = true) :
  (∀ t,t ∈ Z7I H f x → t ∉ o.looksAt ops ∧ t ∉ Z7I H f o) ∧ ∀ t,t ∈ Z7I H f o → t ∉ x.looksAt ops:=by
 unfold Z9b at h
 simp only [Z4R,Z8v,Zes,Zpj,decide_eq_false_iff_not] at h
 exact h
theorem Tr.upd {o:Oper} {sl sl':Sl} {B B':List Row} (h:Tr P H f G ops o sl B sl' B'):∃ ws v,Eqv sl' (upd sl ws o.dst v) ∧ (∀ t,t ∈ tmpsOf ws → t ∈ tmpsOf (wk H f o)):=by
 rcases h with ⟨_,v,_,h⟩ | ⟨_,_,h⟩
 ·exact ⟨_,v,h,fun _ h => h⟩
 ·exact ⟨[],ud,h,fun t ht => by simp [tmpsOf] at ht⟩
theorem Tr.keep {o:Oper} {sl sl':Sl} {B B':List Row} (h:Tr P H f G ops o sl B sl' B') {t:Nat} (ht:t ∉ Z7I H f o):get sl' t = get sl t:=by
 obtain ⟨ws,v,h1,h2⟩:=h.upd
 rw [Z5q,not_or] at ht
 rw [h1,Zde,if_neg ht.1,if_neg (fun h => ht.2 (h2 t h))]
theorem Tr.sh {o:Oper} {sl sl':Sl} {B B':List Row} (h:Tr P H f G ops o sl B sl' B') {t:Nat} (ht:o.dst ≠ some t):ShEq (get sl' t) (get sl t):=by
 obtain ⟨ws,v,h1,h2⟩:=h.upd
 rw [h1,Zde,if_neg ht]
 split
 ·exact ShEq.shr _
 ·exact .refl _
theorem Run.sh {slF:Sl} {BF:List Row} {t:Nat}:∀ (l:List Nat) (sl:Sl) (B:List Row),Run P H f G ops l sl B slF BF → (∀ k o,k ∈ l → ops[k]? = some o → o.dst ≠ some t) → ShEq (get slF t) (get sl t)
 | [],sl,B,h,_ => by rw [h.1]; exact .refl _
 | i :: l,sl,B,h,hd => by
  obtain ⟨o,s1,B1,q1,q2,q3⟩:=h
  exact (Run.sh l s1 B1 q3 fun k o hk => hd k o (by simp [hk])).trans (q2.sh (hd i o (by simp) q1))
theorem ZoR {sl sl':Sl} {o:Oper} (h:∀ t,t ∈ o.looksAt ops → get sl' t = get sl t):(∀ y,y ∈ o.op.operands → ev sl' y = ev sl y) ∧ want ops o sl' = want ops o sl:=by
 constructor
 ·intro y hy
  cases y with
  | tmp t => exact h t (Zse _ (List.mem_filterMap.2 ⟨.tmp t,by simpa using hy,rfl⟩))
  | const c =>
   exact Eqv.ev (sl:=sl') (sl':=sl') (.refl _) _ |>.trans (by cases c <;> first | rfl | (rename_i a n m; cases a <;> first | rfl | (cases n <;> cases m <;> rfl)))
  | global g => rfl
  | func g => rfl
 ·unfold want
  split
  ·rfl
  ·rename_i j w hg
   split
   ·rfl
   ·rename_i d hd
    rw [h d (Zw3 _ (by simp [hg,hd]))]
theorem swap {p i:Oper} {sl s1 s2:Sl} {B B1 B2:List Row} (hap:Z9b H f ops p i = true) (h1:Tr P H f G ops p sl B s1 B1) (h2:Tr P H f G ops i s1 B1 s2 B2)
  (hB:∀ v u,Fop P H f G p sl B = some (v,B1) → Fop P H f G i sl B1 = some (u,B2) → Eqv s2 (upd (upd sl (wk H f p) p.dst v) (wk H f i) i.dst u) →
   ∃ B1',Fop P H f G i sl B = some (u,B1') ∧ Fop P H f G p sl B1' = some (v,B2)) :
  ∃ s1' B1' s2',Tr P H f G ops i sl B s1' B1' ∧ Tr P H f G ops p s1' B1' s2' B2 ∧ Eqv s2' s2:=by
 obtain ⟨a1,a2⟩:=Zc9 hap
 have keep1:∀ t,t ∈ i.looksAt ops → get s1 t = get sl t:=fun t ht => h1.keep fun h => (a1 t h).1 ht
 obtain ⟨e1,w1⟩:=ZoR keep1
 have comm:∀ (ws ws':List Operand) (v v':AV),(∀ t,t ∈ tmpsOf ws → t ∈ tmpsOf (wk H f p)) → (∀ t,t ∈ tmpsOf ws' → t ∈ tmpsOf (wk H f i)) →
   Eqv (upd (upd sl ws p.dst v) ws' i.dst v') (upd (upd sl ws' i.dst v') ws p.dst v):=by
  intro ws ws' v v' hw hw'
  refine ZDV sl v v' fun t ht ht' => ?_
  have m1:t ∈ Z7I H f p:=Z5q.2 (ht.elim (fun h => .inr (hw t h)) .inl)
  have m2:t ∈ Z7I H f i:=Z5q.2 (ht'.elim (fun h => .inr (hw' t h)) .inl)
  exact (a1 t m1).2 m2
 have after:∀ (ws':List Operand) (v':AV),(∀ t,t ∈ tmpsOf ws' → t ∈ tmpsOf (wk H f i)) → (∀ y,y ∈ p.op.operands → ev (upd sl ws' i.dst v') y = ev sl y) ∧ want ops p (upd sl ws' i.dst v') = want ops p sl:=by
  intro ws' v' hw'
  refine ZoR fun t ht => ?_
  have hn:t ∉ Z7I H f i:=fun h => a2 t h ht
  rw [Z5q,not_or] at hn
  rw [Zde,if_neg hn.1,if_neg (fun h => hn.2 (hw' t h))]
 have updc:∀ {x y:Sl} (ws:List Operand) (d:Option Tmp) (v:AV),Eqv x y → Eqv (upd x ws d v) (upd y ws d v):=fun ws d v h => Eqv.put (Eqv.weakL ws h) d v
 rcases h1 with ⟨g1,v,g2,g3⟩ | ⟨g1,rfl,g3⟩ <;> rcases h2 with ⟨k1,u,k2,k3⟩ | ⟨k1,rfl,k3⟩
 ·rw [w1] at k1
  rw [Za1 P H f G i s1 sl B1 e1] at k2
  have hs2:Eqv s2 (upd (upd sl (wk H f p) p.dst v) (wk H f i) i.dst u):=k3.trans (updc _ _ _ g3)
  obtain ⟨B1',q1,q2⟩:=hB v u g2 k2 hs2
  obtain ⟨e2,w2⟩:=after (wk H f i) u fun _ h => h
  refine ⟨upd sl (wk H f i) i.dst u,B1',upd (upd sl (wk H f i) i.dst u) (wk H f p) p.dst v,.inl ⟨k1,u,q1,.refl _⟩,.inl ⟨by rw [w2]; exact g1,v,?_,.refl _⟩,?_⟩
  ·rw [Za1 P H f G p _ sl B1' e2]; exact q2
  ·exact (comm _ _ v u (fun _ h => h) (fun _ h => h)).symm.trans hs2.symm
 ·rw [w1] at k1
  have hs2:Eqv s2 (upd (upd sl (wk H f p) p.dst v) [] i.dst ud):=k3.trans (updc [] _ _ g3)
  obtain ⟨e2,w2⟩:=after [] ud fun t h => by simp [tmpsOf] at h
  refine ⟨upd sl [] i.dst ud,B,upd (upd sl [] i.dst ud) (wk H f p) p.dst v,.inr ⟨k1,rfl,.refl _⟩,.inl ⟨by rw [w2]; exact g1,v,?_,.refl _⟩,?_⟩
  ·rw [Za1 P H f G p _ sl B e2]; exact g2
  ·exact (comm _ [] v ud (fun _ h => h) (fun t h => by simp [tmpsOf] at h)).symm.trans hs2.symm
 ·rw [w1] at k1
  rw [Za1 P H f G i s1 sl _ e1] at k2
  have hs2:Eqv s2 (upd (upd sl [] p.dst ud) (wk H f i) i.dst u):=k3.trans (updc _ _ _ g3)
  obtain ⟨e2,w2⟩:=after (wk H f i) u fun _ h => h
  refine ⟨upd sl (wk H f i) i.dst u,B2,upd (upd sl (wk H f i) i.dst u) [] p.dst ud,.inl ⟨k1,u,k2,.refl _⟩,.inr ⟨by rw [w2]; exact g1,rfl,.refl _⟩,?_⟩
  exact (comm [] _ ud u (fun t h => by simp [tmpsOf] at h) (fun _ h => h)).symm.trans hs2.symm
 ·rw [w1] at k1
  have hs2:Eqv s2 (upd (upd sl [] p.dst ud) [] i.dst ud):=k3.trans (updc [] _ _ g3)
  obtain ⟨e2,w2⟩:=after [] ud fun t h => by simp [tmpsOf] at h
  refine ⟨upd sl [] i.dst ud,_,upd (upd sl [] i.dst ud) [] p.dst ud,.inr ⟨k1,rfl,.refl _⟩,.inr ⟨by rw [w2]; exact g1,rfl,.refl _⟩,?_⟩
  exact (comm [] [] ud ud (fun t h => by simp [tmpsOf] at h) (fun t h => by simp [tmpsOf] at h)).symm.trans hs2.symm
def Z3w (o:Oper):List Nat:=(match addrOf o with | some a => tmpsOf [a] | none => []) ++ (match o.op with | .call c => tmpsOf c.args.toList | _ => [])
theorem Zho {o:Oper} {t:Nat} (h:t ∈ Z3w o):t ∈ o.looksAt ops:=by
 refine Zse _ (List.mem_filterMap.2 ⟨.tmp t,?_,rfl⟩)
 rcases o with ⟨dst,op,ty,pos,after,guard⟩
 unfold Z3w addrOf at h
 cases op <;> simp only [Zkb,ZbE] at h <;> try (simp at h; done)
 case load t' a => rw [Z3K] at h; simpa [Op.operands] using h
 case store t' a x => rw [Z3K] at h; simp only [ZdC] at h; simp [Op.operands,h]
 case lookup t' m x c => rw [Z3K] at h; simp only [ZdC] at h; simp [Op.operands,h]
 case call c =>
  rw [Z3K] at h
  simp only [Op.operands,Call.operands,Array.toList_append,Zb8]
  exact .inr h
inductive Kind (P:Program) (H:Hints) (f:FuncId) (G:GF) (o:Oper) (sl:Sl) (v:AV):Cls → Prop
 | ind (c:Cls):(∀ B,Fop P H f G o sl B = some (v,B)) → Kind P H f G o sl v c
 | loc (c:Cls) (a:Operand) (id:Nat):(c = .rd ∨ c = .wr ∨ c = .ol) → addrOf o = some a → IsAt (ev sl a) id → Z7X P H f G o sl id (c == .rd) → Kind P H f G o sl v c
 | new:News P H f G o sl → Kind P H f G o sl v .new
 | loud:Kind P H f G o sl v .loud
 | near (c:Call):o.op = .call c → Near P H f G o sl (Z1p (evs sl c.args)) → Kind P H f G o sl v .near
 | pure (c:Call):o.op = .call c → (Z1p (evs sl c.args) = [] → ptrs v = [] → ∀ B,Fop P H f G o sl B = some (v,B)) → Kind P H f G o sl v .pure
theorem Zxe {o:Oper} {sl:Sl} {B B':List Row} {v:AV} (h:Fop P H f G o sl B = some (v,B')):Kind P H f G o sl v (cls P H f o):=by
 cases hc:cls P H f o with
 | free =>
  obtain ⟨x,hx⟩:=Ztm (G:=G) (sl:=sl) hc
  rw [hx] at h
  cases x with
  | none => simp at h
  | some x =>
   simp only [Z8O,q1_,Z43] at h
   exact .ind _ fun B => by rw [hx,← h.1]; rfl
 | new => exact .new (ZEI hc)
 | loud => exact .loud
 | near =>
  obtain ⟨c,h1,h2⟩:=ZCZ (G:=G) (sl:=sl) hc
  exact .near c h1 h2
 | pure =>
  obtain ⟨c,h1,h2⟩:=ZD0 (G:=G) (sl:=sl) hc
  exact .pure c h1 fun a b => h2 B v B' h a b
 | rd =>
  obtain ⟨a,h1,h2⟩:=Zru (G:=G) (sl:=sl) (.inl hc)
  split at h2
  ·rename_i id off heq; rw [hc] at h2; exact .loc _ a id (.inl rfl) h1 (.inl ⟨off,heq⟩) h2
  ·rename_i id heq; rw [hc] at h2; exact .loc _ a id (.inl rfl) h1 (.inr heq) h2
  ·obtain ⟨x,hx⟩:=h2
   rw [hx] at h
   cases x with
   | none => simp at h
   | some x =>
    simp only [Z8O,q1_,Z43] at h
    exact .ind _ fun B => by rw [hx,← h.1]; rfl
  ·rw [h2] at h; simp at h
 | wr =>
  obtain ⟨a,h1,h2⟩:=Zru (G:=G) (sl:=sl) (.inr (.inl hc))
  split at h2
  ·rename_i id off heq; rw [hc] at h2; exact .loc _ a id (.inr (.inl rfl)) h1 (.inl ⟨off,heq⟩) h2
  ·rename_i id heq; rw [hc] at h2; exact .loc _ a id (.inr (.inl rfl)) h1 (.inr heq) h2
  ·obtain ⟨x,hx⟩:=h2
   rw [hx] at h
   cases x with
   | none => simp at h
   | some x =>
    simp only [Z8O,q1_,Z43] at h
    exact .ind _ fun B => by rw [hx,← h.1]; rfl
  ·rw [h2] at h; simp at h
 | ol =>
  obtain ⟨a,h1,h2⟩:=Zru (G:=G) (sl:=sl) (.inr (.inr hc))
  split at h2
  ·rename_i id off heq; rw [hc] at h2; exact .loc _ a id (.inr (.inr rfl)) h1 (.inl ⟨off,heq⟩) h2
  ·rename_i id heq; rw [hc] at h2; exact .loc _ a id (.inr (.inr rfl)) h1 (.inr heq) h2
  ·obtain ⟨x,hx⟩:=h2
   rw [hx] at h
   cases x with
   | none => simp at h
   | some x =>
    simp only [Z8O,q1_,Z43] at h
    exact .ind _ fun B => by rw [hx,← h.1]; rfl
  ·rw [h2] at h; simp at h
theorem Zt4 {p i:Oper} {sl:Sl} {B B1 B2:List Row} {v u:AV} (hp:∀ B,Fop P H f G p sl B = some (v,B)) (h1:Fop P H f G p sl B = some (v,B1)) (h2:Fop P H f G i sl B1 = some (u,B2)) :
  ∃ B1',Fop P H f G i sl B = some (u,B1') ∧ Fop P H f G p sl B1' = some (v,B2):=by
 rw [hp] at h1
 simp only [q1_,Z43,true_and] at h1
 subst h1
 exact ⟨B2,h2,hp B2⟩
theorem ZlH {p i:Oper} {sl:Sl} {B B1 B2:List Row} {v u:AV} (hi:∀ B,Fop P H f G i sl B = some (u,B)) (h1:Fop P H f G p sl B = some (v,B1)) (h2:Fop P H f G i sl B1 = some (u,B2)) :
  ∃ B1',Fop P H f G i sl B = some (u,B1') ∧ Fop P H f G p sl B1' = some (v,B2):=by
 rw [hi] at h2
 simp only [q1_,Z43,true_and] at h2
 subst h2
 exact ⟨B,hi B,h1⟩
theorem Z7X.run {o:Oper} {sl:Sl} {id:Nat} {rd:Bool} {B B':List Row} {v:AV} (h:Z7X P H f G o sl id rd) (hf:Fop P H f G o sl B = some (v,B')) :
  ∃ row row',B[id]? = some row ∧ B' = B.set id row' ∧ (rd = true → row' = row) ∧ ∀ C:List Row,C[id]? = some row → Fop P H f G o sl C = some (v,C.set id row'):=by
 obtain ⟨φ,h1,h2⟩:=h
 rw [h1] at hf
 cases hB:B[id]? with
 | none => rw [hB] at hf; simp at hf
 | some row =>
  rw [hB] at hf
  simp only [q0_] at hf
  obtain ⟨q,hq,e⟩:=q6_.1 hf
  simp only [Z43] at e
  refine ⟨row,q.2,rfl,e.2.symm,fun hr => h2 hr row q hq,fun C hC => ?_⟩
  rw [h1,hC]
  simp only [q0_,hq,Z8O,e.1]
theorem Zgl {B:List Row} {id:Nat} {row:Row} (h:B[id]? = some row):B.set id row = B:=by
 apply Zm0
 intro i
 rw [Z8u]
 split
 ·rename_i e
  subst e
  rw [if_pos (q2_.1 h).1,h]
 ·rfl
structure Asked (p i:Oper) (sl s2:Sl) (v u:AV):Prop where
 rp:∀ t,t ∈ Z3w p → ShEq (get s2 t) (get sl t)
 ri:∀ t,t ∈ Z3w i → ShEq (get s2 t) (get sl t)
 dp:∀ d,p.dst = some d → ShEq (get s2 d) v
 di:∀ d,i.dst = some d → ShEq (get s2 d) u
theorem ZnN {sl s2:Sl} {a:Operand} (h:∀ t,t ∈ tmpsOf [a] → ShEq (get s2 t) (get sl t)):ShEq (ev s2 a) (ev sl a):=by
 cases a with
 | tmp t => exact h t (by simp [tmpsOf])
 | const c => cases c <;> first | rfl | (rename_i a n m; cases a <;> first | rfl | (cases n <;> cases m <;> rfl))
 | global g => rfl
 | func g => rfl
theorem ZnK {o:Oper} {sl s2:Sl} {a:Operand} (ha:addrOf o = some a) (h:∀ t,t ∈ Z3w o → ShEq (get s2 t) (get sl t)):ShEq (ev s2 a) (ev sl a):=by
 refine ZnN fun t ht => h t ?_
 unfold Z3w
 rw [ha]
 exact Zse _ ht
theorem Zj3 {o:Oper} {c:Call} {sl s2:Sl} {v:AV} (ho:o.op = .call c) (hr:∀ t,t ∈ Z3w o → ShEq (get s2 t) (get sl t)) (hd:∀ d,o.dst = some d → ShEq (get s2 d) v)
  (hk:∀ q,q ∈ ZdH o → Z4r s2 q = true):Z1p (evs sl c.args) = [] ∧ ptrs v = []:=by
 have hargs:∀ y,y ∈ c.args.toList → ptrs (ev s2 y) = ptrs (ev sl y):=by
  intro y hy
  refine (ZnN (sl:=sl) (s2:=s2) fun t ht => hr t ?_).ptrs
  rw [Z3K] at ht
  simp only [ZdC] at ht
  unfold Z3w
  rw [ho]
  exact Zw3 _ (Z3K.2 (ht ▸ hy))
 have hnil:∀ (l:List AV),Z6r l = true → ∀ x,x ∈ l → ptrs x = []:=by
  intro l hl x hx
  unfold Z6r at hl
  have:Z1p l = []:=by simpa using hl
  cases hp:ptrs x with
  | nil => rfl
  | cons i r =>
   have:i ∈ Z1p l:=Z4W.2 ⟨x,hx,by rw [hp]; simp⟩
   simp_all
 have hall:∀ l:List Operand,Z6r (l.map (ev s2)) = true → (∀ y,y ∈ c.args.toList → y ∈ l) → Z1p (evs sl c.args) = []:=by
  intro l hl hsub
  cases hp:Z1p (evs sl c.args) with
  | nil => rfl
  | cons i r =>
   have:i ∈ Z1p (evs sl c.args):=by rw [hp]; simp
   obtain ⟨x,hx,hi⟩:=Z4W.1 this
   unfold evs at hx
   obtain ⟨y,hy,rfl⟩:=Z7a.1 hx
   rw [← hargs y hy,hnil _ hl (ev s2 y) (Z7a.2 ⟨y,hsub y hy,rfl⟩)] at hi
   simp at hi
 unfold ZdH at hk
 rw [ho] at hk
 cases hdd:o.dst with
 | none =>
  rw [hdd] at hk
  have:=hk _ (ZdC.2 rfl)
  simp [Z4r,ev,scal,ZbB] at this
 | some d =>
  rw [hdd] at hk
  have:=hk (.np (.tmp d :: c.args.toList)) (by simp)
  refine ⟨hall _ this fun y hy => by simp [hy],?_⟩
  rw [← (hd d hdd).ptrs]
  exact hnil _ this (get s2 d) (by simp [ev])
end
end Go.Abs
end
section
namespace Go.Abs
open Go
section
variable {P:Program} {H:Hints} {f:FuncId} {G:GF} {ops:Array Oper}
theorem Zxf {p i:Oper} {sl:Sl} {B B1 B2:List Row} {v u:AV} {id id':Nat} {rd rd':Bool} (hp:Z7X P H f G p sl id rd) (hi:Z7X P H f G i sl id' rd') (hne:id ≠ id' ∨ (rd = true ∧ rd' = true))
  (h1:Fop P H f G p sl B = some (v,B1)) (h2:Fop P H f G i sl B1 = some (u,B2)):∃ B1',Fop P H f G i sl B = some (u,B1') ∧ Fop P H f G p sl B1' = some (v,B2):=by
 obtain ⟨r,r',p1,rfl,p2,p3⟩:=hp.run h1
 obtain ⟨q,q',i1,rfl,i2,i3⟩:=hi.run h2
 by_cases e:id = id'
 ·obtain ⟨hr,hr'⟩:=hne.resolve_left (fun h => h e)
  subst e
  have e1:=p2 hr
  have e2:=i2 hr'
  subst e1 e2
  rw [Zgl p1] at i1 ⊢
  rw [p1] at i1
  cases i1
  rw [Zgl p1]
  refine ⟨B,?_,?_⟩
  ·have:=i3 B p1; rw [Zgl p1] at this; exact this
  ·have:=p3 B p1; rw [Zgl p1] at this; exact this
 ·have hid':B[id']? = some q:=by rw [Z8u,if_neg e] at i1; exact i1
  refine ⟨_,i3 B hid',?_⟩
  have hid:(B.set id' q')[id]? = some r:=by rw [Z8u,if_neg (fun h => e h.symm)]; exact p1
  rw [p3 _ hid,List.set_comm _ _ e]
theorem ZEX {p i:Oper} {sl:Sl} {B B1 B2:List Row} {v u:AV} {id:Nat} {rd:Bool} (hp:Z7X P H f G p sl id rd) (hi:News P H f G i sl)
  (h1:Fop P H f G p sl B = some (v,B1)) (h2:Fop P H f G i sl B1 = some (u,B2)):∃ B1',Fop P H f G i sl B = some (u,B1') ∧ Fop P H f G p sl B1' = some (v,B2):=by
 obtain ⟨r,r',p1,rfl,p2,p3⟩:=hp.run h1
 obtain ⟨x,hx⟩:=hi
 rw [hx] at h2
 cases x with
 | none => simp at h2
 | some row =>
  simp only [Z8O,List.length_set,q1_,Z43] at h2
  obtain ⟨rfl,rfl⟩:=h2
  have hlt:=(q2_.1 p1).1
  refine ⟨B ++ [row],by rw [hx]; rfl,?_⟩
  rw [p3 (B ++ [row]) (by rw [Zgi,if_pos hlt]; exact p1)]
  rw [List.set_append,if_pos hlt]
theorem ZEZ {p i:Oper} {sl:Sl} {B B1 B2:List Row} {v u:AV} {id:Nat} {rd:Bool} (hp:News P H f G p sl) (hi:Z7X P H f G i sl id rd) (hne:v ≠ .ptr id 0)
  (h1:Fop P H f G p sl B = some (v,B1)) (h2:Fop P H f G i sl B1 = some (u,B2)):∃ B1',Fop P H f G i sl B = some (u,B1') ∧ Fop P H f G p sl B1' = some (v,B2):=by
 obtain ⟨q,q',i1,rfl,i2,i3⟩:=hi.run h2
 obtain ⟨x,hx⟩:=hp
 rw [hx] at h1
 cases x with
 | none => simp at h1
 | some row =>
  simp only [Z8O,q1_,Z43] at h1
  obtain ⟨rfl,rfl⟩:=h1
  have hlt:id < B.length:=by
   have:=(q2_.1 i1).1
   simp only [q3_,q5_,q8_] at this
   rcases Z9X id B.length with h | h
   ·exact h
   ·have:id = B.length:=by omega
    exact absurd (by rw [this]) hne
  rw [Zgi,if_pos hlt] at i1
  refine ⟨_,i3 B i1,?_⟩
  rw [hx]
  simp only [Z8O,List.length_set,q1_,Z43,true_and]
  rw [List.set_append,if_pos hlt]
theorem ZlX {x y:AV} {id id':Nat} (hx:IsAt x id) (hy:IsAt y id') (h:ZbB x y = true):id ≠ id':=by
 rcases hx with ⟨_,rfl⟩ | rfl <;> rcases hy with ⟨_,rfl⟩ | rfl <;> simpa [ZbB] using h
theorem ZEY {p i:Oper} {sl s2:Sl} {v u:AV} (hA:Asked p i sl s2 v u) {a b:Operand} {id id':Nat} (ha:addrOf p = some a) (hb:addrOf i = some b) (ea:IsAt (ev sl a) id) (eb:IsAt (ev sl b) id')
  (hq:Z4r s2 (.ne a b) = true):id ≠ id':=by
 simp only [Z4r] at hq
 rw [ZlY (ZnK ha hA.rp) (ZnK hb hA.ri)] at hq
 exact ZlX ea eb hq
theorem ZHF {o:Oper} {sl s2:Sl} {v:AV} {d:Tmp} {a:Operand} {id:Nat} (hr:∀ t,t ∈ Z3w o → ShEq (get s2 t) (get sl t)) (hv:ShEq (get s2 d) v) (ha:addrOf o = some a) (ea:IsAt (ev sl a) id)
  (hq:Z4r s2 (.ne a (.tmp d)) = true):v ≠ .ptr id 0:=by
 rintro rfl
 simp only [Z4r] at hq
 rw [ZlY (ZnK ha hr) (show ShEq (ev s2 (.tmp d)) (.ptr id 0) from hv)] at hq
 exact ZlX ea (.inl ⟨0,rfl⟩) hq rfl
theorem ZDq {p i:Oper} {sl:Sl} {B B1 B2:List Row} {v u:AV} {id:Nat} {rd:Bool} {ids:List Nat} (hp:Z7X P H f G p sl id rd) (hi:Near P H f G i sl ids) (hid:id ∉ ids)
  (h1:Fop P H f G p sl B = some (v,B1)) (h2:Fop P H f G i sl B1 = some (u,B2)):∃ B1',Fop P H f G i sl B = some (u,B1') ∧ Fop P H f G p sl B1' = some (v,B2):=by
 obtain ⟨r,r',p1,rfl,_,p3⟩:=hp.run h1
 obtain ⟨k1,k2⟩:=hi _ _ _ h2 id hid
 have hlt:id < B.length:=(q2_.1 p1).1
 have e1:(B.set id r')[id]? = some r':=by rw [Z8u,if_pos rfl,if_pos hlt]
 rw [e1] at k1
 have hlt2:id < B2.length:=(q2_.1 k1).1
 have h3:=k2 r
 rw [List.set_set,Zgl p1] at h3
 refine ⟨_,h3,?_⟩
 rw [p3 (B2.set id r) (by rw [Z8u,if_pos rfl,if_pos hlt2]),List.set_set,Zgl k1]
theorem ZDw {p i:Oper} {sl:Sl} {B B1 B2:List Row} {v u:AV} {id:Nat} {rd:Bool} {ids:List Nat} (hp:Near P H f G p sl ids) (hi:Z7X P H f G i sl id rd) (hid:id ∉ ids)
  (h1:Fop P H f G p sl B = some (v,B1)) (h2:Fop P H f G i sl B1 = some (u,B2)):∃ B1',Fop P H f G i sl B = some (u,B1') ∧ Fop P H f G p sl B1' = some (v,B2):=by
 obtain ⟨r,r',p1,rfl,_,p3⟩:=hi.run h2
 obtain ⟨k1,k2⟩:=hp _ _ _ h1 id hid
 exact ⟨_,p3 B (k1 ▸ p1),k2 r'⟩
theorem ZCv {id:Nat} {x z:AV} (hx:IsAt x id) (h:ZbB x z = true):id ∉ ptrs z:=by
 cases z with
 | ptr j o => have:=ZlX hx (.inl ⟨o,rfl⟩) h; simp [ptrs,this]
 | mp j => have:=ZlX hx (.inr rfl) h; simp [ptrs,this]
 | p y => simp [ptrs]
 | cptr c => simp [ptrs]
 | _ => rcases hx with ⟨_,rfl⟩ | rfl <;> simp [ZbB] at h
theorem ZBX {x y:Oper} {c:Call} {ab:List Ask} {sl s2:Sl} {a:Operand} {id:Nat} (hab:Zez x y = some ab) (hq:∀ q,q ∈ ab → Z4r s2 q = true) (ha:addrOf x = some a) (hy:y.op = .call c) (ea:IsAt (ev sl a) id)
  (hx:∀ t,t ∈ Z3w x → ShEq (get s2 t) (get sl t)) (hc:∀ t,t ∈ Z3w y → ShEq (get s2 t) (get sl t)):id ∉ Z1p (evs sl c.args):=by
 unfold Zez at hab
 rw [ha,hy] at hab
 simp only [q1_] at hab
 subst hab
 intro hid
 obtain ⟨z,hz,hi⟩:=Z4W.1 hid
 unfold evs at hz
 obtain ⟨b,hb,rfl⟩:=Z7a.1 hz
 have h:=hq (.ne a b) (Z7a.2 ⟨b,hb,rfl⟩)
 have hne:ZbB (ev s2 a) (ev s2 b) = ZbB (ev sl a) (ev sl b):=by
  refine ZlY (ZnK ha hx) (ZnN fun t ht => hc t ?_)
  rw [Z3K] at ht
  simp only [ZdC] at ht
  unfold Z3w
  rw [hy]
  exact Zw3 _ (Z3K.2 (ht ▸ hb))
 simp only [Z4r] at h
 rw [hne] at h
 exact ZCv ea h hi
theorem ZxM {p i:Oper} {sl s2:Sl} {B B1 B2:List Row} {v u:AV} {ab:List Ask} (hab:Zca P H f p i = some ab) (hq:∀ q,q ∈ ab → Z4r s2 q = true) (hA:Asked p i sl s2 v u)
  (h1:Fop P H f G p sl B = some (v,B1)) (h2:Fop P H f G i sl B1 = some (u,B2)):∃ B1',Fop P H f G i sl B = some (u,B1') ∧ Fop P H f G p sl B1' = some (v,B2):=by
 have kp:=Zxe h1
 have ki:=Zxe h2
 unfold Zca at hab
 generalize cls P H f p = cp at kp hab
 generalize cls P H f i = ci at ki hab
 cases kp with
 | ind _ hp => exact Zt4 hp h1 h2
 | loc c a id hc ha ea hl =>
  cases ki with
  | ind _ hi => exact ZlH hi h1 h2
  | loc c' a' id' hc' ha' ea' hl' =>
   rcases hc with rfl | rfl | rfl <;> rcases hc' with rfl | rfl | rfl <;> first
    | exact Zxf hl hl' (.inr ⟨rfl,rfl⟩) h1 h2
    | (simp only [ha,ha',q1_] at hab
       subst hab
       exact Zxf hl hl' (.inl (ZEY hA ha ha' ea ea' (hq _ (by simp)))) h1 h2)
  | new hi => exact ZEX hl hi h1 h2
  | loud => rcases hc with rfl | rfl | rfl <;> simp at hab
  | near c' ho hi =>
   have hab':Zez p i = some ab:=by rcases hc with rfl | rfl | rfl <;> exact hab
   exact ZDq hl hi (ZBX hab' hq ha ho ea hA.rp hA.ri) h1 h2
  | pure c' ho hi =>
   have:∀ q,q ∈ ZdH i → Z4r s2 q = true:=by
    rcases hc with rfl | rfl | rfl <;> (simp only [q1_] at hab; subst hab; exact hq)
   obtain ⟨e1,e2⟩:=Zj3 ho hA.ri hA.di this
   exact ZlH (hi e1 e2) h1 h2
 | new hp =>
  cases ki with
  | ind _ hi => exact ZlH hi h1 h2
  | loc c' a' id' hc' ha' ea' hl' =>
   cases hd:p.dst with
   | none => rcases hc' with rfl | rfl | rfl <;> simp [Zo6,hd] at hab
   | some d =>
    have hab':[Ask.ne a' (.tmp d)] = ab:=by rcases hc' with rfl | rfl | rfl <;> simpa [Zo6,hd,ha'] using hab
    subst hab'
    exact ZEZ hp hl' (ZHF hA.ri (hA.dp d hd) ha' ea' (hq _ (by simp))) h1 h2
  | new hi => simp at hab
  | loud => simp at hab
  | near c' ho hi => simp at hab
  | pure c' ho hi =>
   simp only [q1_] at hab
   subst hab
   obtain ⟨e1,e2⟩:=Zj3 ho hA.ri hA.di hq
   exact ZlH (hi e1 e2) h1 h2
 | near c ho hp =>
  cases ki with
  | ind _ hi => exact ZlH hi h1 h2
  | loc c' a' id' hc' ha' ea' hl' =>
   have hab':Zez i p = some ab:=by rcases hc' with rfl | rfl | rfl <;> exact hab
   exact ZDw hp hl' (ZBX hab' hq ha' ho ea' hA.ri hA.rp) h1 h2
  | _ => simp at hab
 | loud =>
  cases ki with
  | ind _ hi => exact ZlH hi h1 h2
  | loc c' a' id' hc' ha' ea' hl' => rcases hc' with rfl | rfl | rfl <;> simp at hab
  | _ => simp at hab
 | pure c ho hp =>
  cases ki with
  | ind _ hi => exact ZlH hi h1 h2
  | loc c' a' id' hc' ha' ea' hl' =>
   have:∀ q,q ∈ ZdH p → Z4r s2 q = true:=by
    rcases hc' with rfl | rfl | rfl <;> (simp only [q1_] at hab; subst hab; exact hq)
   obtain ⟨e1,e2⟩:=Zj3 ho hA.rp hA.dp this
   exact Zt4 (hp e1 e2) h1 h2
  | new hi =>
   simp only [q1_] at hab
   subst hab
   obtain ⟨e1,e2⟩:=Zj3 ho hA.rp hA.dp hq
   exact Zt4 (hp e1 e2) h1 h2
  | loud => simp at hab
  | near c' ho' hi => simp at hab
  | pure c' ho' hi =>
   simp only [q1_] at hab
   subst hab
   obtain ⟨e1,e2⟩:=Zj3 ho hA.rp hA.dp fun q hq' => hq q (Zse _ hq')
   exact Zt4 (hp e1 e2) h1 h2
def Later (x o:Oper):Prop:=∀ d,o.dst = some d → d ∉ Z3w x ∧ x.dst ≠ some d
theorem Zzu {s s':Sl} {q:Ask} {p i:Oper} {ab:List Ask} (hab:Zca P H f p i = some ab) (hq:q ∈ ab)
  (hp:∀ t,(t ∈ Z3w p ∨ p.dst = some t) ∨ (t ∈ Z3w i ∨ i.dst = some t) → ShEq (get s t) (get s' t)):Z4r s q = Z4r s' q:=by
 have ne:∀ (a b:Operand),(∀ t,t ∈ tmpsOf [a] → ShEq (get s t) (get s' t)) → (∀ t,t ∈ tmpsOf [b] → ShEq (get s t) (get s' t)) → Z4r s (.ne a b) = Z4r s' (.ne a b):=by
  intro a b ha hb
  exact ZlY (ZnN ha) (ZnN hb)
 have addr:∀ {x:Oper} {a:Operand} {t:Nat},addrOf x = some a → t ∈ tmpsOf [a] → t ∈ Z3w x:=by
  intro x a t hx ht
  unfold Z3w
  rw [hx]
  exact Zse _ ht
 have np:∀ {x:Oper},(∀ t,t ∈ Z3w x ∨ x.dst = some t → ShEq (get s t) (get s' t)) → q ∈ ZdH x → Z4r s q = Z4r s' q:=by
  intro x hx hm
  unfold ZdH at hm
  split at hm
  ·rename_i c d ho hd
   simp only [ZdC] at hm
   subst hm
   have:∀ y,y ∈ (Operand.tmp d :: c.args.toList) → ptrs (ev s y) = ptrs (ev s' y):=by
    intro y hy
    refine (ZnN fun t ht => hx t ?_).ptrs
    rw [Z3K] at ht
    simp only [ZdC] at ht
    rw [← ht] at hy
    rcases Z5G.1 hy with e | hy
    ·cases e; exact .inr hd
    ·refine .inl ?_
     unfold Z3w
     rw [ho]
     exact Zw3 _ (Z3K.2 hy)
   have hl:∀ l:List Operand,(∀ y,y ∈ l → ptrs (ev s y) = ptrs (ev s' y)) → Z1p (l.map (ev s)) = Z1p (l.map (ev s')):=by
    intro l
    induction l with
    | nil => intro _; rfl
    | cons y r ih =>
     intro hl
     simp only [Z99,Z1p]
     rw [hl y (by simp),ih fun z hz => hl z (by simp [hz])]
   simp only [Z4r,Z6r]
   rw [hl _ this]
  ·simp only [ZdC] at hm
   subst hm
   exact ne _ _ (fun t ht => by simp [tmpsOf] at ht) (fun t ht => by simp [tmpsOf] at ht)
  ·simp at hm
 have neN:∀ {x y:Oper} {l:List Ask},Zo6 x y = some l → q ∈ l → (∀ t,x.dst = some t → ShEq (get s t) (get s' t)) → (∀ t,t ∈ Z3w y → ShEq (get s t) (get s' t)) → Z4r s q = Z4r s' q:=by
  intro x y l hl hm h1 h2
  unfold Zo6 at hl
  split at hl
  ·rename_i d a hd ha
   simp only [q1_] at hl
   subst hl
   simp only [ZdC] at hm
   subst hm
   refine ne _ _ (fun t ht => h2 t (addr ha ht)) (fun t ht => ?_)
   simp only [tmpsOf,ZdC] at ht
   subst ht
   exact h1 _ hd
  ·simp at hl
 have farq:∀ {x y:Oper} {l:List Ask},Zez x y = some l → q ∈ l → (∀ t,t ∈ Z3w x → ShEq (get s t) (get s' t)) → (∀ t,t ∈ Z3w y → ShEq (get s t) (get s' t)) → Z4r s q = Z4r s' q:=by
  intro x y l hl hm h1 h2
  unfold Zez at hl
  split at hl
  ·rename_i a c ha ho
   simp only [q1_] at hl
   subst hl
   obtain ⟨b,hb,rfl⟩:=Z7a.1 hm
   refine ne _ _ (fun t ht => h1 t (addr ha ht)) (fun t ht => h2 t ?_)
   rw [Z3K] at ht
   simp only [ZdC] at ht
   unfold Z3w
   rw [ho]
   exact Zw3 _ (Z3K.2 (ht ▸ hb))
  ·simp at hl
 unfold Zca at hab
 split at hab
 all_goals first
  | exact farq hab hq (fun t ht => hp t (.inl (.inl ht))) (fun t ht => hp t (.inr (.inl ht)))
  | exact farq hab hq (fun t ht => hp t (.inr (.inl ht))) (fun t ht => hp t (.inl (.inl ht)))
  | (simp only [q1_] at hab; subst hab; simp at hq; done)
  | (simp at hab; done)
  | exact neN hab hq (fun t ht => hp t (.inl (.inr ht))) (fun t ht => hp t (.inr (.inl ht)))
  | exact neN hab hq (fun t ht => hp t (.inr (.inr ht))) (fun t ht => hp t (.inl (.inl ht)))
  | (simp only [q1_] at hab; subst hab; exact np (fun t ht => hp t (.inl ht)) hq)
  | (simp only [q1_] at hab; subst hab; exact np (fun t ht => hp t (.inr ht)) hq)
  | (simp only [q1_] at hab; subst hab
     rcases Zb8.1 hq with h | h
     ·exact np (fun t ht => hp t (.inl ht)) h
     ·exact np (fun t ht => hp t (.inr ht)) h)
  | (split at hab
     ·rename_i a b ha hb
      simp only [q1_] at hab
      subst hab
      simp only [ZdC] at hq
      subst hq
      exact ne _ _ (fun t ht => hp t (.inl (.inl (addr ha ht)))) (fun t ht => hp t (.inr (.inl (addr hb ht))))
     ·simp at hab)
theorem ZyW {slF:Sl} {BF:List Row} {i:Nat} {oi:Oper} (hi:ops[i]? = some oi) (hlat:∀ (j k:Nat) (x o:Oper),j < k → ops[j]? = some x → ops[k]? = some o → Later x o)
  (hown:∀ (k:Nat) (o:Oper) (d:Tmp),ops[k]? = some o → o.dst = some d → d ∉ Z3w o) :
  ∀ (l:List Nat) (sl:Sl) (B:List Row),l.Pairwise (· < ·) → i ∈ l → Run P H f G ops l sl B slF BF →
   (∀ (k:Nat) (x:Oper),k ∈ l → k < i → ops[k]? = some x → Z9b H f ops x oi = true ∧ ∃ ab,Zca P H f x oi = some ab ∧ ∀ q,q ∈ ab → Z4r slF q = true) →
   ∃ s1 B1,Tr P H f G ops oi sl B s1 B1 ∧ Run P H f G ops (l.filter (· != i)) s1 B1 slF BF
 | [],_,_,_,hm,_,_ => by simp at hm
 | k :: l,sl,B,hs,hm,hr,hc => by
  obtain ⟨x,s1,B1,q1,q2,q3⟩:=hr
  obtain ⟨hs1,hs2⟩:=Zj6.1 hs
  by_cases e:k = i
  ·subst e
   rw [hi] at q1
   cases q1
   have hno:k ∉ l:=fun h => Zpn _ (hs1 k h)
   have hf:(k :: l).filter (· != k) = l:=by
    rw [Zrd]
    simp only [bne_self_eq_false,Zj4,if_false]
    rw [List.filter_eq_self]
    intro y hy
    simp only [bne_iff_ne,ne_eq]
    rintro rfl
    exact hno hy
   rw [hf]
   exact ⟨s1,B1,q2,q3⟩
  ·have hil:i ∈ l:=by
    rcases Z5G.1 hm with h | h
    ·exact absurd h.symm e
    ·exact h
   have hki:=hs1 i hil
   obtain ⟨t1,C1,r1,r2⟩:=ZyW hi hlat hown l s1 B1 hs2 hil q3 fun k' x' hk' => hc k' x' (by simp [hk'])
   obtain ⟨hap,ab,hab,hask⟩:=hc k x (by simp) hki q1
   obtain ⟨ap1,ap2⟩:=Zc9 hap
   have hend:∀ t,(t ∈ Z3w x ∨ x.dst = some t) ∨ (t ∈ Z3w oi ∨ oi.dst = some t) → ShEq (get slF t) (get t1 t):=by
    intro t ht
    refine Run.sh _ t1 C1 r2 fun j o hj ho hd => ?_
    rw [Zeu] at hj
    obtain ⟨hjl,hji⟩:=hj
    have hji:j ≠ i:=by simpa using hji
    rcases ht with ht | ht
    ·obtain ⟨l1,l2⟩:=hlat k j x o (hs1 j hjl) q1 ho t hd
     rcases ht with ht | ht
     ·exact l1 ht
     ·exact l2 ht
    ·rcases Nat.lt_or_gt_of_ne hji with hlt | hgt
     ·obtain ⟨hap',_⟩:=hc j o (by simp [hjl]) hlt ho
      obtain ⟨b1,b2⟩:=Zc9 hap'
      have hm:t ∈ Z7I H f o:=Z5q.2 (.inl hd)
      rcases ht with ht | ht
      ·exact (b1 t hm).1 (Zho ht)
      ·exact (b1 t hm).2 (Z5q.2 (.inl ht))
     ·obtain ⟨l1,l2⟩:=hlat i j oi o hgt hi ho t hd
      rcases ht with ht | ht
      ·exact l1 ht
      ·exact l2 ht
   obtain ⟨s1',B1',s2',w1,w2,w3⟩:=swap hap q2 r1 (by
    intro v u g1 g2 g3
    refine ZxM (s2:=t1) hab (fun q hq => ?_) ⟨?_,?_,?_,?_⟩ g1 g2
    ·rw [← Zzu hab hq hend]; exact hask q hq
    ·intro t ht
     have hx:x.dst ≠ some t:=fun hd => hown k x t q1 hd ht
     have ho:oi.dst ≠ some t:=fun hd => ap2 t (Z5q.2 (.inl hd)) (Zho ht)
     exact (r1.sh ho).trans (q2.sh hx)
    ·intro t ht
     have hx:x.dst ≠ some t:=fun hd => (ap1 t (Z5q.2 (.inl hd))).1 (Zho ht)
     have ho:oi.dst ≠ some t:=fun hd => hown i oi t hi hd ht
     exact (r1.sh ho).trans (q2.sh hx)
    ·intro d hd
     have hm:d ∈ Z7I H f x:=Z5q.2 (.inl hd)
     have ho:oi.dst ≠ some d:=fun hd' => (ap1 d hm).2 (Z5q.2 (.inl hd'))
     rw [g3,Zde,if_neg ho,if_neg (fun h => (ap1 d hm).2 (Z5q.2 (.inr h))),Zde,if_pos hd]
     exact .refl _
    ·intro d hd
     rw [g3,Zde,if_pos hd]
     exact .refl _)
   have hf:(k :: l).filter (· != i) = k :: l.filter (· != i):=by
    rw [Zrd,if_pos (by simpa using e)]
   rw [hf]
   exact ⟨s1',B1',w1,x,s2',C1,q1,w2,r2.congr w3⟩
end
end Go.Abs
end
section
namespace Go.Abs
open Go
theorem Zhm {a:Act} {d:Option Tmp} {v:Value} {t:Nat} (h:d ≠ some t):(a.put d v).tmps.getD t undef = a.tmps.getD t undef:=by
 cases d with
 | none => rfl
 | some d =>
  have hn:¬ d = t:=fun e => h (by rw [e])
  show (a.tmps.setIfInBounds d v).getD t undef = _
  simp only [Zsc,Zzd,if_neg hn]
theorem ZHZ {P:Program} {o:Oper} {a:Act} {w:World} {K:Act → World → Prop} {Q:Exit → Act → World → Prop} (hh:o.wp P a w K Q) :
  o.wp P a w (fun a' w' => K a' w' ∧ ∀ t,o.dst ≠ some t → a'.tmps.getD t undef = a.tmps.getD t undef) Q:=by
 unfold Oper.wp at *
 generalize (execOp a.eval o).run P w = r at *
 cases r with
 | ok n w' =>
  cases n <;> simp only [Oper.upon] at hh ⊢ <;>
   first
    | exact ⟨hh,fun t ht => Zhm ht⟩
    | exact Calls.mono hh (fun e w'' he => by cases e <;> first | exact ⟨he,fun t ht => Zhm ht⟩ | exact he)
    | exact Rows.mono hh (fun _ _ he => ⟨he,fun t ht => Zhm ht⟩)
 | halt x w' => cases x <;> simp only [Oper.upon] at hh ⊢ <;> exact hh
structure Lone (w:World) (S:Stay) (β:Nat → Nat) (n:Nat) (L:Loc → AV → Value → Prop) (m:Nat) (arr:Array Value) (ty:TypeId):Prop where
 here:w.heap[m]? = some (.cells arr ty (0,0))
 box:∀ i,i < n → β i ≠ m
 stay:∀ o,¬ S m o
 un:¬ UB L m
theorem Good.adopt {nt:Nat} {w:World} {S:Stay} {β:Nat → Nat} {sl:Sl} {B:List Row} {a:Act} {arr:Array Value} {ty:TypeId} {row:Row} {m:Nat} (h:Good nt w S β sl B a)
  (hl:Lone w S β B.length (Here nt sl a.tmps B β w) m arr ty) (hs:arr.size = row.length)
  (hr:∀ (j:Nat) (x:AV) (v:Value),row[j]? = some x → arr[j]? = some v → ARel w S β B.length x v ∧ Z3g x = true ∧ isUn x = false) :
  Good nt w S (newβ β B.length m) sl (B ++ [row]) a ∧ ∀ b,UB (Here nt sl a.tmps (B ++ [row]) (newβ β B.length m) w) b → UB (Here nt sl a.tmps B β w) b:=by
 have hk:Keeps w S w S:=.refl _ _
 have hn:B.length ≤ (B ++ [row]).length:=by simp
 have hβ:∀ i,i < B.length → newβ β B.length m i = β i:=fun i hi => ZcG hi
 have hcell:∀ j,w.cell? ⟨m,j,none⟩ = arr[j]?:=fun j => Z6s hl.here
 have hget:∀ {id:Nat} {r:Row},(B ++ [row])[id]? = some r → (B[id]? = some r ∧ id < B.length) ∨ (id = B.length ∧ r = row):=by
  intro id r hr
  rw [Zgi] at hr
  split at hr
  ·exact .inl ⟨hr,‹_›⟩
  ·rename_i hlt
   right
   have:id - B.length = 0:=by
    rcases Zw2 (id - B.length) with e | e
    ·exact e
    ·rw [ZcL (by simp; omega)] at hr; simp at hr
   rw [this] at hr
   simp at hr
   exact ⟨by omega,hr.symm⟩
 have back:∀ l x v,Here nt sl a.tmps (B ++ [row]) (newβ β B.length m) w l x v → isUn x = true → Here nt sl a.tmps B β w l x v:=by
  intro l x v hl' hu
  cases l with
  | slot t => exact hl'
  | box id j =>
   obtain ⟨r,q1,q2,q3⟩:=hl'
   rcases hget q1 with ⟨q,hlt⟩ | ⟨rfl,rfl⟩
   ·rw [hβ id hlt] at q3
    exact ⟨r,q,q2,q3⟩
   ·rw [Z4O,hcell] at q3
    rw [(hr j x v q2 q3).2.2] at hu
    simp at hu
 refine ⟨⟨h.size,h.defers,?_,h.high,?_,?_⟩,?_⟩
 ·intro t ht
  exact (h.slots t ht).keeps hk hβ hn
 ·refine ⟨?_,?_,?_,?_,h.mem.stay,?_⟩
  ·intro id r hr' hm
   rcases hget hr' with ⟨q,hlt⟩ | ⟨rfl,rfl⟩
   ·obtain ⟨cs,ty',q1,q2⟩:=h.mem.row id r q hm
    exact ⟨cs,ty',by rw [hβ id hlt]; exact q1,q2⟩
   ·exact ⟨arr,ty,by rw [Z4O]; exact hl.here,hs⟩
  ·intro id r j x hr' hm hx
   rcases hget hr' with ⟨q,hlt⟩ | ⟨rfl,rfl⟩
   ·obtain ⟨v,q1,q2,q3⟩:=h.mem.cell id r j x q hm hx
    exact ⟨v,by rw [hβ id hlt]; exact q1,q2.keeps hk hβ hn,q3⟩
   ·have hj:j < arr.size:=by rw [hs]; exact (q2_.1 hx).1
    obtain ⟨q1,q2,_⟩:=hr j x arr[j] hx (by simp [hj])
    exact ⟨arr[j],by rw [Z4O,hcell]; simp [hj],q1.keeps hk hβ hn,q2⟩
  ·intro i j hi hj e
   simp only [q3_,q5_,q8_] at hi hj
   rcases Z9X i B.length with hi' | hi' <;> rcases Z9X j B.length with hj' | hj'
   ·rw [hβ i hi',hβ j hj'] at e; exact h.mem.inj i j hi' hj' e
   ·have:j = B.length:=by omega
    subst this
    rw [hβ i hi',Z4O] at e
    exact absurd e (hl.box i hi')
   ·have:i = B.length:=by omega
    subst this
    rw [hβ j hj',Z4O] at e
    exact absurd e.symm (hl.box j hj')
   ·omega
  ·intro i hi o ho
   simp only [q3_,q5_,q8_] at hi
   rcases Z9X i B.length with hi' | hi'
   ·rw [hβ i hi'] at ho; exact h.mem.apart i hi' o ho
   ·have:i = B.length:=by omega
    subst this
    rw [Z4O] at ho
    exact hl.stay o ho
  ·intro id r es hr' hm
   rcases hget hr' with ⟨q,hlt⟩ | ⟨rfl,rfl⟩
   ·have:=h.mem.maps id r es q hm
    rw [hβ id hlt]
    exact this
   ·have e:=ZeN hm
    have h0:0 < arr.size:=by rw [hs,e]; simp
    obtain ⟨_,q2,_⟩:=hr 0 (.md es) arr[0] (by rw [e]; rfl) (by simp [h0])
    simp [Z3g] at q2
 ·refine ⟨?_,?_⟩
  ·intro l x v hl' hu
   have hb:=back l x v hl' hu
   obtain ⟨q1,q2⟩:=h.uns.ok l x v hb hu
   refine ⟨q1,fun i hi e => ?_⟩
   simp only [q3_,q5_,q8_] at hi
   rcases Z9X i B.length with hlt | hge
   ·rw [hβ i hlt] at e; exact q2 i hlt e
   ·have:i = B.length:=by omega
    subst this
    rw [Z4O] at e
    exact hl.un ⟨l,x,v,hb,hu,e⟩
  ·intro l l' x x' v v' hl1 hl2 hu hu' e
   exact h.uns.inj l l' x x' v v' (back l x v hl1 hu) (back l' x' v' hl2 hu') hu hu' e
 ·rintro b ⟨l,x,v,hl',hu,hb⟩
  exact ⟨l,x,v,back l x v hl' hu,hu,hb⟩
theorem Lone.step {m0:Nat} {w w':World} {S S':Stay} {β β':Nat → Nat} {n n':Nat} {L L':Loc → AV → Value → Prop} {m:Nat} {arr:Array Value} {ty:TypeId} (h:Lone w S β n L m arr ty)
  (hs:Step m0 w S β n (UB L) w' S' β' n' (UB L')):Lone w' S' β' n' L' m arr ty:=by
 have hm:m < w.heap.size:=(Z8t.1 h.here).1
 refine ⟨?_,?_,?_,?_⟩
 ·rw [hs.block m hm (fun i hi e => h.box i hi e.symm) h.un]
  exact h.here
 ·intro i hi e
  rcases hs.boxes i hi with ⟨j,hj,e',_⟩ | hge
  ·exact h.box j hj (e'.symm.trans e)
  ·omega
 ·intro o ho
  rcases hs.grown m o ho with h1 | h1 | h1
  ·exact h.stay o h1
  ·omega
  ·exact h.un h1
 ·intro hu
  rcases hs.uns m hu with h1 | h1
  ·exact h.un h1
  ·omega
section
variable {P:Program} {H:Hints} {f:FuncId} {G:GF} {ops:Array Oper}
theorem ZC3 {o:Oper} (h:isAl o = true):∃ t d,o.op = .alloc t ∧ o.guard = none ∧ o.dst = some d:=by
 rcases o with ⟨dst,op,ty,pos,after,guard⟩
 unfold isAl at h
 simp only [Z4R,Option.isNone_iff_eq_none,Option.isSome_iff_exists] at h
 obtain ⟨⟨h1,h2⟩,d,h3⟩:=h
 cases op <;> simp at h1
 exact ⟨_,d,rfl,h2,h3⟩
theorem ZE4 {o:Oper} {t d:Nat} {sl s1:Sl} {B B1:List Row} (ho:o.op = .alloc t) (hg:o.guard = none) (hd:o.dst = some d) (h:Tr P H f G ops o sl B s1 B1) :
  ∃ z zv,(P.info? t).bind (·.zero) = some zv ∧ Z8i zv = some z ∧ Z5a z = false ∧ B1 = B ++ [Z2k z] ∧ Eqv s1 ((d,.ptr B.length 0) :: sl):=by
 rcases h with ⟨_,v,h2,h3⟩ | ⟨h1,_⟩
 ·unfold Fop stepOp at h2
  simp only [ho] at h2
  unfold bz at h2
  obtain ⟨z,hz,h2⟩:=ZR h2
  unfold zeroOf at hz
  split at hz
  ·rename_i i hi
   obtain ⟨zv,hzv,hzr⟩:=ZR hz
   unfold bx at h2
   split at h2
   ·simp at h2
   ·rename_i ht
    simp only [q1_,Z43] at h2
    obtain ⟨rfl,rfl⟩:=h2
    refine ⟨z,zv,by rw [hi]; exact hzv,hzr,by simpa using ht,rfl,?_⟩
    have hw:wk H f o = []:=by unfold wk; simp only [ho]
    rw [hw,hd] at h3
    exact h3
  ·simp at hz
 ·unfold want at h1
  rw [hg] at h1
  simp at h1
theorem Run.unset {slF:Sl} {BF:List Row} {i t d:Nat} {oi:Oper} (hi:ops[i]? = some oi) (ho:oi.op = .alloc t) (hg:oi.guard = none) (hd:oi.dst = some d) (x0:AV) :
  ∀ (l:List Nat) (sl:Sl) (B:List Row),l.Pairwise (· < ·) → i ∈ l → (∀ (k:Nat) (x:Oper),k ∈ l → k < i → ops[k]? = some x → Z9b H f ops x oi = true) → Run P H f G ops l sl B slF BF → Run P H f G ops l ((d,x0) :: sl) B slF BF
 | [],_,_,_,hm,_,_ => by simp at hm
 | k :: l,sl,B,hs,hm,hap,hr => by
  obtain ⟨x,s1,B1,q1,q2,q3⟩:=hr
  obtain ⟨hs1,hs2⟩:=Zj6.1 hs
  by_cases e:k = i
  ·subst e
   rw [hi] at q1
   cases q1
   refine ⟨oi,s1,B1,hi,?_,q3⟩
   rcases q2 with ⟨h1,v,h2,h3⟩ | ⟨h1,_⟩
   ·have hops:oi.op.operands = #[]:=by rw [ho]; rfl
    refine .inl ⟨by unfold want; rw [hg],v,?_,?_⟩
    ·rw [Za1 P H f G oi _ sl B (fun y hy => by rw [hops] at hy; simp at hy)]
     exact h2
    ·have hw:wk H f oi = []:=by unfold wk; simp only [ho]
     rw [hw,hd] at h3 ⊢
     refine h3.trans fun t => ?_
     show get ((d,v) :: sl) t = get ((d,v) :: (d,x0) :: sl) t
     simp only [Z1Z]
     split <;> rfl
   ·unfold want at h1
    rw [hg] at h1
    simp at h1
  ·have hil:i ∈ l:=by
    rcases Z5G.1 hm with h | h
    ·exact absurd h.symm e
    ·exact h
   obtain ⟨a1,a2⟩:=Zc9 (hap k x (by simp) (hs1 i hil) q1)
   have hdt:d ∈ Z7I H f oi:=Z5q.2 (.inl hd)
   have hdl:d ∉ x.looksAt ops:=a2 d hdt
   have hdx:d ∉ Z7I H f x:=fun h => (a1 d h).2 hdt
   rw [Z5q,not_or] at hdx
   have hlk:∀ t,t ∈ x.looksAt ops → get ((d,x0) :: sl) t = get sl t:=by
    intro t ht
    rw [Z1Z,if_neg (by rintro rfl; exact hdl ht)]
   obtain ⟨e1,w1⟩:=ZoR hlk
   refine ⟨x,(d,x0) :: s1,B1,q1,?_,Run.unset hi ho hg hd x0 l s1 B1 hs2 hil (fun k' x' hk' => hap k' x' (by simp [hk'])) q3⟩
   have hupd:∀ (ws:List Operand) (v:AV),(∀ t,t ∈ tmpsOf ws → t ∈ tmpsOf (wk H f x)) → Eqv s1 (upd sl ws x.dst v) → Eqv ((d,x0) :: s1) (upd ((d,x0) :: sl) ws x.dst v):=by
    intro ws v hws he t
    rw [Z1Z,Zde,he t,Zde,Z1Z]
    by_cases hdt:d = t
    ·subst hdt
     rw [if_pos rfl,if_neg hdx.1,if_neg (fun h => hdx.2 (hws d h)),if_pos rfl]
    ·rw [if_neg hdt,if_neg hdt]
   rcases q2 with ⟨h1,v,h2,h3⟩ | ⟨h1,h2,h3⟩
   ·exact .inl ⟨by rw [w1]; exact h1,v,by rw [Za1 P H f G x _ sl B e1]; exact h2,hupd _ v (fun _ h => h) h3⟩
   ·exact .inr ⟨by rw [w1]; exact h1,h2,hupd [] ud (fun t h => by simp [tmpsOf] at h) h3⟩
end
end Go.Abs
end
section
namespace Go.Abs
open Go
def msOf:List Oper → List Nat → List Nat
 | [],ms => ms
 | o :: os,ms => msOf os (ms ++ [Z9y ms o.after.toList])
def Zni (ops:Array Oper):Bool :=
 (List.range ops.size).all fun i => (List.range i).all fun p => match ops[i]?,ops[p]? with
  | some oi,some op => !(Z7V oi && Z7V op) || ((msOf ops.toList []).getD i 0).testBit p ||
   (isAl oi && isAl op && (List.range ops.size).all fun k => !((msOf ops.toList []).getD k 0).testBit i || ((msOf ops.toList []).getD k 0).testBit p)
  | _,_ => true
def Zko (H:Hints) (f:FuncId) (ops:Array Oper):Bool :=
 Zni ops && (List.range ops.size).all fun k => match ops[k]? with
  | none => true
  | some o => o.after.all (fun e => !Region.binds .any e || decide (e.on < k)) &&
   (match o.dst with | some d => !(Z3w o).contains d | none => true) &&
   (List.range k).all fun i => match ops[i]? with
    | none => true
    | some x => (match o.dst with | some d => !(Z3w x).contains d && x.dst != some d | none => true) && (((msOf ops.toList []).getD k 0).testBit i || Z9b H f ops x o)
section
variable {P:Program} {H:Hints} {f:FuncId} {G:GF} {ops:Array Oper}
theorem ZoD (h:Zni ops = true) {i p:Nat} {oi op:Oper} (hp:p < i) (hi:ops[i]? = some oi) (ho:ops[p]? = some op) (h1:Z7V oi = true) (h2:Z7V op = true) (hm:((msOf ops.toList []).getD i 0).testBit p ≠ true) :
  isAl oi = true ∧ isAl op = true ∧ ∀ k,k < ops.size → ((msOf ops.toList []).getD k 0).testBit i = true → ((msOf ops.toList []).getD k 0).testBit p = true:=by
 unfold Zni at h
 simp only [Z8v,ZhB] at h
 have:=h i (Z8t.1 hi).1 p hp
 simp only [hi,ho,h1,h2,Bool.and_self,Bool.not_true,Bool.false_or,Zj7,Z4R,Z8v,ZhB] at this
 rcases this with this | ⟨⟨a,b⟩,c⟩
 ·exact absurd this hm
 ·refine ⟨a,b,fun k hk hb => ?_⟩
  rcases c k hk with c | c
  ·rw [hb] at c; exact absurd c (by decide)
  ·exact c
theorem ZwL (h:Zko H f ops = true):Zni ops = true:=by
 unfold Zko at h
 simp only [Z4R] at h
 exact h.1
theorem ZwM (h:Zko H f ops = true) :
  (∀ (k:Nat) (o:Oper) (e:Edge),ops[k]? = some o → e ∈ o.after → Region.binds .any e = true → e.on < k) ∧ (∀ (k:Nat) (o:Oper) (d:Tmp),ops[k]? = some o → o.dst = some d → d ∉ Z3w o) ∧
  (∀ (j k:Nat) (x o:Oper),j < k → ops[j]? = some x → ops[k]? = some o → Later x o) ∧
  ∀ (j k:Nat) (x o:Oper),j < k → ops[j]? = some x → ops[k]? = some o → ((msOf ops.toList []).getD k 0).testBit j = true ∨ Z9b H f ops x o = true:=by
 unfold Zko at h
 simp only [Z4R,Z8v,ZhB] at h
 replace h:=h.2
 have hk:∀ {k:Nat} {o:Oper},ops[k]? = some o → k < ops.size:=fun h => (Z8t.1 h).1
 refine ⟨?_,?_,?_,?_⟩
 ·intro k o e ho he hb
  have:=h k (hk ho)
  simp only [ho,Z4R,ZDL] at this
  have:=this.1.1 e he
  simpa [hb] using this
 ·intro k o d ho hd
  have:=h k (hk ho)
  simp only [ho,Z4R,hd] at this
  simpa using this.1.2
 ·intro j k x o hjk hx ho d hd
  have:=h k (hk ho)
  simp only [ho,Z4R,Z8v,ZhB] at this
  have:=this.2 j hjk
  simp only [hx,hd,Z4R] at this
  simpa using this.1
 ·intro j k x o hjk hx ho
  have:=h k (hk ho)
  simp only [ho,Z4R,Z8v,ZhB] at this
  have:=this.2 j hjk
  simp only [hx,Z4R,Zj7] at this
  exact this.2
theorem ZlS:∀ (os:List Oper) (ms:List Nat) (i:Nat),i < ms.length → (msOf os ms)[i]? = ms[i]?
 | [],ms,i,_ => rfl
 | o :: os,ms,i,h => by
  rw [msOf,ZlS os _ i (by simp; omega),Zgi,if_pos h]
theorem Zxh:∀ (os:List Oper) (ms:List Nat) (k:Nat) (o:Oper),os[k]? = some o → (msOf os ms)[ms.length + k]? = some (Z9y ((msOf os ms).take (ms.length + k)) o.after.toList)
 | [],ms,k,o,h => by simp at h
 | x :: os,ms,k,o,h => by
  cases k with
  | zero =>
   simp only [ZcJ,q1_] at h
   subst h
   rw [msOf,ZbF,ZlS os _ ms.length (by simp)]
   have:(msOf os (ms ++ [Z9y ms x.after.toList])).take ms.length = ms:=by
    apply Zm0
    intro i
    rw [Zet]
    split
    ·rw [ZlS os _ i (by simp; omega),Zgi,if_pos ‹_›]
    ·rw [ZcL (by omega)]
   rw [this]
   simp
  | succ k =>
   have:=Zxh os (ms ++ [Z9y ms x.after.toList]) k o (by simpa using h)
   simp only [q3_,q5_,q8_] at this
   rw [msOf]
   have e:ms.length + (k + 1) = ms.length + (0 + 1) + k:=by omega
   rw [e]
   exact this
theorem Zpa {ms:List Nat} {i:Nat}:∀ (es:List Edge),(Z9y ms es).testBit i = true → ∃ e,e ∈ es ∧ Region.binds .any e = true ∧ (e.on = i ∨ (ms.getD e.on 0).testBit i = true)
 | [],h => by simp [Z9y] at h
 | e :: es,h => by
  rw [Z9y] at h
  split at h
  ·rename_i hb
   rw [Nat.testBit_or,Nat.testBit_or,Zj7,Zj7,Nat.testBit_two_pow] at h
   rcases h with h | h | h
   ·exact ⟨e,by simp,hb,.inl (by simpa using h)⟩
   ·exact ⟨e,by simp,hb,.inr h⟩
   ·obtain ⟨e',h1,h2⟩:=Zpa es h
    exact ⟨e',by simp [h1],h2⟩
  ·obtain ⟨e',h1,h2⟩:=Zpa es h
   exact ⟨e',by simp [h1],h2⟩
def Down (ops:Array Oper) (listed:Array Bool):Prop:=∀ (j:Nat) (o:Oper) (e:Edge),listed.getD j false = true → ops[j]? = some o → e ∈ o.after → Region.binds .any e = true → listed.getD e.on false = true
theorem Zgy {listed:Array Bool} (hok:∀ (k:Nat) (o:Oper) (e:Edge),ops[k]? = some o → e ∈ o.after → Region.binds .any e = true → e.on < k) (hd:Down ops listed) :
  ∀ (k:Nat) (o:Oper) (i:Nat),ops[k]? = some o → (∀ e,e ∈ o.after → Region.binds .any e = true → listed.getD e.on false = true) → ((msOf ops.toList []).getD k 0).testBit i = true → listed.getD i false = true:=by
 intro k
 induction k using Nat.strongRecOn with
 | _ k ih =>
  intro o i ho he hb
  have hat:=Zxh ops.toList [] k o (by simpa using ho)
  simp only [q8_,Zfq] at hat
  rw [Z87,hat] at hb
  obtain ⟨e,h1,h2,h3⟩:=Zpa _ hb
  have h1':e ∈ o.after:=by simpa using h1
  have hlt:=hok k o e ho h1' h2
  have hl:=he e h1' h2
  rcases h3 with h3 | h3
  ·rw [← h3]; exact hl
  ·have hk:k < ops.size:=(Z8t.1 ho).1
   have hon:ops[e.on]? = some ops[e.on]:=by simp
   refine ih e.on hlt _ i hon (fun e' h4 h5 => hd e.on _ e' hl hon h4 h5) ?_
   rw [Z87] at h3 ⊢
   rw [Zet,if_pos hlt] at h3
   exact h3
theorem Zhy {m:Nat} {o:Oper}:∀ {nf:List (Nat × Oper)} {l:List Ask},Zge P H f m o nf = some l → ∀ i x,(i,x) ∈ nf → m.testBit i = true ∨ (Z7V x = true ∧ Z7V o = true) ∨ ∃ ab,Zca P H f x o = some ab ∧ ∀ q,q ∈ ab → q ∈ l
 | [],_,_,i,x,h => by simp at h
 | (j,y) :: r,l,h,i,x,hm => by
  rw [Zge] at h
  split at h
  ·rename_i hb
   rcases Z5G.1 hm with e | hm
   ·cases e
    rcases Zj7 _ _ ▸ hb with hb | hb
    ·exact .inl hb
    ·exact .inr (.inl (by simpa using hb))
   ·exact Zhy h i x hm
  ·split at h
   ·simp at h
   ·rename_i ab hab
    split at h
    ·simp at h
    ·rename_i l' hl'
     simp only [q1_] at h
     subst h
     rcases Z5G.1 hm with e | hm
     ·cases e
      exact .inr (.inr ⟨ab,hab,fun q hq => by simp [hq]⟩)
     ·rcases Zhy hl' i x hm with h1 | h1 | ⟨ab',h1,h2⟩
      ·exact .inl h1
      ·exact .inr (.inl h1)
      ·exact .inr (.inr ⟨ab',h1,fun q hq => by simp [h2 q hq]⟩)
theorem Zz3 {o:Oper} {os:List Oper} {j:Nat} {ms:List Nat} {nf:List (Nat × Oper)} {asks l:List Ask} (h:Zgx P H f (o :: os) j ms nf asks = some l) :
  (cls P H f o = .free ∧ Zgx P H f os (j + 1) (ms ++ [Z9y ms o.after.toList]) nf asks = some l) ∨
  (cls P H f o ≠ .free ∧ ∃ ab,Zge P H f (Z9y ms o.after.toList) o nf = some ab ∧ Zgx P H f os (j + 1) (ms ++ [Z9y ms o.after.toList]) (nf ++ [(j,o)]) (asks ++ ab) = some l):=by
 have hf:∀ {α:Type} (n:Nat) (k:Nat → α),force n k = k n:=fun n k => by cases n <;> rfl
 rw [Zgx,hf] at h
 split at h
 ·rename_i hc
  exact .inl ⟨hc,h⟩
 ·rename_i hc
  split at h
  ·simp at h
  ·rename_i ab hab
   exact .inr ⟨hc,ab,hab,h⟩
theorem ZlN:∀ (os:List Oper) (j:Nat) (ms:List Nat) (nf:List (Nat × Oper)) (asks l:List Ask),ms.length = j → Zgx P H f os j ms nf asks = some l →
  (∀ q,q ∈ asks → q ∈ l) ∧ ∀ (k:Nat) (o:Oper) (i:Nat) (x:Oper),os[k]? = some o → cls P H f o ≠ .free →
   ((i,x) ∈ nf ∨ ∃ k',k' < k ∧ i = j + k' ∧ os[k']? = some x ∧ cls P H f x ≠ .free) →
   ((msOf os ms).getD (j + k) 0).testBit i = true ∨ (Z7V x = true ∧ Z7V o = true) ∨ ∃ ab,Zca P H f x o = some ab ∧ ∀ q,q ∈ ab → q ∈ l
 | [],j,ms,nf,asks,l,_,h => by
  simp only [Zgx,q1_] at h
  subst h
  exact ⟨fun _ h => h,fun k o i x h => by simp at h⟩
 | o :: os,j,ms,nf,asks,l,hl,h => by
  have hm0:(msOf os (ms ++ [Z9y ms o.after.toList])).getD j 0 = Z9y ms o.after.toList:=by
   rw [Z87,ZlS os _ j (by simp; omega),← hl]
   simp
  have hj:∀ k,j + (k + 1) = j + 1 + k:=fun k => by omega
  rcases Zz3 h with ⟨hc,h⟩ | ⟨hc,ab,hab,h⟩
  ·obtain ⟨h1,h2⟩:=ZlN os (j + 1) _ _ _ l (by simp [hl]) h
   refine ⟨h1,?_⟩
   intro k o' i x ho' hc' hx
   cases k with
   | zero =>
    simp only [ZcJ,q1_] at ho'
    subst ho'
    exact absurd hc hc'
   | succ k =>
    rw [msOf,hj]
    refine h2 k o' i x (by simpa using ho') hc' ?_
    rcases hx with hx | ⟨k',hk',rfl,hx,hcx⟩
    ·exact .inl hx
    ·cases k' with
     | zero =>
      simp only [ZcJ,q1_] at hx
      subst hx
      exact absurd hc hcx
     | succ k' => exact .inr ⟨k',by omega,by omega,by simpa using hx,hcx⟩
  ·obtain ⟨h1,h2⟩:=ZlN os (j + 1) _ _ _ l (by simp [hl]) h
   refine ⟨fun q hq => h1 q (by simp [hq]),?_⟩
   intro k o' i x ho' hc' hx
   cases k with
   | zero =>
    simp only [ZcJ,q1_] at ho'
    subst ho'
    rcases hx with hx | ⟨k',hk',_⟩
    ·rw [msOf,ZbF,hm0]
     rcases Zhy hab i x hx with h3 | h3 | ⟨ab',h3,h4⟩
     ·exact .inl h3
     ·exact .inr (.inl h3)
     ·exact .inr (.inr ⟨ab',h3,fun q hq => h1 q (by simp [h4 q hq])⟩)
    ·omega
   | succ k =>
    rw [msOf,hj]
    refine h2 k o' i x (by simpa using ho') hc' ?_
    rcases hx with hx | ⟨k',hk',rfl,hx,hcx⟩
    ·exact .inl (by simp [hx])
    ·cases k' with
     | zero =>
      simp only [ZcJ,q1_] at hx
      subst hx
      exact .inl (by simp)
     | succ k' => exact .inr ⟨k',by omega,by omega,by simpa using hx,hcx⟩
theorem Zwz {x o:Oper} (h:cls P H f x = .free ∨ cls P H f o = .free):Zca P H f x o = some []:=by
 unfold Zca
 rcases h with h | h
 ·rw [h]
 ·rw [h]
  split <;> first | rfl | (simp_all; done)
theorem Zoq {sl:Sl} {k:Option Res} {r:Res}:∀ {l:List Ask},askAll sl l k = some r → (∀ q,q ∈ l → Z4r sl q = true) ∧ k = some r
 | [],h => ⟨by simp,h⟩
 | q :: l,h => by
  change grd (Z4r sl q) (askAll sl l k) = some r at h
  unfold grd hi at h
  split at h
  ·rename_i hq
   obtain ⟨h1,h2⟩:=Zoq h
   refine ⟨fun q' hq' => ?_,h2⟩
   rcases Z5G.1 hq' with rfl | hq'
   ·exact hq
   ·exact h1 q' hq'
  ·simp at h
def Z3n (ops:Array Oper) (listed:Array Bool):List Nat:=(List.range ops.size).filter fun j => !listed.getD j true
theorem Zft (listed:Array Bool):(Z3n ops listed).Pairwise (· < ·):=List.Pairwise.filter _ List.pairwise_lt_range
theorem Z72 {listed:Array Bool} {j:Nat}:j ∈ Z3n ops listed ↔ j < ops.size ∧ listed.getD j true = false:=by
 unfold Z3n
 simp
variable {b:Base} {Q:Exit → Act → World → Prop}
structure LoneAt (P:Program) (b:Base) (ops:Array Oper) (sl:Sl) (B:List Row) (S:Stay) (β:Nat → Nat) (a:Act) (w:World) (j m:Nat):Prop where
 op:∃ o t d z zv,ops[j]? = some o ∧ o.op = .alloc t ∧ o.guard = none ∧ o.dst = some d ∧ (P.info? t).bind (·.zero) = some zv ∧ Z8i zv = some z ∧ Z5a z = false ∧
  a.tmps.getD d undef = .pointer (some ⟨m,0,none⟩) ∧ Lone w S β B.length (Here b.nt sl a.tmps B β w) m zv.cells t
 old:b.w.heap.size ≤ m
def InvD (P:Program) (b:Base) (ops:Array Oper) (listed:Array Bool) (re:List Nat) (sl:Sl) (B:List Row) (a:Act) (w:World):Prop :=
 ∃ (S:Stay) (β:Nat → Nat) (mf:Nat → Nat),Good b.nt w S β sl B a ∧ Step b.m0 b.w b.S b.β b.n b.U w S β B.length (UB (Here b.nt sl a.tmps B β w)) ∧
  (∀ j,j ∈ re → listed.getD j true = true → LoneAt P b ops sl B S β a w j (mf j)) ∧
  (∀ j k,j ∈ re → k ∈ re → listed.getD j true = true → listed.getD k true = true → mf j = mf k → j = k)
structure LS (ops:Array Oper) (listed:Array Bool) (re:List Nat):Prop where
 sorted:re.Pairwise (· < ·)
 size:∀ j,j ∈ re → j < ops.size
 all:∀ j,j < ops.size → listed.getD j true = false → j ∈ re
def Zpu (ops:Array Oper) (listed:Array Bool) (re:List Nat):Prop :=
 ∀ j,j ∈ re → listed.getD j true = true → ∃ p op,p ∈ re ∧ p < j ∧ listed.getD p true = false ∧ ops[p]? = some op ∧ Z7V op = true
theorem ZeK {listed:Array Bool} {j:Nat} (hj:j < listed.size):listed.getD j true = listed.getD j false:=by
 simp only [Zsc,Zfp hj,ZEz]
theorem Run.mem {slF:Sl} {BF:List Row} {i:Nat} {oi:Oper} (hi:ops[i]? = some oi):∀ (l:List Nat) (sl:Sl) (B:List Row),i ∈ l → Run P H f G ops l sl B slF BF → ∃ s C s1 C1,Tr P H f G ops oi s C s1 C1
 | [],_,_,hm,_ => by simp at hm
 | k :: l,sl,B,hm,hr => by
  obtain ⟨x,s1,B1,q1,q2,q3⟩:=hr
  by_cases e:k = i
  ·subst e
   rw [hi] at q1
   cases q1
   exact ⟨_,_,_,_,q2⟩
  ·have hil:i ∈ l:=by
    rcases Z5G.1 hm with h | h
    ·exact absurd h.symm e
    ·exact h
   exact Run.mem hi l s1 B1 hil q3
theorem ZzI {i j d:Nat} {o x:Oper} (k3:∀ (j k:Nat) (x o:Oper),j < k → ops[j]? = some x → ops[k]? = some o → Later x o) (hi:ops[i]? = some o) (hj:ops[j]? = some x) (hij:j ≠ i) (hd:x.dst = some d):o.dst ≠ some d:=by
 intro h
 rcases Nat.lt_or_gt_of_ne hij with hlt | hgt
 ·exact (k3 j i x o hlt hj hi d h).2 hd
 ·exact (k3 i j o x hgt hi hj d hd).2 h
theorem ZDr {w:World} {S:Stay} {β:Nat → Nat} {n:Nat} {z:AV} {zv:Value} (h:Z8i zv = some z) (ht:Z5a z = false) :
  zv.cells.size = (Z2k z).length ∧ ∀ (j:Nat) (x:AV) (v:Value),(Z2k z)[j]? = some x → zv.cells[j]? = some v → ARel w S β n x v ∧ Z3g x = true ∧ isUn x = false:=by
 obtain ⟨c1,c2⟩:=Za4 (Zaq (w:=w) (S:=S) (β:=β) (n:=n) h) ht
 refine ⟨c1,fun j x v hx hv => ?_⟩
 obtain ⟨q1,q2,q3⟩:=c2 j x v hx hv
 refine ⟨q1,q2,?_⟩
 cases hu:isUn x with
 | false => rfl
 | true =>
  obtain ⟨_,e2,_⟩:=q3 hu
  subst e2
  rw [Zan h] at hu
  simp at hu
section
variable (k1:∀ (k:Nat) (o:Oper) (e:Edge),ops[k]? = some o → e ∈ o.after → Region.binds .any e = true → e.on < k) (k2:∀ (k:Nat) (o:Oper) (d:Tmp),ops[k]? = some o → o.dst = some d → d ∉ Z3w o)
 (k3:∀ (j k:Nat) (x o:Oper),j < k → ops[j]? = some x → ops[k]? = some o → Later x o)
 (k4:∀ (j k:Nat) (x o:Oper),j < k → ops[j]? = some x → ops[k]? = some o → ((msOf ops.toList []).getD k 0).testBit j = true ∨ Z9b H f ops x o = true)
 (hdst:∀ (i:Nat) (o:Oper) (t:Tmp),ops[i]? = some o → o.dst = some t → t < b.nt) {l:List Ask} (hl:Zgx P H f ops.toList 0 [] [] [] = some l) {slF:Sl} {BF:List Row} (hask:∀ q,q ∈ l → Z4r slF q = true)
include k1 k2 k3 k4 hdst hl hask
omit k1 k2 k3 k4 hdst in
theorem ZvW {i k:Nat} {o x:Oper} (ho:ops[i]? = some o) (hx:ops[k]? = some x) (hki:k < i) (hnb:((msOf ops.toList []).getD i 0).testBit k ≠ true) (hnn:¬ (Z7V x = true ∧ Z7V o = true)) :
  ∃ ab,Zca P H f x o = some ab ∧ ∀ q,q ∈ ab → Z4r slF q = true:=by
 obtain ⟨_,hl2⟩:=ZlN ops.toList 0 [] [] [] l rfl hl
 by_cases hfree:cls P H f x = .free ∨ cls P H f o = .free
 ·exact ⟨[],Zwz hfree,by simp⟩
 ·simp only [not_or] at hfree
  have:=hl2 i o k x (by simpa using ho) hfree.2 (.inr ⟨k,hki,by omega,by simpa using hx,hfree.1⟩)
  rw [Zfq] at this
  obtain ⟨ab,h3,h4⟩:=(this.resolve_left hnb).resolve_left hnn
  exact ⟨ab,h3,fun q hq => hask q (h4 q hq)⟩
theorem ZF1 {listed:Array Bool} (hsz:listed.size = ops.size) (hdown:Down ops listed) {a:Act} {w:World}:∀ (n:Nat) (re:List Nat) (sl:Sl) (B:List Row),(re.filter fun j => listed.getD j true).length ≤ n → LS ops listed re →
  Run P H f G ops re sl B slF BF → InvD P b ops listed re sl B a w → ∃ re' sl' B',LS ops listed re' ∧ Run P H f G ops re' sl' B' slF BF ∧ InvD P b ops listed re' sl' B' a w ∧ Zpu ops listed re':=by
 intro n
 induction n with
 | zero =>
  intro re sl B hn hls hrun hinv
  refine ⟨re,sl,B,hls,hrun,hinv,fun j hj hlj => ?_⟩
  have:j ∈ re.filter fun j => listed.getD j true:=Zeu.2 ⟨hj,hlj⟩
  rw [Zpg.1 (Nat.le_zero.1 hn)] at this
  simp at this
 | succ n ih =>
  intro re sl B hn hls hrun hinv
  by_cases hnorm:Zpu ops listed re
  ·exact ⟨re,sl,B,hls,hrun,hinv,hnorm⟩
  obtain ⟨j,hj⟩:=Classical.not_forall.1 hnorm
  obtain ⟨hj,hj2⟩:=Classical.not_imp.1 hj
  obtain ⟨hlj,hno⟩:=Classical.not_imp.1 hj2
  cases hfl:re.filter (fun j => listed.getD j true) with
  | nil =>
   have:j ∈ re.filter fun j => listed.getD j true:=Zeu.2 ⟨hj,hlj⟩
   rw [hfl] at this
   simp at this
  | cons j0 rest =>
   have hsf:(re.filter fun j => listed.getD j true).Pairwise (· < ·):=hls.sorted.filter _
   rw [hfl] at hsf hn
   have hmin:∀ k,k ∈ re → listed.getD k true = true → j0 ≤ k:=by
    intro k hk hlk
    have:k ∈ re.filter fun j => listed.getD j true:=Zeu.2 ⟨hk,hlk⟩
    rw [hfl] at this
    rcases Z5G.1 this with rfl | h
    ·exact Z2x _
    ·exact Nat.le_of_lt ((Zj6.1 hsf).1 k h)
   have hj0':j0 ∈ re.filter fun j => listed.getD j true:=by rw [hfl]; simp
   obtain ⟨hj0,hlj0⟩:=Zeu.1 hj0'
   have hno0:∀ p op,p ∈ re → p < j0 → listed.getD p true = false → ops[p]? = some op → Z7V op ≠ true:=by
    intro p op hp hlt hlp hop hnew
    exact hno ⟨p,op,hp,Znp hlt (hmin j hj hlj),hlp,hop,hnew⟩
   obtain ⟨S,β,mf,hg,hst,hlone,hinj⟩:=hinv
   obtain ⟨⟨o,t,d,z,zv,ho,hop,hgd,hd,hz,hzv,ht,htm,hL⟩,hold⟩:=hlone j0 hj0 hlj0
   have hj0s:j0 < listed.size:=by rw [hsz]; exact hls.size j0 hj0
   have hlj0':listed.getD j0 false = true:=by rw [← ZeK hj0s]; exact hlj0
   obtain ⟨s1,B1,htr,hrun'⟩:=ZyW ho k3 k2 re sl B hls.sorted hj0 hrun (by
    intro k x hk hki hx
    have hlk:listed.getD k true = false:=by
     cases hc:listed.getD k true with
     | false => rfl
     | true => have:=hmin k hk hc; omega
    have hks:k < listed.size:=by rw [hsz]; exact hls.size k hk
    have hnb:((msOf ops.toList []).getD j0 0).testBit k ≠ true:=by
     intro hb
     have:=Zgy k1 hdown j0 o k ho (fun e he hb => hdown j0 o e hlj0' ho he hb) hb
     rw [← ZeK hks,hlk] at this
     simp at this
    exact ⟨(k4 k j0 x o hki hx ho).resolve_left hnb,ZvW hl hask ho hx hki hnb (fun h => hno0 k x hk hki hlk hx h.1)⟩)
   obtain ⟨z',zv',hz',hzv',ht',rfl,heq⟩:=ZE4 hop hgd hd htr
   rw [hz] at hz'
   cases hz'
   rw [hzv] at hzv'
   cases hzv'
   obtain ⟨c1,c2⟩:=ZDr (w:=w) (S:=S) (β:=β) (n:=B.length) hzv ht
   obtain ⟨hga,hub⟩:=hg.adopt hL c1 c2
   have hdn:d < b.nt:=hdst j0 o d ho hd
   have hslot:∀ t',t' < b.nt → get s1 t' = get sl t' ∨ (ARel w S (newβ β B.length (mf j0)) (B ++ [Z2k z]).length (get s1 t') (a.tmps.getD t' undef) ∧ isUn (get s1 t') = false):=by
    intro t' ht'
    rw [heq t',Z1Z]
    by_cases e:d = t'
    ·subst e
     rw [if_pos rfl,htm]
     refine .inr ⟨?_,rfl⟩
     have:=ARel.ptr (w:=w) (S:=S) (β:=newβ β B.length (mf j0)) (n:=(B ++ [Z2k z]).length) B.length 0 (by simp)
     rwa [Z4O] at this
    ·rw [if_neg e]
     exact .inl rfl
   have hg1:Good b.nt w S (newβ β B.length (mf j0)) s1 (B ++ [Z2k z]) a:=hga.reslot hslot (fun t' ht' => by
    have hne:¬ d = t':=by rintro rfl; exact absurd hdn (Nat.not_lt.2 ht')
    rw [heq t',Z1Z,if_neg hne]
    exact hg.high t' ht')
   have hub1:∀ c,UB (Here b.nt s1 a.tmps (B ++ [Z2k z]) (newβ β B.length (mf j0)) w) c → UB (Here b.nt sl a.tmps B β w) c:=fun c hc =>
    hub c (UB.reslot (fun t' ht' => (hslot t' ht').imp id fun h => h.2) c hc)
   have hlen:(B ++ [Z2k z]).length = B.length + 1:=by simp
   have hst1:Step b.m0 b.w b.S b.β b.n b.U w S (newβ β B.length (mf j0)) (B ++ [Z2k z]).length (UB (Here b.nt s1 a.tmps (B ++ [Z2k z]) (newβ β B.length (mf j0)) w)):=by
    refine { hst with low:=fun hm => ?_,boxes:=fun i hi => ?_,uns:=fun c hc => hst.uns c (hub1 c hc) }
    ·obtain ⟨q1,q2⟩:=hst.low hm
     exact ⟨by rw [hlen]; omega,fun i hi => by rw [ZcG (by omega)]; exact q2 i hi⟩
    ·rw [hlen] at hi
     rcases Z9X i B.length with h | h
     ·rw [ZcG h]; exact hst.boxes i h
     ·have:i = B.length:=by omega
      subst this
      rw [Z4O]
      exact .inr hold
   have hls':LS ops listed (re.filter (· != j0)):=by
    refine ⟨hls.sorted.filter _,fun j hj => hls.size j (Zeu.1 hj).1,fun j h1 h2 => Zeu.2 ⟨hls.all j h1 h2,?_⟩⟩
    simp only [bne_iff_ne,ne_eq]
    rintro rfl
    rw [hlj0] at h2
    simp at h2
   refine ih (re.filter (· != j0)) s1 _ ?_ hls' hrun' ⟨S,newβ β B.length (mf j0),mf,hg1,hst1,?_,?_⟩
   ·have e:(re.filter (· != j0)).filter (fun j => listed.getD j true) = (re.filter fun j => listed.getD j true).filter (· != j0):=by
     rw [List.filter_filter,List.filter_filter]
     congr 1
     funext q
     exact Bool.and_comm _ _
    rw [e,hfl,Zrd]
    simp only [bne_self_eq_false,Zj4,if_false]
    have:=List.length_filter_le (· != j0) rest
    simp only [q5_] at hn
    omega
   ·intro j hj hlj
    obtain ⟨hj,hne⟩:=Zeu.1 hj
    have hne:j ≠ j0:=by simpa using hne
    obtain ⟨⟨o',t',d',z',zv',q1,q2,q3,q4,q5,q6,q7,q8,q9⟩,q10⟩:=hlone j hj hlj
    refine ⟨⟨o',t',d',z',zv',q1,q2,q3,q4,q5,q6,q7,q8,⟨q9.here,?_,q9.stay,fun hu => q9.un (hub1 _ hu)⟩⟩,q10⟩
    intro i hi e
    rw [hlen] at hi
    rcases Z9X i B.length with h | h
    ·rw [ZcG h] at e; exact q9.box i h e
    ·have:i = B.length:=by omega
     subst this
     rw [Z4O] at e
     exact hne (hinj j j0 hj hj0 hlj hlj0 e.symm)
   ·intro j k hj hk h1 h2 e
    exact hinj j k (Zeu.1 hj).1 (Zeu.1 hk).1 h1 h2 e
theorem ZD2 {I:Inv} (hp:Pers I) (hI:I b.w b.S) (hF:Z90 P I G) (k5:Zni ops = true) (hQ:∀ a w,At b slF BF a w → Q .normal a w) :
  ∀ (fuel:Nat) (listed:Array Bool) (re:List Nat) (sl:Sl) (B:List Row) (a:Act) (w:World),listed.size = ops.size → Down ops listed → LS ops listed re → Zpu ops listed re → (Z3n ops listed).length ≤ fuel →
   Run P H f G ops re sl B slF BF → InvD P b ops listed re sl B a w → wpAny P .any ops Q fuel listed a w:=by
 have hempty:∀ (listed:Array Bool),Z3n ops listed = [] → Region.ready .any ops listed = []:=by
  intro listed hr
  cases hre:Region.ready .any ops listed with
  | nil => rfl
  | cons i r =>
   have:i ∈ Region.ready .any ops listed:=by rw [hre]; simp
   obtain ⟨h1,o,ho,_⟩:=mem_ready.1 this
   have:i ∈ Z3n ops listed:=Z72.2 ⟨(Z8t.1 ho).1,h1⟩
   rw [hr] at this
   simp at this
 have hdone:∀ {listed:Array Bool} {re:List Nat} {sl:Sl} {B:List Row} {a:Act} {w:World},LS ops listed re → Zpu ops listed re → Z3n ops listed = [] → Run P H f G ops re sl B slF BF → InvD P b ops listed re sl B a w → Q .normal a w:=by
  intro listed re sl B a w hls hn hr hrun hinv
  have hnil:re = []:=by
   cases hre:re with
   | nil => rfl
   | cons j r =>
    exfalso
    have hj:j ∈ re:=by rw [hre]; simp
    have hun:∀ p,p ∈ re → listed.getD p true = true:=by
     intro p hp
     cases hc:listed.getD p true with
     | true => rfl
     | false =>
      have:p ∈ Z3n ops listed:=Z72.2 ⟨hls.size p hp,hc⟩
      rw [hr] at this
      simp at this
    obtain ⟨p,op,hp,_,hlp,_⟩:=hn j hj (hun j hj)
    rw [hun p hp] at hlp
    simp at hlp
  subst hnil
  obtain ⟨e,rfl⟩:=hrun
  obtain ⟨S,β,_,hg,hst,_⟩:=hinv
  exact hQ a w (At.eqv ⟨S,β,hg,hst⟩ e)
 intro fuel
 induction fuel with
 | zero =>
  intro listed re sl B a w hsz hdown hls hn hlen hrun hinv
  have hr:Z3n ops listed = []:=Zpg.1 (by omega)
  exact ⟨hempty listed hr,hdone hls hn hr hrun hinv⟩
 | succ fuel ih =>
  intro listed re sl B a w hsz hdown hls hn hlen hrun hinv
  refine ⟨fun hre => ?_,fun i hi => ?_⟩
  ·cases hr:Z3n ops listed with
   | nil => exact hdone hls hn hr hrun hinv
   | cons i0 rest =>
    exfalso
    have hm:i0 ∈ Z3n ops listed:=by rw [hr]; simp
    obtain ⟨h1,h2⟩:=Z72.1 hm
    have hs:=Zft (ops:=ops) listed
    rw [hr] at hs
    have hmin:=(Zj6.1 hs).1
    have ho:ops[i0]? = some ops[i0]:=by simp [h1]
    have:i0 ∈ Region.ready .any ops listed:=by
     refine mem_ready.2 ⟨h2,_,ho,fun e he hb => ?_⟩
     have hlt:=k1 i0 _ e ho he hb
     have hn:e.on ∉ Z3n ops listed:=by
      rw [hr]
      intro hm'
      rcases Z5G.1 hm' with h3 | h3
      ·omega
      ·have:=hmin _ h3; omega
     rw [Z72] at hn
     have hlt':e.on < ops.size:=by omega
     cases hg:listed.getD e.on true with
     | false => exact absurd ⟨hlt',hg⟩ hn
     | true =>
      have hs':e.on < listed.size:=by omega
      rw [← ZeK hs']
      exact hg
    rw [hre] at this
    simp at this
  ·obtain ⟨h1,o,ho,hedge⟩:=mem_ready.1 hi
   have hin:i < ops.size:=(Z8t.1 ho).1
   have hil:i < listed.size:=by omega
   have hm:i ∈ re:=hls.all i hin h1
   have hmr:i ∈ Z3n ops listed:=Z72.2 ⟨hin,h1⟩
   obtain ⟨S,β,mf,hg,hst,hlone,hinj⟩:=hinv
   have hlk:∀ k,((msOf ops.toList []).getD i 0).testBit k = true → listed.getD k false = true:=fun k hb => Zgy k1 hdown i o k ho hedge hb
   have hnb:∀ (k:Nat) (x:Oper),k ∈ re → ops[k]? = some x → ((msOf ops.toList []).getD i 0).testBit k ≠ true:=by
    intro k x hk hx hb
    have h2:=hlk k hb
    have hks:k < listed.size:=by rw [hsz]; exact hls.size k hk
    rw [← ZeK hks] at h2
    obtain ⟨⟨ok,t,d,z,zv,q1,q2,q3,q4,_⟩,_⟩:=hlone k hk h2
    rw [hx] at q1
    cases q1
    obtain ⟨p,op,hp1,hp2,hp3,hp4,hp5⟩:=hn k hk h2
    have hps:p < listed.size:=by rw [hsz]; exact hls.size p hp1
    have hkl:listed.getD k false = true:=hlk k hb
    have hmk:((msOf ops.toList []).getD k 0).testBit p ≠ true:=by
     intro hb2
     have:=Zgy k1 hdown k x p hx (fun e he hb => hdown k x e hkl hx he hb) hb2
     rw [← ZeK hps,hp3] at this
     simp at this
    obtain ⟨_,_,h5⟩:=ZoD k5 hp2 hx hp4 (by unfold Z7V; rw [q2]) hp5 hmk
    have:=hlk p (h5 i hin hb)
    rw [← ZeK hps,hp3] at this
    simp at this
   have hap:∀ (k:Nat) (x:Oper),k ∈ re → k < i → ops[k]? = some x → Z9b H f ops x o = true:=fun k x hk hki hx => (k4 k i x o hki hx ho).resolve_left (hnb k x hk hx)
   have hset:∀ j,(listed.setIfInBounds i true).getD j true = (listed.getD j true || j == i):=by
    intro j
    by_cases e:i = j
    ·subst e; simp [hil]
    ·rw [getD_set_ne true e]
     have:(j == i) = false:=by simpa using fun h => e h.symm
     rw [this,Bool.or_false]
   have hrem:Z3n ops (listed.setIfInBounds i true) = (Z3n ops listed).filter (· != i):=by
    unfold Z3n
    rw [List.filter_filter]
    congr 1
    funext j
    rw [hset]
    simp only [bne,Bool.not_or]
    exact Bool.and_comm _ _
   have hdown':Down ops (listed.setIfInBounds i true):=by
    intro j o' e hj ho' he hb
    by_cases e':i = j
    ·subst e'
     rw [ho] at ho'
     cases ho'
     exact getD_set_true (hedge e he hb)
    ·rw [getD_set_ne false e'] at hj
     exact getD_set_true (hdown j o' e hj ho' he hb)
   have hlen':(Z3n ops (listed.setIfInBounds i true)).length ≤ fuel:=by
    rw [hrem]
    have:((Z3n ops listed).filter (· != i)).length < (Z3n ops listed).length:=by
     rw [List.length_filter_lt_length_iff_exists]
     exact ⟨i,hmr,by simp⟩
    omega
   by_cases hlate:∃ k x,k ∈ re ∧ k < i ∧ ops[k]? = some x ∧ Z7V x = true ∧ Z7V o = true
   case neg =>
    obtain ⟨s1,B1,ht,hrun'⟩:=ZyW ho k3 k2 re sl B hls.sorted hm hrun (by
     intro k x hk hki hx
     exact ⟨hap k x hk hki hx,ZvW hl hask ho hx hki (hnb k x hk hx) (fun h => hlate ⟨k,x,hk,hki,hx,h.1,h.2⟩)⟩)
    have hls':LS ops (listed.setIfInBounds i true) (re.filter (· != i)):=by
     refine ⟨hls.sorted.filter _,fun j hj => hls.size j (Zeu.1 hj).1,fun j h2 h3 => ?_⟩
     rw [hset] at h3
     simp only [Bool.or_eq_false_iff] at h3
     exact Zeu.2 ⟨hls.all j h2 h3.1,by simpa [bne] using h3.2⟩
    let b':Base:=⟨b.nt,b.m0,B.length,w,S,β,UB (Here b.nt sl a.tmps B β w)⟩
    have hgo:∀ a' w',At b' s1 B1 a' w' → (∀ t,o.dst ≠ some t → a'.tmps.getD t undef = a.tmps.getD t undef) → wpAny P .any ops Q fuel (listed.setIfInBounds i true) a' w':=by
     intro a' w' hat htm
     obtain ⟨S',β',hg',hst'⟩:=hat
     have hinv':InvD P b ops (listed.setIfInBounds i true) (re.filter (· != i)) s1 B1 a' w':=by
      refine ⟨S',β',mf,hg',hst.trans hst',?_,?_⟩
      ·intro j hj hlj
       obtain ⟨hj,hne⟩:=Zeu.1 hj
       have hne:j ≠ i:=by simpa using hne
       rw [hset] at hlj
       have hlj:listed.getD j true = true:=by simpa [hne] using hlj
       obtain ⟨⟨o',t',d',z',zv',q1,q2,q3,q4,q5,q6,q7,q8,q9⟩,q10⟩:=hlone j hj hlj
       exact ⟨⟨o',t',d',z',zv',q1,q2,q3,q4,q5,q6,q7,by rw [htm d' (ZzI k3 ho q1 hne q4)]; exact q8,q9.step hst'⟩,q10⟩
      ·intro j k hj hk h2 h3 e
       obtain ⟨hj,hne⟩:=Zeu.1 hj
       obtain ⟨hk,hne'⟩:=Zeu.1 hk
       have hne:j ≠ i:=by simpa using hne
       have hne':k ≠ i:=by simpa using hne'
       rw [hset] at h2 h3
       exact hinj j k hj hk (by simpa [hne] using h2) (by simpa [hne'] using h3) e
     obtain ⟨re2,sl2,B2,r1,r2,r3,r4⟩:=ZF1 k1 k2 k3 k4 hdst hl hask (by simp [hsz]) hdown' _ _ s1 B1 (Z2x _) hls' hrun' hinv'
     exact ih _ re2 sl2 B2 a' w' (by simp [hsz]) hdown' r1 r4 hlen' r2 r3
    have:=Zwr (b:=b') (Q:=Q) hp (hp _ _ _ _ hst.keeps hI) hF (fun t ht => hdst i o t ho ht) ht ⟨S,β,hg,.refl ..⟩
    unfold wpOp
    simp only [ho]
    split at this
    ·rename_i hw
     rw [if_pos hw]
     exact .inl (Oper.wp_mono (fun a' w' h => hgo a' w' h.1 h.2) (ZHZ this))
    ·rename_i hw
     rw [if_neg hw]
     exact hgo _ _ this fun t ht => Zhm ht
   case pos =>
    obtain ⟨k,x,hk,hki,hx,hnx,hno⟩:=hlate
    obtain ⟨hal,_,_⟩:=ZoD k5 hki ho hx hno hnx (hnb k x hk hx)
    obtain ⟨t,d,hop,hgd,hd⟩:=ZC3 hal
    obtain ⟨_,_,_,_,htr⟩:=Run.mem ho re sl B hm hrun
    obtain ⟨z,zv,hz,hzv,ht,_,_⟩:=ZE4 hop hgd hd htr
    have hdn:d < b.nt:=hdst i o d ho hd
    have hrunM:(execOp a.eval o).run P w = .ok (.value (.pointer (some ⟨w.heap.size,0,none⟩))) (w.alloc (.cells zv.cells t)):=by
     obtain ⟨inf,hinf,hzr⟩:=Option.bind_eq_some_iff.1 hz
     unfold execOp
     simp only [hop]
     show ((Instr.alloc t true (.tuple #[])).bind fun x => Sem.pure (Next.value x)).run P w = _
     rw [Sem.run_bind']
     unfold Instr.alloc
     simp [zeroValue,typeInfo,hinf,hzr,Zm4]
    have hf:=ZbN w zv.cells t
    generalize w.alloc (.cells zv.cells t) = w' at hrunM hf
    have hgf:=hg.fresh hf 0
    have hjk:ARel w' (S.more w.heap.size 0) β B.length jk (.pointer (some ⟨w.heap.size,0,none⟩)):=.p _ _ (.jnk _ _)
    have hg':=hgf.put (d:=some d) (by rintro _ ⟨⟩; exact hdn) hjk rfl
    have hback:∀ c,UB (Here b.nt ((d,jk) :: sl) (a.put (some d) (.pointer (some ⟨w.heap.size,0,none⟩))).tmps B β w') c → UB (Here b.nt sl a.tmps B β w) c:=by
     intro c hc
     obtain ⟨lc,y,u,h2,h3,h4⟩:=UB.put (d:=some d) hg.size (by rintro _ ⟨⟩; exact hdn) (x:=jk) rfl c hc
     refine ⟨lc,y,u,?_,h3,h4⟩
     cases lc with
     | slot t => exact h2
     | box id q =>
      obtain ⟨r,e1,e2,e3⟩:=h2
      rw [cell_of_heap (hf.old (hg.mem.lt (q2_.1 e1).1))] at e3
      exact ⟨r,e1,e2,e3⟩
    have hstep:Step b.m0 w S β B.length (UB (Here b.nt sl a.tmps B β w)) w' (S.more w.heap.size 0) β B.length (UB (Here b.nt ((d,jk) :: sl) (a.put (some d) (.pointer (some ⟨w.heap.size,0,none⟩))).tmps B β w')):=by
     refine ⟨hf.keeps hg.mem.stay 0,by rw [hf.size]; omega,hf.os,hf.tape,hf.output,fun h => ⟨h,fun _ _ => rfl⟩,fun i hi => .inl ⟨i,hi,rfl,fun x => x⟩,fun c hc => .inl (hback c hc),fun c q hs => ?_,fun c hc _ _ => hf.old hc⟩
     rcases hs with hs | ⟨_,hs⟩
     ·exact .inl hs
     ·omega
    have hloneI:Lone w' (S.more w.heap.size 0) β B.length (Here b.nt ((d,jk) :: sl) (a.put (some d) (.pointer (some ⟨w.heap.size,0,none⟩))).tmps B β w') w.heap.size zv.cells t:=by
     refine ⟨hf.new,fun id hid e => ?_,fun q hs => ?_,fun hu => ?_⟩
     ·have:=hg.mem.lt hid; omega
     ·rcases hs with hs | ⟨_,hs⟩
      ·have:=hg.mem.stay _ _ hs; omega
      ·omega
     ·obtain ⟨lc,y,u,h2,h3,h4⟩:=hback _ hu
      have h6:=(hg.uns.ok lc y u h2 h3).1.blk h4
      omega
    unfold wpOp
    simp only [ho]
    have hwant:Region.wanted o (yielded ops a.tmps) = true:=by unfold Region.wanted; rw [hgd]
    rw [if_pos hwant]
    refine .inl (Z2p hrunM ?_)
    rw [hd]
    have hls':LS ops (listed.setIfInBounds i true) re:=⟨hls.sorted,hls.size,fun j h2 h3 => by
     rw [hset] at h3
     simp only [Bool.or_eq_false_iff] at h3
     exact hls.all j h2 h3.1⟩
    obtain ⟨p0,op0,hp1,hp2,hp3,hp4,hp5⟩:∃ p op,p ∈ re ∧ p < i ∧ listed.getD p true = false ∧ ops[p]? = some op ∧ Z7V op = true:=by
     cases hc:listed.getD k true with
     | false => exact ⟨k,x,hk,hki,hc,hx,hnx⟩
     | true =>
      obtain ⟨p,op,r1,r2,r3,r4,r5⟩:=hn k hk hc
      exact ⟨p,op,r1,by omega,r3,r4,r5⟩
    have hlp0:(listed.setIfInBounds i true).getD p0 true = false:=by
     rw [hset,hp3]
     simp only [Bool.false_or,beq_eq_false_iff_ne]
     omega
    refine ih _ re ((d,jk) :: sl) B _ w' (by simp [hsz]) hdown' hls' ?_ hlen' (Run.unset ho hop hgd hd jk re sl B hls.sorted hm hap hrun) ?_
    ·intro j hj hlj
     rw [hset] at hlj
     by_cases hji:j = i
     ·subst hji
      exact ⟨p0,op0,hp1,hp2,hlp0,hp4,hp5⟩
     ·obtain ⟨p,op,r1,r2,r3,r4,r5⟩:=hn j hj (by simpa [hji] using hlj)
      by_cases hpi:p = i
      ·subst hpi
       exact ⟨p0,op0,hp1,by omega,hlp0,hp4,hp5⟩
      ·exact ⟨p,op,r1,r2,by rw [hset,r3]; simpa using hpi,r4,r5⟩
    ·obtain ⟨mf',hm1,hm2⟩:∃ mf':Nat → Nat,mf' i = w.heap.size ∧ ∀ q,q ≠ i → mf' q = mf q:=⟨fun q => if q = i then w.heap.size else mf q,if_pos rfl,fun q hq => if_neg hq⟩
     refine ⟨S.more w.heap.size 0,β,mf',hg',hst.trans hstep,?_,?_⟩
     ·intro j hj hlj
      rw [hset] at hlj
      by_cases hji:j = i
      ·rw [hji,hm1]
       refine ⟨⟨o,t,d,z,zv,ho,hop,hgd,hd,hz,hzv,ht,?_,hloneI⟩,hst.size⟩
       show ((a.tmps.setIfInBounds d _).getD d undef) = _
       rw [ZcO (by rw [hg.size]; exact hdn),if_pos rfl]
      ·obtain ⟨⟨o',t',d',z',zv',q1,q2,q3,q4,q5,q6,q7,q8,q9⟩,q10⟩:=hlone j hj (by simpa [hji] using hlj)
       have hdd:d' ≠ d:=fun e => ZzI k3 ho q1 hji q4 (by rw [hd,e])
       rw [hm2 j hji]
       refine ⟨⟨o',t',d',z',zv',q1,q2,q3,q4,q5,q6,q7,?_,q9.step hstep⟩,q10⟩
       rw [Zhm (by simpa using fun e => hdd e.symm)]
       exact q8
     ·intro j k hj hk h2 h3 e
      rw [hset] at h2 h3
      have hlt:∀ q,q ∈ re → q ≠ i → (listed.getD q true || q == i) = true → mf q < w.heap.size:=by
       intro q hq hqi hlq
       obtain ⟨⟨o',t',d',z',zv',_,_,_,_,_,_,_,_,q9⟩,_⟩:=hlone q hq (by simpa [hqi] using hlq)
       exact (Z8t.1 q9.here).1
      by_cases hji:j = i <;> by_cases hki':k = i
      ·rw [hji,hki']
      ·rw [hji,hm1,hm2 k hki'] at e
       have:=hlt k hk hki' h3
       omega
      ·rw [hki',hm1,hm2 j hji] at e
       have:=hlt j hj hji h2
       omega
      ·rw [hm2 j hji,hm2 k hki'] at e
       exact hinj j k hj hk (by simpa [hji] using h2) (by simpa [hki'] using h3) e
end
theorem At.drew {sl:Sl} {B:List Row} {a:Act} {w:World} (h:At b sl B a w):At b sl B a { w with drawn:=w.drawn + 1 }:=by
 obtain ⟨S,β,hg,hst⟩:=h
 have hk:Keeps w S { w with drawn:=w.drawn + 1 } S:=⟨fun _ _ h => h,fun _ _ _ => rfl⟩
 refine ⟨S,β,hg.world hk (fun i hi => ⟨rfl,hg.mem.apart i hi⟩) hg.mem.stay (fun l x v hl hu => (hg.uns.ok l x v hl hu).1.world hk fun _ _ => ⟨rfl,fun _ h => h⟩),?_⟩
 exact { hst with keeps:=hst.keeps.trans hk,uns:=fun b hb => hst.uns b (UB.world hg.mem (fun _ _ => rfl) hb),block:=fun b h1 h2 h3 => hst.block b h1 h2 h3 }
theorem ZwX {I:Inv} (hp:Pers I) (hI:I b.w b.S) (hF:Z90 P I G) (hm:P.follows .mixedOrders = true) (hdst:∀ (i:Nat) (o:Oper) (t:Tmp),ops[i]? = some o → o.dst = some t → t < b.nt) (hok:Zko H f ops = true) {id:Nat}
  {K:Sl → List Row → Option Res} {r:Res} {sl:Sl} {B:List Row} {a:Act} {w:World} (hk:plainRegion P H f G ops true K sl B = some r) (h:At b sl B a w)
  (hQ:∀ sl B a w,K sl B = some r → At b sl B a w → Q .normal a w):(Code.region id ops true).wp P Q a w:=by
 unfold plainRegion at hk
 simp only at hk
 split at hk
 ·simp at hk
 ·rename_i l hl
  obtain ⟨slF,BF,h1,h2⟩:=ZhE ops.toList 0 0 [] sl B (fun j _ => by simp) hk
  obtain ⟨h3,h4⟩:=Zoq h2
  have hrem:Z3n ops (Array.replicate ops.size false) = List.range' 0 ops.toList.length:=by
   unfold Z3n
   rw [List.filter_eq_self.2]
   ·rw [Ztd]; simp
   ·intro j hj
    simp only [ZhB] at hj
    simp [hj]
  obtain ⟨k1,k2,k3,k4⟩:=ZwM hok
  obtain ⟨S,β,hg,hst⟩:=h.drew
  have hun:∀ j,j ∈ Z3n ops (Array.replicate ops.size false) → (Array.replicate ops.size false).getD j true = false:=fun j hj => (Z72.1 hj).2
  have hls:LS ops (Array.replicate ops.size false) (Z3n ops (Array.replicate ops.size false)):=⟨Zft _,fun j hj => (Z72.1 hj).1,fun j h1 h2 => Z72.2 ⟨h1,h2⟩⟩
  refine wp_region_any hm (ZD2 k1 k2 k3 k4 hdst hl h3 hp hI hF (ZwL hok) (fun a w ha => hQ slF BF a w h4 ha) ops.size _ (Z3n ops (Array.replicate ops.size false)) sl B a _ (by simp) ?_ hls (fun j hj hlj => by rw [hun j hj] at hlj; simp at hlj) (by rw [hrem]; simp) (by rw [hrem]; exact h1)
   ⟨S,β,fun j => j,hg,hst,fun j hj hlj => by rw [hun j hj] at hlj; simp at hlj,fun j k hj _ hlj _ _ => by rw [hun j hj] at hlj; simp at hlj⟩)
  intro j o e hj
  have:(Array.replicate ops.size false).getD j false = false:=by
   simp only [Zsc]
   cases hj':(Array.replicate ops.size false)[j]? with
   | none => rfl
   | some x =>
    have:=Zw4 hj'
    simp at this
    simp [this.2]
  rw [this] at hj
  simp at hj
end
end Go.Abs
end
section
namespace Go.Abs
open Go
noncomputable def stA (P:Program) (H:Hints) (f:FuncId) (G:FuncId → List AV → List Row → Option Res) (er:Bool) (o:Oper) (sl:Sl) (B:List Row):Option Res :=
 match o.op with
 | .move x | .assign x => some (shr (ev sl x),B)
 | .store t a x =>
  match ev sl a with
  | .p (.jnk (.ep id off _ i fo)) => ob (shape P t) fun s => ob (Za5 B id off) fun q => ob q.2.2[i]? fun e => ob (elSt s.2 fo (ev sl x) e) fun e' =>
   some (jk,B.set id (q.1.set off (.p (.ml q.2.1 (q.2.2.set i e')))))
  | _ => none
 | .load t a =>
  match ZsW H f o.dst with
  | true => ob (shape P t) fun s =>
   match s.1,ev sl a with
   | false,.ptr id off => ob (Za5 B id off) fun q => some (.p (.jnk (.al id off q.2.1 q.2.2.length)),B)
   | _,_ => none
  | false =>
   match ev sl a with
   | .p (.jnk (.ep id off _ i fo)) =>
    match er with
    | true => ob (shape P t) fun s => ob (Za5 B id off) fun q => ob q.2.2[i]? fun e => ob (elLd s.1 s.2 fo (Z1r e)) fun v => some (v,B)
    | false => none
   | _ => stepOp P H f G o sl B fun v _ B => some (Z2g v,B)
 | .indexAddr t x i =>
  match ev sl x with
  | .p (.jnk (.al id off n len)) => asInt (ev sl i) fun j => if 0 ≤ j ∧ j < len ∧ n = Z4P P t ∧ 0 < n then some (.p (.jnk (.ep id off n j.toNat 0)),B) else none
  | _ => stepOp P H f G o sl B fun v _ B => some (Z2g v,B)
 | .fieldAddr s x fd =>
  match ev sl x with
  | .p (.jnk (.ep id off n i fo)) => ob (Zci P s fd) fun k => some (.p (.jnk (.ep id off n i (fo + k))),B)
  | _ => stepOp P H f G o sl B fun v _ B => some (Z2g v,B)
 | .nilCheck x => if isEp (ev sl x) = true then some (ev sl x,B) else stepOp P H f G o sl B fun v _ B => some (Z2g v,B)
 | _ => stepOp P H f G o sl B fun v _ B => some (Z2g v,B)
section
variable {P:Program} {H:Hints} {f:FuncId} {G:GF} {o:Oper} {er draw:Bool} {sl:Sl} {B:List Row}
theorem ZCB (hq:isA H f draw o = true) (K:AV → List Row → Option Res):stK P H f G er o sl B K = ob (stA P H f G er o sl B) fun q => K q.1 q.2:=by
 have fb:(stepOp P H f G o sl B fun v _ B => K (Z2g v) B) = ob (stepOp P H f G o sl B fun v _ B => some (Z2g v,B)) fun q => K q.1 q.2:=by
  rw [Zat,Zat,Z3u]
  rfl
 unfold isA at hq
 unfold stK stA
 rcases o with ⟨dst,op,ty,pos,after,guard⟩
 cases op <;> simp only at hq fb ⊢ <;> try exact fb
 case move x => rfl
 case assign x => rfl
 case store t a x =>
  unfold stEl
  generalize ev sl a = y
  split
  ·simp only [Z3u,Z22]
  ·rename_i hne
   split
   ·rename_i heq; exact absurd rfl (hne _ _ _ _ _)
   ·cases shape P t <;> rfl
 case load t a =>
  unfold quiet at hq
  simp only [Z4R,Zes] at hq
  have so:∀ K':AV → Sl → List Row → Option Res,stepOp P H f G ⟨dst,.load t a,ty,pos,after,guard⟩ sl B K' = ob (shape P t) fun s => ob (ldN s.1 s.2 (ev sl a) B) fun v => K' v sl B:=by
   intro K'
   unfold stepOp
   simp only [hq.1,hq.2,Zj4,if_false]
  cases hal:ZsW H f dst with
  | true =>
   simp only
   cases shape P t with
   | none => rfl
   | some s =>
    simp only [Z22]
    unfold alA
    obtain ⟨ag,n⟩:=s
    cases ag
    ·generalize ev sl a = y
     cases y <;> first | rfl | (simp only [Z3u,Z22]; done)
    ·rfl
  | false =>
   simp only
   unfold ldA
   rw [so]
   generalize ev sl a = y
   cases y with
   | p z =>
    cases z with
    | jnk q =>
     cases q with
     | ep id off n i fo =>
      cases er
      ·cases shape P t <;> rfl
      ·simp only [Z3u,Z22]
     | _ => first | (simp only [Z3u,Z22]; done) | rfl
    | _ => first | (simp only [Z3u,Z22]; done) | rfl
   | _ => first | (simp only [Z3u,Z22]; done) | (cases shape P t <;> rfl)
 case indexAddr t x i =>
  generalize hx:ev sl x = y
  split
  ·rename_i n e hu
   rw [fb]
   have e:stepOp P H f G ⟨dst,.indexAddr t x i,ty,pos,after,guard⟩ sl B (fun v _ B => some (Z2g v,B)) = if (P.info? e).isSome = true then ob (Zro n (sizeOf P e) y (ev sl i)) fun v => some (Z2g v,B) else none:=by
    unfold stepOp
    simp only [hu,hx]
   cases y with
   | p z =>
    cases z with
    | jnk q =>
     cases q with
     | al id off m len =>
      rw [e]
      have:∀ j:Int,¬ (0 ≤ j ∧ j < len ∧ m = Z4P P t ∧ 0 < m):=by
       intro j hc
       have h1:=hc.2.2.2
       rw [hc.2.2.1] at h1
       simp [Z4P,hu] at h1
      simp only [this,if_false]
      have e2:(asInt (ev sl i) fun _ => (none:Option Res)) = none:=by unfold asInt; split <;> rfl
      rw [e2]
      simp only [Zro,ZbA,ite_self]
     | _ => rfl
    | _ => rfl
   | _ => rfl
  ·rename_i hu
   have e:∀ K':AV → Sl → List Row → Option Res,stepOp P H f G ⟨dst,.indexAddr t x i,ty,pos,after,guard⟩ sl B K' = ob (xidx (Z4P P t) y (ev sl i)) fun v => K' v sl B:=by
    intro K'
    unfold stepOp
    simp only [hx]
   rw [e]
   unfold ixA
   have oa:∀ {α β:Type} (x:AV) (j:Int → Option α) (k:α → Option β),ob (asInt x j) k = asInt x fun n => ob (j n) k:=by
    intro α β x j k
    unfold asInt
    split <;> rfl
   cases y with
   | p z =>
    cases z with
    | jnk q =>
     cases q with
     | al id off n len => simp only [oa,Zl4,Z22,ZbA]
     | _ => simp only [Z3u,Z22]
    | _ => simp only [Z3u,Z22]
   | _ => simp only [Z3u,Z22]
 case fieldAddr s x fd =>
  unfold flA
  generalize hx:ev sl x = y
  have e:∀ K':AV → Sl → List Row → Option Res,stepOp P H f G ⟨dst,.fieldAddr s x fd,ty,pos,after,guard⟩ sl B K' = ob (Zci P s fd) fun k => ob (xfld k y) fun v => K' v sl B:=by
   intro K'
   unfold stepOp
   simp only [hx]
  rw [e]
  cases y with
  | p z =>
   cases z with
   | jnk q => cases q <;> simp only [Z3u,Z22]
   | _ => simp only [Z3u,Z22]
  | _ => simp only [Z3u,Z22]
 case nilCheck x =>
  unfold ncA
  split
  ·rfl
  ·unfold stepOp
   simp only [Z3u,Z22]
end
def AlOk (w:World) (β:Nat → Nat) (B:List Row):Al → Value → Prop
 | .no,_ => True
 | .al id off n len,v => ∃ row xs,B[id]? = some row ∧ mdOf row = none ∧ row[off]? = some (.p (.ml n xs)) ∧ xs.length = len ∧ w.cell? ⟨β id,off,none⟩ = some v
 | .ep id off n i fo,v => ∃ row xs b o cap,B[id]? = some row ∧ mdOf row = none ∧ row[off]? = some (.p (.ml n xs)) ∧ w.cell? ⟨β id,off,none⟩ = some (.slice (some ⟨b,o,none⟩) xs.length cap) ∧
   v = .pointer (some ⟨b,o + (i * n + fo),none⟩)
def Als (nt:Nat) (w:World) (β:Nat → Nat) (B:List Row) (sl:Sl) (tm:Array Value):Prop:=∀ t q,t < nt → get sl t = .p (.jnk q) → AlOk w β B q (tm.getD t undef)
theorem ZdG {B:List Row} {id off n:Nat} {row:Row} {xs:List PV} (h:Za5 B id off = some (row,n,xs)):B[id]? = some row ∧ mdOf row = none ∧ row[off]? = some (.p (.ml n xs)):=by
 unfold Za5 at h
 obtain ⟨row',h1,h⟩:=ZR h
 split at h
 ·simp at h
 ·rename_i hm
  obtain ⟨c,h2,h⟩:=ZR h
  split at h
  ·simp only [q1_,Z43] at h
   obtain ⟨rfl,rfl,rfl⟩:=h
   exact ⟨h1,by simpa using hm,h2⟩
  ·simp at h
theorem Zwn:∀ (l cs:List PV) (off:Nat),(setP cs off l).length = cs.length
 | [],_,_ => rfl
 | c :: l,cs,off => by rw [setP,Zwn l]; simp
theorem Zwm:∀ (l cs:List PV) (off j:Nat),off + l.length ≤ cs.length → (setP cs off l)[j]? = if off ≤ j ∧ j < off + l.length then l[j - off]? else cs[j]?
 | [],cs,off,j,_ => by
  simp only [setP,q8_,ZbF]
  rw [if_neg (by omega)]
 | c :: l,cs,off,j,h => by
  simp only [q5_] at h
  rw [setP,Zwm l (cs.set off c) (off + 1) j (by simp; omega)]
  simp only [q5_]
  by_cases e:j = off
  ·subst e
   rw [if_neg (by omega),if_pos (by omega)]
   have:j < cs.length:=by omega
   simp [this]
  ·by_cases h1:off ≤ j ∧ j < off + (l.length + 1)
   ·rw [if_pos (by omega),if_pos h1]
    obtain ⟨k,hk⟩:∃ k,j - off = k + 1:=⟨j - off - 1,by omega⟩
    rw [hk,show j - (off + 1) = k by omega]
    simp
   ·rw [if_neg (by omega),if_neg h1,Z8u]
    rw [if_neg (fun e' => e e'.symm)]
theorem ZwT {c:PV} (h:Z84 c = true):Z1r c = [c]:=by cases c <;> first | rfl | (simp [Z84] at h)
theorem ZzK {k fo:Nat} {x:AV} {e e':PV} (h:elSt k fo x e = some e') (hcell:∀ c,c ∈ Z2k x → Z3g c = true):Z5a x = false ∧ ∃ ps:List PV,Z2k x = ps.map .p ∧ ps.length = k ∧ fo + k ≤ (Z1r e).length ∧
  (Z1r e').length = (Z1r e).length ∧ ∀ (j:Nat) (c:PV),(Z1r e')[j]? = some c → (fo ≤ j ∧ j < fo + k ∧ ∃ d,ps[j - fo]? = some d ∧ c = nrmP d) ∨ (¬ (fo ≤ j ∧ j < fo + k) ∧ (Z1r e)[j]? = some c):=by
 unfold elSt at h
 split at h
 ·simp at h
 ·rename_i ht
  obtain ⟨ps,hps,h⟩:=ZR h
  have ea:=ZoM (n:=0) hps
  refine ⟨by simpa using ht,ps,ea,?_⟩
  split at h
  ·rename_i hc
   obtain ⟨hc1,hc2⟩:=hc
   refine ⟨hc1,hc2,?_⟩
   have hget:∀ (cs:List PV),fo + k ≤ cs.length → ∀ (j:Nat) (c:PV),(setP cs fo (ps.map nrmP))[j]? = some c → (fo ≤ j ∧ j < fo + k ∧ ∃ d,ps[j - fo]? = some d ∧ c = nrmP d) ∨ (¬ (fo ≤ j ∧ j < fo + k) ∧ cs[j]? = some c):=by
    intro cs hle j c hj
    rw [Zwm _ _ _ _ (by simp [hc1]; exact hle)] at hj
    simp only [ZbC,hc1] at hj
    split at hj
    ·rename_i hr
     rw [q7_] at hj
     obtain ⟨d,hd,rfl⟩:=q6_.1 hj
     exact .inl ⟨hr.1,hr.2,d,hd,rfl⟩
    ·rename_i hr
     exact .inr ⟨hr,hj⟩
   split at h
   ·rename_i cs
    simp only [q1_] at h
    subst h
    exact ⟨Zwn _ _ _,hget _ hc2⟩
   ·rename_i hne
    have hpe:Z1r e = [e]:=by cases e <;> first | rfl | exact absurd rfl (hne _)
    rw [hpe] at hc2 ⊢
    split at h
    ·rename_i c
     simp only [q1_] at h
     subst h
     have hcp:Z84 c = true:=hcell (.p c) (by rw [ea]; simp)
     rw [ZwT (c:=nrmP c) (by rw [Zfg]; exact hcp)]
     simp only [q5_,q8_] at hc1 hc2
     refine ⟨rfl,fun j d hd => .inl ?_⟩
     cases j with
     | zero => simp at hd; exact ⟨by omega,by omega,c,by simp,hd.symm⟩
     | succ j => simp at hd
    ·simp at h
  ·simp at h
section
variable {P:Program} {H:Hints} {f:FuncId} {G:GF} {nt m0:Nat} {o:Oper} {w:World} {S:Stay} {β:Nat → Nat} {sl:Sl} {B:List Row} {a:Act}
 {K:AV → Sl → List Row → Option Res} {r:Res} {next:Act → World → Prop} {Q:Exit → Act → World → Prop}
def Zkf (nt m0:Nat) (o:Oper) (w:World) (S:Stay) (β:Nat → Nat) (sl:Sl) (B:List Row) (a:Act) (x:AV) (B':List Row) (a':Act) (w':World):Prop :=
 ∃ v,a' = a.put o.dst v ∧ Good nt w' S β (put sl o.dst x) B' a' ∧ (∀ q,x = .p (.jnk q) → AlOk w' β B' q v) ∧ (∀ q u,AlOk w β B q u → AlOk w' β B' q u) ∧ B'.length = B.length ∧
  Step m0 w S β B.length (UB (Here nt sl a.tmps B β w)) w' S β B'.length (UB (Here nt (put sl o.dst x) a'.tmps B' β w'))
theorem ZCa {n:Nat} {x:AV} {v:Value} (h:ARel w S β n x v):ARel w S β n (Z2g x) v:=by
 unfold Z2g
 split
 ·exact ARel.junk _
 ·exact h
theorem ZyZ (x:AV):isUn (Z2g x) = isUn x:=by
 unfold Z2g
 split <;> rfl
theorem Zsw {x:AV} {q:Al} (h:Z2g x = .p (.jnk q)):q = .no:=by
 unfold Z2g at h
 split at h
 ·unfold jk at h
  cases h
  rfl
 ·rename_i hx
  exact absurd h (hx q)
variable (h:Good nt w S β sl B a) (hd:∀ t,o.dst = some t → t < nt)
include h
theorem Good.mlAt {id off n:Nat} {row:Row} {xs:List PV} (hrow:B[id]? = some row) (hmd:mdOf row = none) (hc:row[off]? = some (.p (.ml n xs))) (hne:xs ≠ []) :
  ∃ b o cap cs ty,w.cell? ⟨β id,off,none⟩ = some (.slice (some ⟨b,o,none⟩) xs.length cap) ∧ Here nt sl a.tmps B β w (.box id off) (.p (.ml n xs)) (.slice (some ⟨b,o,none⟩) xs.length cap) ∧
   w.heap[b]? = some (.cells cs ty (0,0)) ∧ 0 < n ∧ o + cap * n ≤ cs.size ∧ xs.length ≤ cap ∧ (∀ o,¬ S b o) ∧ (∀ e,e ∈ xs → (Z1r e).length = n) ∧
   (∀ (i:Nat) (e:PV) (j:Nat) (c:PV),xs[i]? = some e → (Z1r e)[j]? = some c → Z42 c = true ∧ ∃ u,cs[o + (i * n + j)]? = some u ∧ PRel w S c u) ∧ ∀ i,i < B.length → b ≠ β i:=by
 obtain ⟨v,hcv,hrel,hcellA⟩:=h.mem.cell id row off _ hrow hmd hc
 have here:Here nt sl a.tmps B β w (.box id off) (.p (.ml n xs)) v:=⟨row,hrow,hc,hcv⟩
 obtain ⟨hok,hapart⟩:=h.uns.ok _ _ _ here rfl
 rcases hok.ml with ⟨e,_⟩ | ⟨b,off',cap,cs',ty',e2,e3,e4,e5,e6,e8,e9,e10⟩
 ·exact absurd e hne
 subst e2
 exact ⟨b,off',cap,cs',ty',hcv,here,e3,e4,e5,e6,e8,e9,e10,fun i hi e => hapart i hi (by rw [← e]; rfl)⟩
include hd
theorem Z9x {x:AV} {v:Value} (hx:ARel w S β B.length x v) (hu:isUn x = false) (hq:∀ q,x = .p (.jnk q) → AlOk w β B q v):Zkf nt m0 o w S β sl B a x B (a.put o.dst v) w :=
 ⟨v,rfl,h.put hd hx hu,hq,fun _ _ h => h,rfl,{ Step.refl m0 w S β B.length (UB (Here nt sl a.tmps B β w)) with uns:=fun b hb => .inl (UB.put h.size hd hu b hb) }⟩
theorem Znv {x:AV} {B':List Row} (hq:quiet H f o = true) (hk:stepOp P H f G o sl B (fun v _ B => some (Z2g v,B)) = some (x,B')):o.wp P a w (Zkf nt m0 o w S β sl B a x B') Q:=by
 refine Oper.wp_mono ?_ (Zzh h hd hq hk)
 rintro a' w' ⟨rfl,x0,v,rfl,hx,hu,hk'⟩
 simp only [q1_,Z43] at hk'
 obtain ⟨rfl,rfl⟩:=hk'
 refine Z9x h hd (ZCa hx) (by rw [ZyZ]; exact hu) fun q e => ?_
 rw [Zsw e]
 trivial
omit hd in
theorem Good.dropMl {id off n:Nat} {row:Row} {xs:List PV} (hrow:B[id]? = some row) (hmd:mdOf row = none) (hc:row[off]? = some (.p (.ml n xs))) {b o' cap:Nat}
  (here:Here nt sl a.tmps B β w (.box id off) (.p (.ml n xs)) (.slice (some ⟨b,o',none⟩) xs.length cap)) (hcap:xs.length ≤ cap) :
  Good nt w S β sl (B.set id (row.set off (.p (.hd xs.length)))) a ∧ (∀ b,UB (Here nt sl a.tmps (B.set id (row.set off (.p (.hd xs.length)))) β w) b → UB (Here nt sl a.tmps B β w) b) ∧
   ∀ l y q,Here nt sl a.tmps (B.set id (row.set off (.p (.hd xs.length)))) β w l y q → isUn y = true → Z3U q ≠ some b:=by
 have hid:id < B.length:=(q2_.1 hrow).1
 obtain ⟨cs,ty,hheap,hcs⟩:=h.mem.row id row hrow hmd
 have hcell:∀ j,w.cell? ⟨β id,j,none⟩ = cs[j]?:=fun j => Z6s hheap
 obtain ⟨hg,hU⟩:=Good.setBox (j0:=off) (x0:=jk) (v0:=undef) (row:=row.set off (.p (.hd xs.length))) h hid (Zbe hheap) (by simp [hcs]) (by
   intro j z u hz hu'
   rw [Z8u] at hz
   split at hz
   ·rename_i e
    subst e
    split at hz
    ·simp only [q1_] at hz
     subst hz
     obtain ⟨_,_,_,hcv⟩:=here
     rw [hcell,hu'] at hcv
     cases hcv
     exact ⟨.p _ _ (.hd _ _ _ hcap (by simp)),rfl,fun hun => by simp [isUn] at hun⟩
    ·simp at hz
   ·obtain ⟨v',q1,q2,q3⟩:=h.mem.cell id row j z hrow hmd hz
    rw [hcell,hu'] at q1
    cases q1
    exact ⟨q2,q3,fun _ => .inl ⟨row,hrow,hz,by rw [hcell,hu']⟩⟩) (by intro hun; simp [isUn,jk] at hun)
 refine ⟨hg,fun b hb => ?_,?_⟩
 ·rcases hU b hb with hb | ⟨q1,_⟩
  ·exact hb
  ·simp [isUn,jk] at q1
 ·intro l y q hl hy hb
  have:Here nt sl a.tmps B β w l y q ∧ l ≠ .box id off:=by
   cases l with
   | slot t => exact ⟨hl,by simp⟩
   | box i j =>
    obtain ⟨r',q1,q2,q3⟩:=hl
    rcases Zgk q1 with ⟨rfl,rfl,_⟩ | ⟨hn,q⟩
    ·rw [Z8u] at q2
     split at q2
     ·rename_i e
      split at q2
      ·simp only [q1_] at q2
       rw [← q2] at hy
       simp [isUn] at hy
      ·simp at q2
     ·rename_i e
      exact ⟨⟨row,hrow,q2,q3⟩,by simp; exact fun e' => e e'.symm⟩
    ·exact ⟨⟨r',q,q2,q3⟩,by simp; exact fun e' => absurd e' hn⟩
  exact this.2 (h.uns.inj l _ y _ q _ this.1 here hy rfl ⟨_,hb,rfl⟩)
omit hd in
theorem Good.turnMl {id off n:Nat} {row:Row} {xs ys:List PV} (hrow:B[id]? = some row) (hmd:mdOf row = none) (hc:row[off]? = some (.p (.ml n xs))) {b o' cap:Nat} {w':World}
  (here:Here nt sl a.tmps B β w (.box id off) (.p (.ml n xs)) (.slice (some ⟨b,o',none⟩) xs.length cap)) (hcap:xs.length ≤ cap) (hlen:ys.length = xs.length) (hb:∀ i,i < B.length → b ≠ β i) (hnS:∀ o,¬ S b o)
  (hset:Only w w' b) (hok:UnOk w' S (.p (.ml n ys)) (.slice (some ⟨b,o',none⟩) ys.length cap)) :
  Good nt w' S β sl (B.set id (row.set off (.p (.ml n ys)))) a ∧ Keeps w S w' S ∧ ∀ b',UB (Here nt sl a.tmps (B.set id (row.set off (.p (.ml n ys)))) β w') b' → UB (Here nt sl a.tmps B β w) b':=by
 have hid:id < B.length:=(q2_.1 hrow).1
 obtain ⟨g1,u1,gone⟩:=Good.dropMl h hrow hmd hc here hcap
 have hl1:(B.set id (row.set off (.p (.hd xs.length)))).length = B.length:=by simp
 have hkeep:Keeps w S w' S:=by
  refine ⟨fun _ _ h => h,fun b1 o1 hs => ?_⟩
  by_cases e:b1 = b
  ·subst e; exact absurd hs (hnS o1)
  ·exact cell_of_heap (hset.other b1 e)
 have hbx:∀ i,i < (B.set id (row.set off (.p (.hd xs.length)))).length → w'.heap[β i]? = w.heap[β i]?:=fun i hi => hset.other _ (fun e => hb i (hl1 ▸ hi) e.symm)
 have g2:Good nt w' S β sl (B.set id (row.set off (.p (.hd xs.length)))) a:=by
  refine g1.world hkeep (fun i hi => ⟨hbx i hi,g1.mem.apart i hi⟩) (fun b1 o1 hs => by rw [hset.size]; exact h.mem.stay b1 o1 hs) ?_
  intro l y q hl hy
  refine (g1.uns.ok l y q hl hy).1.world hkeep fun b1 hb1 => ⟨hset.other b1 ?_,fun _ h => h⟩
  rintro rfl
  exact gone l y q hl hy hb1
 have hr1:(B.set id (row.set off (.p (.hd xs.length))))[id]? = some (row.set off (.p (.hd xs.length))):=by simp [hid]
 have hm1:mdOf (row.set off (.p (.hd xs.length))) = none:=by
  cases hm:mdOf (row.set off (.p (.hd xs.length))) with
  | none => rfl
  | some es =>
   have:=ZeN hm
   have h2:(row.set off (AV.p (.hd xs.length)))[off]? = some (.p (.hd xs.length)):=by
    have:=(q2_.1 hc).1
    simp [this]
   rw [this] at h2
   cases off <;> simp at h2
 obtain ⟨cs,ty,hheap,hcs⟩:=g2.mem.row id _ hr1 hm1
 have hcell:∀ j,w'.cell? ⟨β id,j,none⟩ = cs[j]?:=fun j => Z6s hheap
 have hv:w'.cell? ⟨β id,off,none⟩ = some (.slice (some ⟨b,o',none⟩) xs.length cap):=by
  obtain ⟨_,_,_,hcv⟩:=here
  rw [cell_of_heap (hbx id (by rw [hl1]; exact hid))]
  exact hcv
 obtain ⟨g3,u3⟩:=Good.setBox (j0:=off) (x0:=.p (.ml n ys)) (v0:=.slice (some ⟨b,o',none⟩) ys.length cap) (row:=(row.set off (.p (.hd xs.length))).set off (.p (.ml n ys))) g2 (by rw [hl1]; exact hid) (Zbe hheap) (by simpa using hcs) (by
   intro j z u hz hu'
   rw [Z8u] at hz
   split at hz
   ·rename_i e
    subst e
    split at hz
    ·simp only [q1_] at hz
     subst hz
     rw [hcell,hu'] at hv
     simp only [q1_] at hv
     subst hv
     rw [← hlen]
     exact ⟨.p _ _ (.ml _ _ _ _ (by rw [hlen]; exact hcap) (by simp)),rfl,fun _ => .inr ⟨rfl,rfl,rfl⟩⟩
    ·simp at hz
   ·obtain ⟨v',q1,q2,q3⟩:=g2.mem.cell id _ j z hr1 hm1 hz
    rw [hcell,hu'] at q1
    cases q1
    exact ⟨q2,q3,fun _ => .inl ⟨_,hr1,hz,by rw [hcell,hu']⟩⟩) (fun _ => ⟨hok,fun i hi e => hb i (hl1 ▸ hi) (by simpa [Z3U] using e),fun l y u hl hy e => by
    have hl':=ZqQ hbx hl
    obtain ⟨b2,e1,e2⟩:=e
    cases e2
    exact gone l y u hl' hy e1⟩)
 rw [List.set_set,List.set_set] at g3 u3
 refine ⟨g3,hkeep,fun b' hb' => ?_⟩
 rcases u3 b' hb' with hb' | ⟨_,e⟩
 ·exact u1 b' (UB.world g1.mem hbx hb')
 ·exact ⟨_,_,_,here,rfl,e⟩
omit hd in
theorem Zlj (hal:Als nt w β B sl a.tmps) {y:Operand} {q:Al} (he:ev sl y = .p (.jnk q)):AlOk w β B q (a.eval y):=by
 have hno:∀ {x:AV},x = jk → x = .p (.jnk q) → AlOk w β B q (a.eval y):=by
  intro x h1 h2
  rw [h1] at h2
  unfold jk at h2
  cases h2
  trivial
 cases y with
 | tmp t =>
  by_cases ht:t < nt
  ·exact hal t q ht he
  ·exact hno (h.high t (Nat.not_lt.1 ht)) he
 | const c =>
  have hc:ev sl (.const c) = jk ∨ (∃ x,ev sl (.const c) = .p (.v x)) ∨ ev sl (.const c) = .p (.lst .nl []):=by
   unfold ev
   split
   ·rename_i e; cases e
   ·exact .inr (.inr rfl)
   ·split
    ·exact .inr (.inl ⟨_,rfl⟩)
    ·exact .inl rfl
   ·rename_i e; cases e
   ·exact .inl rfl
  rcases hc with hc | ⟨x,hc⟩ | hc
  ·exact hno hc he
  ·rw [hc] at he; simp at he
  ·rw [hc] at he; simp at he
 | global g => exact hno rfl he
 | func g => simp [ev] at he
omit h hd in
theorem ZD3 {t:TypeId} {ag:Bool} {k fo:Nat} {v:AV} {cs:List PV} {b off:Nat} (hs:shape P t = some (ag,k))
  (hc:∀ (j:Nat) (c:PV),cs[j]? = some c → Z42 c = true ∧ ∃ u,w.cell? ⟨b,off + j,none⟩ = some u ∧ PRel w S c u) (hv:elLd ag k fo cs = some v) :
  ∃ c,(loadVar t ⟨b,off + fo,none⟩).run P w = .ok c w ∧ ARel w S β B.length v c ∧ isUn v = false ∧ ∀ q,v = .p (.jnk q) → False:=by
 obtain ⟨d,i,hu,hi,hsz,hag,h1⟩:=Z9a hs
 unfold elLd at hv
 cases ag with
 | true =>
  simp only [if_true] at hv
  split at hv
  ·rename_i hle
   simp only [q1_] at hv
   subst hv
   have hcc:∀ j,j < k → ∃ c u,cs[fo + j]? = some c ∧ Z42 c = true ∧ w.cell? ⟨b,off + fo + j,none⟩ = some u ∧ PRel w S c u:=by
    intro j hj
    have hlt:fo + j < cs.length:=by omega
    obtain ⟨q1,u,q2,q3⟩:=hc (fo + j) cs[fo + j] (by simp [hlt])
    exact ⟨_,u,by simp [hlt],q1,by rw [Znt]; exact q2,q3⟩
   refine ⟨_,Zgj hu hi hag.symm (fun j hj => ?_),?_,rfl,fun q e => by simp at e⟩
   ·obtain ⟨_,u,_,_,q,_⟩:=hcc j (by omega)
    exact ⟨u,q⟩
   ·refine .p _ _ (.agg _ _ ?_ ?_ ?_)
    ·simp; omega
    ·intro c hc'
     obtain ⟨j,hj⟩:=ZcK.1 (Ztc (Zpi hc'))
     exact (hc j c hj).1
    ·intro j c v' hc' hv'
     rw [Zet] at hc'
     split at hc'
     ·rename_i hjk
      rw [Zka] at hc'
      obtain ⟨c2,u,e1,e2,e3,e4⟩:=hcc j hjk
      rw [hc'] at e1
      cases e1
      obtain ⟨_,rfl⟩:=range_map_get hv'
      rw [Zaw e3]
      exact e4
     ·simp at hc'
  ·simp at hv
 | false =>
  simp only [Zj4,if_false] at hv
  obtain ⟨c,hcv,hv2⟩:=ZR hv
  simp only [q1_] at hv2
  subst hv2
  obtain ⟨a1,u,a2,a3⟩:=hc fo c hcv
  exact ⟨u,Z9i hu hag.symm a2,.p _ _ a3,(ZjJ a1).2,fun q e => by
   simp only [AV.p.injEq] at e
   subst e
   simp [Z42,Z84] at a1⟩
theorem ZF5 {t:TypeId} {y z:Operand} {ag:Bool} {k:Nat} {id off n' i fo n:Nat} {row:Row} {xs:List PV} {e e':PV} (hal:Als nt w β B sl a.tmps) (ho:o.op = .store t y z) (hs:shape P t = some (ag,k))
  (hy:ev sl y = .p (.jnk (.ep id off n' i fo))) (hcell:Za5 B id off = some (row,n,xs)) (hxi:xs[i]? = some e) (he:elSt k fo (ev sl z) e = some e') :
  o.wp P a w (Zkf nt m0 o w S β sl B a jk (B.set id (row.set off (.p (.ml n (xs.set i e')))))) Q:=by
 obtain ⟨d,ti,hu,hi,hsz,hag,h1⟩:=Z9a hs
 obtain ⟨row2,xs2,b,o',cap,r1,r2,r3,r4,r5⟩:=Zlj h hal hy
 obtain ⟨hrow,hmd,hc⟩:=ZdG hcell
 rw [hrow] at r1
 cases r1
 rw [hc] at r3
 simp only [q1_,AV.p.injEq,PV.ml.injEq] at r3
 obtain ⟨rfl,rfl⟩:=r3
 obtain ⟨b2,o2,cap2,cs,ty,k1,here,k3,k4,k5,k6,k8,k9,k10,k11⟩:=h.mlAt hrow hmd hc (by rintro rfl; simp at hxi)
 rw [r4] at k1
 simp only [q1_,Value.slice.injEq,Addr.mk.injEq,true_and,and_true] at k1
 obtain ⟨⟨rfl,rfl⟩,rfl⟩:=k1
 have hz:=h.ev z
 have hex:∀ c,c ∈ Z2k (ev sl z) → Z3g c = true:=by
  have ht:Z5a (ev sl z) = false:=by
   cases hh:Z5a (ev sl z) with
   | false => rfl
   | true => unfold elSt at he; rw [if_pos hh] at he; simp at he
  obtain ⟨c1,c2⟩:=Za4 hz ht
  intro c hcm
  obtain ⟨j,hj⟩:=ZcK.1 hcm
  have hlt:j < (a.eval z).cells.size:=by rw [c1]; exact (q2_.1 hj).1
  exact (c2 j c _ hj (Zfp hlt)).2.1
 obtain ⟨ht,ps,hps,hpl,hfk,hel,hget⟩:=ZzK he hex
 obtain ⟨c1,c2⟩:=Za4 hz ht
 have hil:i < xs.length:=(q2_.1 hxi).1
 have hen:(Z1r e).length = n:=k9 e (q9_ hxi)
 have hsize:(a.eval z).cells.size = k:=by rw [c1,hps,ZbC,hpl]
 have hone:∀ v,v ∈ (a.eval z).cells.toList → v.oneCell' = true:=by
  intro v hv
  obtain ⟨j,hj⟩:=ZcK.1 hv
  have hj':(a.eval z).cells[j]? = some v:=by simpa using hj
  have hlt:j < (Z2k (ev sl z)).length:=by rw [← c1]; exact (Z8t.1 hj').1
  obtain ⟨q1,q2,_⟩:=c2 j _ v (q4_ hlt) hj'
  exact Zik (q1.cellV q2)
 have hin:i * n + n ≤ cap * n:=by
  have:=ZlZ n (show i + 1 ≤ cap by omega)
  rwa [Z9Y,Nat.one_mul] at this
 have hvl:(a.eval z).cells.toList.length = k:=by simp [hsize]
 have hfit:o' + (i * n + fo) + (a.eval z).cells.toList.length ≤ cs.size:=by rw [hvl]; omega
 have hst:=run_storeCells_at P b (o' + (i * n + fo)) ty (a.eval z).cells.toList 0 cs w k3 (by simpa using hfit) hone
 simp only [ZbF] at hst
 have hrun:(execOp a.eval o).run P w = .ok .skip (w.setRow b (cs.toList.take (o' + (i * n + fo)) ++ (a.eval z).cells.toList ++ cs.toList.drop (o' + (i * n + fo) + (a.eval z).cells.toList.length)).toArray):=by
  unfold execOp
  simp only [ho,r5]
  show ((Instr.storeAt t (.pointer (some ⟨b,o' + (i * n + fo),none⟩)) (a.eval z)).bind fun _ => Sem.pure Next.skip).run P w = _
  rw [Sem.run_bind']
  unfold Instr.storeAt storeVar
  simp only [Instr.sureAddr,Sem.run_bind,Sem.run_pure,Result.andThen_ok,run_sizeOf hi,hsz,hsize]
  simp [hst]
 have hset:=Zja k3 (cs.toList.take (o' + (i * n + fo)) ++ (a.eval z).cells.toList ++ cs.toList.drop (o' + (i * n + fo) + (a.eval z).cells.toList.length)).toArray
 obtain ⟨ty',hty⟩:=hset.heap
 have hrsz:=Zil cs (a.eval z).cells.toList (o' + (i * n + fo)) hfit
 have hpg:∀ j,((cs.toList.take (o' + (i * n + fo)) ++ (a.eval z).cells.toList ++ cs.toList.drop (o' + (i * n + fo) + (a.eval z).cells.toList.length)).toArray)[j]? = if o' + (i * n + fo) ≤ j ∧ j < o' + (i * n + fo) + k then (a.eval z).cells.toList[j - (o' + (i * n + fo))]? else cs[j]?:=by
  intro j
  rw [ZcH _ _ _ _ hfit,hvl]
 generalize (cs.toList.take (o' + (i * n + fo)) ++ (a.eval z).cells.toList ++ cs.toList.drop (o' + (i * n + fo) + (a.eval z).cells.toList.length)).toArray = arr1 at *
 generalize w.setRow b arr1 = w1 at *
 have hkeep:Keeps w S w1 S:=by
  refine ⟨fun _ _ h => h,fun b1 o1 hs => ?_⟩
  by_cases e:b1 = b
  ·subst e; exact absurd hs (k8 o1)
  ·exact cell_of_heap (hset.other b1 e)
 have hpl':∀ e0,e0 ∈ xs.set i e' → (Z1r e0).length = n:=by
  intro e0 he0
  rcases List.mem_or_eq_of_mem_set he0 with h0 | rfl
  ·exact k9 e0 h0
  ·rw [hel,hen]
 have hok:UnOk w1 S (.p (.ml n (xs.set i e'))) (.slice (some ⟨b,o',none⟩) (xs.set i e').length cap):=by
  refine UnOk.ofMl rfl hty k4 (by rw [hrsz]; exact k5) (by simpa using k6) k8 hpl' ?_
  intro i2 e2 j c h2 hcc
  have hj:j < n:=by rw [← hpl' e2 (q9_ h2)]; exact (q2_.1 hcc).1
  rw [hpg]
  rw [Z8u] at h2
  by_cases e0:i = i2
  ·subst e0
   rw [if_pos rfl,if_pos hil] at h2
   cases h2
   rcases hget j c hcc with ⟨q1,q2,dd,q3,rfl⟩ | ⟨q1,q2⟩
   ·have hjc:(Z2k (ev sl z))[j - fo]? = some (.p dd):=by rw [hps,q7_,q3]; rfl
    have hlt:j - fo < (a.eval z).cells.size:=by rw [hsize]; omega
    obtain ⟨s1,s2,_⟩:=c2 (j - fo) (.p dd) _ hjc (Zfp hlt)
    have hdd:PRel w S dd (a.eval z).cells[j - fo]:=by cases s1 with | p _ _ hp => exact hp
    refine ⟨?_,(a.eval z).cells[j - fo],?_,hdd.nrmP.keeps hkeep⟩
    ·unfold Z42
     rw [Zfg,ZlT]
     have:Z84 dd = true:=s2
     rw [this]
     rfl
    ·rw [if_pos (by omega),Zsd,← Zfp hlt]
     congr 1
     omega
   ·obtain ⟨s1,u,s2,s3⟩:=k10 i e j c hxi q2
    rw [if_neg (by omega)]
    exact ⟨s1,u,s2,s3.keeps hkeep⟩
  ·rw [if_neg e0] at h2
   obtain ⟨s1,u,s2,s3⟩:=k10 i2 e2 j c h2 hcc
   rw [if_neg ?_]
   ·exact ⟨s1,u,s2,s3.keeps hkeep⟩
   ·rcases Nat.lt_or_gt_of_ne e0 with hlt | hgt
    ·have:=ZlZ n (show i + 1 ≤ i2 by omega)
     rw [Z9Y,Nat.one_mul] at this
     omega
    ·have:=ZlZ n (show i2 + 1 ≤ i by omega)
     rw [Z9Y,Nat.one_mul] at this
     omega
 obtain ⟨g,_,hU⟩:=h.turnMl (ys:=xs.set i e') hrow hmd hc here k6 (by simp) k11 k8 hset.only hok
 have hid:id < B.length:=(q2_.1 hrow).1
 have hoff:off < row.length:=(q2_.1 hc).1
 refine Zww hrun ⟨undef,rfl,g.put hd (ARel.junk _) rfl,fun q e => ?_,?_,by simp,?_⟩
 ·unfold jk at e
  cases e
  trivial
 ·
  have hmd':mdOf (row.set off (AV.p (.ml n (xs.set i e')))) = none:=by
   cases hm:mdOf (row.set off (AV.p (.ml n (xs.set i e')))) with
   | none => rfl
   | some es =>
    have:=ZeN hm
    have h2:(row.set off (AV.p (.ml n (xs.set i e'))))[off]? = some (.p (.ml n (xs.set i e'))):=by simp [hoff]
    rw [this] at h2
    cases off <;> simp at h2
  have key:∀ (id2 off2 n2:Nat) (row2:Row) (xs2:List PV),B[id2]? = some row2 → mdOf row2 = none → row2[off2]? = some (.p (.ml n2 xs2)) →
    ∃ (row3:Row) (xs3:List PV),(B.set id (row.set off (.p (.ml n (xs.set i e')))))[id2]? = some row3 ∧ mdOf row3 = none ∧ row3[off2]? = some (.p (.ml n2 xs3)) ∧ xs3.length = xs2.length:=by
   intro id2 off2 n2 row2 xs2 q1 q2 q3
   by_cases e1:id = id2
   ·subst e1
    rw [hrow] at q1
    cases q1
    refine ⟨row.set off (.p (.ml n (xs.set i e'))),?_⟩
    by_cases e2:off = off2
    ·subst e2
     rw [hc] at q3
     cases q3
     exact ⟨xs.set i e',by simp [hid],hmd',by simp [hoff],by simp⟩
    ·exact ⟨xs2,by simp [hid],hmd',by rw [Z8u,if_neg e2]; exact q3,rfl⟩
   ·exact ⟨row2,xs2,by rw [Z8u,if_neg e1]; exact q1,q2,q3,rfl⟩
  have cell2:∀ (id2:Nat) (row2:Row) (off2:Nat),B[id2]? = some row2 → w1.cell? ⟨β id2,off2,none⟩ = w.cell? ⟨β id2,off2,none⟩:=by
   intro id2 row2 off2 q1
   exact cell_of_heap (hset.other _ fun e => k11 id2 (q2_.1 q1).1 e.symm)
  intro q u hqu
  cases q with
  | no => trivial
  | al id2 off2 n2 len2 =>
   obtain ⟨row2,xs2,q1,q2,q3,q4,q6⟩:=hqu
   obtain ⟨row3,xs3,p1,p2,p3,p4⟩:=key id2 off2 n2 row2 xs2 q1 q2 q3
   exact ⟨row3,xs3,p1,p2,p3,by rw [p4,q4],by rw [cell2 id2 row2 off2 q1]; exact q6⟩
  | ep id2 off2 n2 i2 fo2 =>
   obtain ⟨row2,xs2,b2,o2,cap2,q1,q2,q3,q4,q5⟩:=hqu
   obtain ⟨row3,xs3,p1,p2,p3,p4⟩:=key id2 off2 n2 row2 xs2 q1 q2 q3
   exact ⟨row3,xs3,b2,o2,cap2,p1,p2,p3,by rw [cell2 id2 row2 off2 q1,p4]; exact q4,q5⟩
 ·have hlen:(B.set id (row.set off (.p (.ml n (xs.set i e'))))).length = B.length:=by simp
  have hUb:UB (Here nt sl a.tmps B β w) b:=⟨_,_,_,here,rfl,rfl⟩
  rw [hlen]
  refine ⟨hkeep,by rw [hset.size]; exact Z2x _,hset.os,hset.tape,hset.output,fun hm => ⟨hm,fun _ _ => rfl⟩,fun i hi => .inl ⟨i,hi,rfl,fun q => q⟩,?_,fun _ _ hs => .inl hs,?_⟩
  ·intro b1 hb1
   exact .inl (hU b1 (UB.put h.size hd (x:=jk) rfl b1 hb1))
  ·intro b1 _ _ h3
   exact hset.other b1 (fun e => h3 (e ▸ hUb))
theorem ZCA (hal:Als nt w β B sl a.tmps) {draw:Bool} (hq:isA H f draw o = true) {er:Bool} {x:AV} {B':List Row} (hs:stA P H f G er o sl B = some (x,B')):o.wp P a w (Zkf nt m0 o w S β sl B a x B') Q:=by
 have copy:∀ y,o.op = .move y ∨ o.op = .assign y → some (shr (ev sl y),B) = some (x,B') → o.wp P a w (Zkf nt m0 o w S β sl B a x B') Q:=by
  intro y ho hk
  simp only [q1_,Z43] at hk
  obtain ⟨rfl,rfl⟩:=hk
  have hr:(execOp a.eval o).run P w = .ok (.value (a.eval y)) w:=by
   rcases ho with ho | ho <;> (unfold execOp; simp only [ho]; rfl)
  refine Z2p hr (Z9x h hd (h.ev y).shr (Z4p _) fun q e => ?_)
  refine Zlj h hal ?_
  generalize ev sl y = z at e
  cases z with
  | p z => cases z with
   | jnk q' => exact e
   | lst o' xs => cases o' <;> simp [shr] at e
   | _ => simp [shr] at e
  | _ => simp [shr] at e
 unfold isA at hq
 unfold stA at hs
 split at hs
 ·exact copy _ (.inl ‹_›) hs
 ·exact copy _ (.inr ‹_›) hs
 ·rename_i t y z ho
  split at hs
  ·rename_i id off n' i fo hy
   obtain ⟨sh,hsh,hs⟩:=ZR hs
   obtain ⟨q,hc,hs⟩:=ZR hs
   obtain ⟨e,hxi,hs⟩:=ZR hs
   obtain ⟨e',he,hs⟩:=ZR hs
   simp only [q1_,Z43] at hs
   obtain ⟨rfl,rfl⟩:=hs
   exact ZF5 h hd hal ho (ag:=sh.1) (k:=sh.2) hsh hy hc hxi he
  ·simp at hs
 ·rename_i t y ho
  simp only [ho] at hq
  split at hs
  ·obtain ⟨sh,hsh,hs⟩:=ZR hs
   obtain ⟨d,ti,hu,hi,hsz,hag,h1⟩:=Z9a (b:=sh.1) (n:=sh.2) hsh
   split at hs
   ·rename_i id off hs1 hy
    obtain ⟨q,hc,hs⟩:=ZR hs
    simp only [q1_,Z43] at hs
    obtain ⟨rfl,rfl⟩:=hs
    obtain ⟨row,n,xs⟩:=q
    obtain ⟨hrow,hmd,hcc⟩:=ZdG hc
    obtain ⟨u0,k1,_,_⟩:=h.mem.cell id row off _ hrow hmd hcc
    have hx:=h.ev y
    rw [hy] at hx
    obtain ⟨u,hue⟩:∃ u,a.eval y = u:=⟨_,rfl⟩
    rw [hue] at hx
    cases hx with
    | ptr _ _ hid =>
     have hrun:(execOp a.eval o).run P w = .ok (.value u0) w:=by
      unfold execOp
      simp only [ho,hue]
      show ((Instr.loadAt t (.pointer (some ⟨β id,off,none⟩))).bind fun x => Sem.pure (Next.value x)).run P w = _
      rw [Sem.run_bind']
      unfold Instr.loadAt
      simp [Instr.sureAddr,Z9i hu (by rw [← hag]; exact hs1) k1]
     refine Z2p hrun (Z9x h hd (.p _ _ (.jnk _ _)) rfl fun q e => ?_)
     simp only [AV.p.injEq,PV.jnk.injEq] at e
     subst e
     exact ⟨row,xs,hrow,hmd,hcc,rfl,k1⟩
   ·simp at hs
  ·split at hs
   ·rename_i id off n' i fo hy
    split at hs
    ·obtain ⟨sh,hsh,hs⟩:=ZR hs
     obtain ⟨q,hc,hs⟩:=ZR hs
     obtain ⟨e,hxi,hs⟩:=ZR hs
     obtain ⟨v,hv,hs⟩:=ZR hs
     simp only [q1_,Z43] at hs
     obtain ⟨rfl,rfl⟩:=hs
     obtain ⟨row,n,xs⟩:=q
     obtain ⟨hrow,hmd,hcc⟩:=ZdG hc
     obtain ⟨row2,xs2,b,o',cap,r1,r2,r3,r4,r5⟩:=Zlj h hal hy
     rw [hrow] at r1
     cases r1
     rw [hcc] at r3
     simp only [q1_,AV.p.injEq,PV.ml.injEq] at r3
     obtain ⟨rfl,rfl⟩:=r3
     obtain ⟨b2,o2,cap2,cs,ty,k1,here,k3,k4,k5,k6,k8,k9,k10,k11⟩:=h.mlAt hrow hmd hcc (by rintro rfl; simp at hxi)
     rw [r4] at k1
     simp only [q1_,Value.slice.injEq,Addr.mk.injEq,true_and,and_true] at k1
     obtain ⟨⟨rfl,rfl⟩,rfl⟩:=k1
     obtain ⟨c,q1,q2,q3,q4⟩:=ZD3 (P:=P) (w:=w) (S:=S) (β:=β) (B:=B) (b:=b) (off:=o' + i * n) (ag:=sh.1) (k:=sh.2) hsh (fun j c hj => by
      obtain ⟨s1,u,s2,s3⟩:=k10 i e j c hxi hj
      exact ⟨s1,u,by rw [Z6s k3,Znt]; exact s2,s3⟩) hv
     have hrun:(execOp a.eval o).run P w = .ok (.value c) w:=by
      unfold execOp
      simp only [ho,r5]
      show ((Instr.loadAt t (.pointer (some ⟨b,o' + (i * n + fo),none⟩))).bind fun x => Sem.pure (Next.value x)).run P w = _
      rw [Sem.run_bind',← Znt]
      unfold Instr.loadAt
      simp [Instr.sureAddr,q1]
     exact Z2p hrun (Z9x h hd q2 q3 fun q e => (q4 q e).elim)
    ·simp at hs
   ·exact Znv h hd hq hs
 ·rename_i t y z ho
  simp only [ho] at hq
  split at hs
  ·rename_i id off n len hy
   obtain ⟨kd,j,hj,hs⟩:=Zbi hs
   split at hs
   ·rename_i hc
    obtain ⟨c1,c2,c3,c4⟩:=hc
    simp only [q1_,Z43] at hs
    obtain ⟨rfl,rfl⟩:=hs
    obtain ⟨row,xs,r1,r2,r3,r4,r6⟩:=Zlj h hal hy
    obtain ⟨b,o',cap,cs,ty,k1,_⟩:=h.mlAt r1 r2 r3 (by rintro rfl; simp at r4; omega)
    have r5:a.eval y = .slice (some ⟨b,o',none⟩) len cap:=by rw [k1] at r6; rw [← r4]; exact (Option.some.inj r6).symm
    have hz:=h.ev z
    rw [hj] at hz
    have hze:=Z5b hz
    obtain ⟨e,ti,hue,hie,hsz,_⟩:=Zaf (P:=P) rfl (show 0 < Z4P P t by rw [← c3]; exact c4)
    have hrun:(execOp a.eval o).run P w = .ok (.value (.pointer (some ⟨b,o' + (j.toNat * n + 0),none⟩))) w:=by
     unfold execOp
     simp only [ho,r5,hze]
     simp [Instr.indexAt,asIntOf,underlying,program,typeInfo,Go.sizeOf,hue,hie,hsz,c1,c2,Sem.run,Z8M,pure,bind,Sem.bind,c3]
    refine Z2p hrun (Z9x h hd (.p _ _ (.jnk _ _)) rfl fun q e => ?_)
    simp only [AV.p.injEq,PV.jnk.injEq] at e
    subst e
    exact ⟨row,xs,b,o',cap,r1,r2,r3,k1,rfl⟩
   ·simp at hs
  ·exact Znv h hd (by unfold quiet; simp only [ho]) hs
 ·rename_i t y fd ho
  simp only [ho] at hq
  split at hs
  ·rename_i id off n i fo hy
   obtain ⟨k,hf,hs⟩:=ZR hs
   simp only [q1_,Z43] at hs
   obtain ⟨rfl,rfl⟩:=hs
   obtain ⟨row,xs,b,o',cap,r1,r2,r3,r4,r5⟩:=Zlj h hal hy
   unfold Zci at hf
   split at hf
   ·rename_i fields hus
    split at hf
    ·rename_i fl hfl
     split at hf
     ·simp at hf
     ·rename_i hz
      simp only [q1_] at hf
      obtain ⟨ti,hi⟩:∃ i,P.info? fl.type = some i:=by
       cases hh:P.info? fl.type with
       | none => simp [sizeOf,hh] at hz
       | some i => exact ⟨i,rfl⟩
      have hsz:¬ ti.size = 0:=by simpa [sizeOf,hi] using hz
      have hrun:(execOp a.eval o).run P w = .ok (.value (.pointer (some ⟨b,o' + (i * n + (fo + k)),none⟩))) w:=by
       have:(Instr.fieldAt t (.pointer (some ⟨b,o' + (i * n + fo),none⟩)) fd).run P w = .ok (.pointer (some ⟨b,o' + (i * n + (fo + k)),none⟩)) w:=by
        unfold Instr.fieldAt
        simp [run_underlying hus,hfl,Instr.sureAddr,fieldPlace,run_sizeOf hi,hsz,Z8M,hf,Znt]
       unfold execOp
       simp only [ho,r5]
       show ((Instr.fieldAt t (.pointer (some ⟨b,o' + (i * n + fo),none⟩)) fd).bind fun x => Sem.pure (Next.value x)).run P w = _
       rw [Sem.run_bind',this]
       rfl
      refine Z2p hrun (Z9x h hd (.p _ _ (.jnk _ _)) rfl fun q e => ?_)
      simp only [AV.p.injEq,PV.jnk.injEq] at e
      subst e
      exact ⟨row,xs,b,o',cap,r1,r2,r3,r4,rfl⟩
    ·simp at hf
   ·simp at hf
  ·exact Znv h hd (by unfold quiet; simp only [ho]) hs
 ·rename_i y ho
  simp only [ho] at hq
  split at hs
  ·rename_i hep
   simp only [q1_,Z43] at hs
   obtain ⟨rfl,rfl⟩:=hs
   unfold isEp at hep
   split at hep
   ·rename_i id off n i fo hy
    obtain ⟨row,xs,b,o',cap,r1,r2,r3,r4,r5⟩:=Zlj h hal hy
    have hrun:(execOp a.eval o).run P w = .ok (.value (a.eval y)) w:=by
     unfold execOp
     simp only [ho,r5]
     rfl
    refine Z2p hrun (Z9x h hd (by rw [hy]; exact .p _ _ (.jnk _ _)) (by rw [hy]; rfl) fun q e => ?_)
    exact Zlj h hal e
   ·simp at hep
  ·exact Znv h hd (by unfold quiet; simp only [ho]) hs
 ·rename_i n1 n2 n3 n4 n5 n6 n7
  refine Znv h hd ?_ hs
  split at hq
  ·exact absurd ‹_› (n1 _)
  ·exact absurd ‹_› (n2 _)
  ·exact absurd ‹_› (n3 _ _ _)
  ·exact hq
end
end Go.Abs
end
section
namespace Go.Abs
open Go
def AtA (b:Base) (sl:Sl) (B:List Row) (a:Act) (w:World):Prop :=
 ∃ S β,Good b.nt w S β sl B a ∧ Step b.m0 b.w b.S b.β b.n b.U w S β B.length (UB (Here b.nt sl a.tmps B β w)) ∧ Als b.nt w β B sl a.tmps
theorem AtA.at {b:Base} {sl:Sl} {B:List Row} {a:Act} {w:World} (h:AtA b sl B a w):At b sl B a w:=by
 obtain ⟨S,β,h1,h2,_⟩:=h
 exact ⟨S,β,h1,h2⟩
theorem Zj1:∀ (sl:Sl) (t:Nat),get (noAl sl) t = Z2g (get sl t)
 | [],t => rfl
 | (i,x) :: r,t => by
  show get ((i,Z2g x) :: noAl r) t = _
  rw [Z1Z,Z1Z,Zj1 r t]
  split <;> rfl
theorem ZvP (x:AV):Z2g x = x ∨ Z2g x = jk:=by
 unfold Z2g
 split
 ·exact .inr rfl
 ·exact .inl rfl
theorem AtA.of {b:Base} {sl sl2:Sl} {B:List Row} {a:Act} {w:World} (h:At b sl B a w) (hs:∀ t,get sl2 t = Z2g (get sl t)):AtA b sl2 B a w:=by
 obtain ⟨S,β,hg,hst⟩:=h
 have hr:∀ t,t < b.nt → get sl2 t = get sl t ∨ isUn (get sl2 t) = false:=by
  intro t _
  rw [hs]
  rcases ZvP (get sl t) with e | e
  ·exact .inl e
  ·exact .inr (by rw [e]; rfl)
 refine ⟨S,β,hg.reslot ?_ ?_,hst.less fun c hc => UB.reslot hr c hc,?_⟩
 ·intro t ht
  rw [hs]
  rcases ZvP (get sl t) with e | e
  ·exact .inl e
  ·exact .inr (by rw [e]; exact ⟨ARel.junk _,rfl⟩)
 ·intro t ht
  rw [hs,hg.high t ht]
  rfl
 ·intro t q _ e
  rw [hs] at e
  rw [Zsw e]
  trivial
theorem AtA.eqv {b:Base} {sl sl':Sl} {B:List Row} {a:Act} {w:World} (h:AtA b sl B a w) (e:Eqv sl' sl):AtA b sl' B a w:=by
 obtain ⟨S,β,h1,h2,h3⟩:=h
 exact ⟨S,β,h1.eqv e,h2.less fun b hb => UB.reslot (fun t _ => .inl (e t)) b hb,fun t q ht hq => h3 t q ht (by rw [← e t]; exact hq)⟩
section
variable {P:Program} {H:Hints} {f:FuncId} {G:GF} {b:Base} {ops:Array Oper} {er:Bool} {sl sl':Sl} {B B':List Row} {a:Act} {w:World} {Q:Exit → Act → World → Prop}
theorem AtA.step {o:Oper} {x:AV} (hd:∀ t,o.dst = some t → t < b.nt) (h:AtA b sl B a w) {draw:Bool} (hq:isA H f draw o = true) (hs:stA P H f G er o sl B = some (x,B')):o.wp P a w (AtA b (put sl o.dst x) B') Q:=by
 obtain ⟨S,β,hg,hst,hal⟩:=h
 refine Oper.wp_mono ?_ (ZCA (m0:=b.m0) hg hd hal hq hs)
 rintro a' w' ⟨v,rfl,g2,ha,hpres,hlen,hst2⟩
 refine ⟨S,β,g2,hst.trans hst2,?_⟩
 intro t q ht e
 cases hdd:o.dst with
 | none =>
  rw [hdd] at e
  exact hpres q _ (hal t q ht e)
 | some d =>
  rw [hdd] at e
  change get ((d,x) :: sl) t = _ at e
  change AlOk w' β B' q ((a.tmps.setIfInBounds d v).getD t undef)
  rw [Z1Z] at e
  rw [ZcO (by rw [hg.size]; exact hd d hdd)]
  split at e
  ·rename_i e1
   rw [if_pos e1]
   exact ha q e
  ·rename_i e1
   rw [if_neg e1]
   exact hpres q _ (hal t q ht e)
theorem Zm3 {I:Inv} (hp:Pers I) (hI:I b.w b.S) (hF:Z90 P I G) (hd:∀ (i:Nat) (o:Oper) (t:Tmp),ops[i]? = some o → o.dst = some t → t < b.nt) {K:Sl → List Row → Option Res} {r:Res}
  (hQ:∀ sl B a w,K sl B = some r → At b sl B a w → Q .normal a w):∀ (os:List Oper) (k:Nat) (sl:Sl) (B:List Row) (a:Act) (w:World),(∀ j,j < os.length → os[j]? = ops[k + j]?) → runA P H f G false er os K sl B = some r →
   AtA b sl B a w → wpOps P ops Q (List.range' k os.length) a w
 | [],k,sl,B,a,w,_,hk,h => hQ sl B a w hk h.at
 | o :: os,k,sl,B,a,w,hl,hk,h => by
  have h0:ops[k]? = some o:=by have:=hl 0 (by simp); simpa using this.symm
  have hrest:∀ j,j < os.length → os[j]? = ops[k + 1 + j]?:=by
   intro j hj
   have:=hl (j + 1) (by simpa using hj)
   rw [Zhz] at this
   rw [this]
   congr 1
   omega
  change stepA P H f G false er o (runA P H f G false er os K) sl B = some r at hk
  unfold stepA at hk
  show wpOps P ops Q (k :: List.range' (k + 1) os.length) a w
  split at hk
  ·simp at hk
  ·rename_i hg
   simp only [wpOps,h0]
   rw [if_pos (by unfold Region.wanted; rw [hg])]
   split at hk
   ·rename_i hq
    rw [ZCB hq] at hk
    obtain ⟨q,hs,hk⟩:=ZR hk
    exact .inl (Oper.wp_mono (fun a w ha => Zm3 hp hI hF hd hQ os (k + 1) _ _ a w hrest hk ha) (h.step (Q:=Q) (fun t ht => hd k o t h0 ht) hq hs))
   ·obtain ⟨S,β,hgd,hst,_⟩:=h
    refine .inl (Oper.wp_mono ?_ (Zri (m0:=b.m0) (Q:=Q) hgd (fun t ht => hd k o t h0 ht) (hp _ _ _ _ hst.keeps hI) hF hk))
    rintro a' w' ⟨x,sl2,B2,S',β',q1,q2,q3⟩
    refine Zm3 hp hI hF hd hQ os (k + 1) _ _ a' w' hrest q1 (AtA.of ⟨S',β',q2,hst.trans q3⟩ fun t => ?_)
    cases o.dst with
    | none => exact Zj1 sl2 t
    | some d =>
     show get ((d,Z2g x) :: noAl sl2) t = Z2g (get ((d,x) :: sl2) t)
     rw [Z1Z,Z1Z,Zj1]
     split <;> rfl
theorem ZsR {I:Inv} (hp:Pers I) (hI:I b.w b.S) (hF:Z90 P I G) (hd:∀ (i:Nat) (o:Oper) (t:Tmp),ops[i]? = some o → o.dst = some t → t < b.nt) {id:Nat} {K:Sl → List Row → Option Res} {r:Res} (hk:runA P H f G false er ops.toList K (noAl sl) B = some r)
  (h:At b sl B a w) (hQ:∀ sl B a w,K sl B = some r → At b sl B a w → Q .normal a w):(Code.region id ops false).wp P Q a w:=by
 refine wp_region ?_
 have e:List.range ops.size = List.range' 0 ops.toList.length:=by rw [Ztd]; simp
 rw [e]
 exact Zm3 hp hI hF hd hQ ops.toList 0 (noAl sl) B a w (fun j _ => by simp) hk (AtA.of h (Zj1 sl))
end
def ShC (x y:AV):Prop:=x = y ∨ ∃ n xs ys,x = .p (.ml n xs) ∧ y = .p (.ml n ys) ∧ xs.length = ys.length
def ShB (B B2:List Row):Prop:=∀ id:Nat,(B[id]? = none ∧ B2[id]? = none) ∨ ∃ r r2:Row,B[id]? = some r ∧ B2[id]? = some r2 ∧ r.length = r2.length ∧ ∀ (j:Nat) (x y:AV),r[j]? = some x → r2[j]? = some y → ShC x y
theorem ShC.symm {x y:AV} (h:ShC x y):ShC y x:=by
 rcases h with rfl | ⟨n,xs,ys,h1,h2,h3⟩
 ·exact .inl rfl
 ·exact .inr ⟨n,ys,xs,h2,h1,h3.symm⟩
theorem ShC.shr {x y:AV} (h:ShC x y):shr x = shr y:=by
 rcases h with rfl | ⟨n,xs,ys,rfl,rfl,h3⟩
 ·rfl
 ·simp [Go.Abs.shr,h3]
theorem ShB.symm {B B2:List Row} (h:ShB B B2):ShB B2 B:=by
 intro id
 rcases h id with ⟨h1,h2⟩ | ⟨r,r2,h1,h2,h3,h4⟩
 ·exact .inl ⟨h2,h1⟩
 ·exact .inr ⟨r2,r,h2,h1,h3.symm,fun j x y hx hy => (h4 j y x hy hx).symm⟩
theorem ShB.set {B:List Row} {id off n:Nat} {row:Row} {xs ys:List PV} (hrow:B[id]? = some row) (hc:row[off]? = some (.p (.ml n xs))) (hl:ys.length = xs.length):ShB B (B.set id (row.set off (.p (.ml n ys)))):=by
 intro i
 have hid:=(q2_.1 hrow).1
 by_cases e:id = i
 ·subst e
  refine .inr ⟨row,row.set off (.p (.ml n ys)),hrow,by simp [hid],by simp,?_⟩
  intro j x y hx hy
  rw [Z8u] at hy
  split at hy
  ·rename_i e2
   subst e2
   rw [hc] at hx
   cases hx
   split at hy
   ·cases hy
    exact .inr ⟨n,xs,ys,rfl,rfl,hl.symm⟩
   ·simp at hy
  ·rw [hx] at hy
   cases hy
   exact .inl rfl
 ·rw [Z8u,if_neg e]
  cases hB:B[i]? with
  | none => exact .inl ⟨rfl,rfl⟩
  | some r => exact .inr ⟨r,r,rfl,rfl,rfl,fun j x y hx hy => by rw [hx] at hy; cases hy; exact .inl rfl⟩
theorem Zzg {r r2:Row} (hl:r.length = r2.length) (hc:∀ (j:Nat) (x y:AV),r[j]? = some x → r2[j]? = some y → ShC x y):mdOf r = mdOf r2:=by
 have one:∀ (r r2:Row) (es:List (Int × PV)),r.length = r2.length → (∀ (j:Nat) (x y:AV),r[j]? = some x → r2[j]? = some y → ShC x y) → mdOf r = some es → mdOf r2 = some es:=by
  intro r r2 es hl hc h
  have e:=ZeN h
  subst e
  match r2,hl with
  | [y],_ =>
   rcases hc 0 (.md es) y rfl rfl with rfl | ⟨n,xs,ys,h1,_⟩
   ·rfl
   ·cases h1
 cases h:mdOf r with
 | some es => exact (one r r2 es hl hc h).symm
 | none =>
  cases h2:mdOf r2 with
  | none => rfl
  | some es =>
   have:=one r2 r es hl.symm (fun j x y hx hy => (hc j y x hy hx).symm) h2
   rw [this] at h
   cases h
theorem ZII {ag:Bool} {n:Nat} {x:AV} {B B2:List Row} (h:ShB B B2):ldN ag n x B = ldN ag n x B2:=by
 cases x with
 | ptr id off =>
  unfold ldN
  simp only
  rcases h id with ⟨h1,h2⟩ | ⟨r,r2,h1,h2,h3,h4⟩
  ·rw [h1,h2]
  ·rw [h1,h2]
   simp only [Z22]
   rw [Zzg h3 h4]
   have hmap:r.map shr = r2.map shr:=by
    apply Zm0
    intro j
    rw [q7_,q7_]
    by_cases hj:j < r.length
    ·rw [q4_ hj,q4_ (h3 ▸ hj)]
     exact congrArg some (h4 j _ _ (q4_ hj) (q4_ (h3 ▸ hj))).shr
    ·rw [ZcL (by omega),ZcL (by omega)]
   have e1:List.map shr (List.take n (List.drop off r)) = List.map shr (List.take n (List.drop off r2)):=by
    rw [Zw9,List.map_drop,hmap,← List.map_drop,← Zw9]
   have e2:(ob r[off]? fun c => some (shr c)) = ob r2[off]? fun c => some (shr c):=by
    have:=congrArg (fun l:List AV => l[off]?) hmap
    simp only [q7_] at this
    cases q:r[off]? <;> cases q2:r2[off]? <;> simp_all [ob,hi]
   rw [e1,e2,h3]
 | _ => rfl
section
variable {P:Program} {H:Hints} {f:FuncId} {G:GF} {o:Oper} {er:Bool} {sl sl':Sl} {B B' B2:List Row} {v:AV}
theorem ZIH (h:ShB B B2) {id off:Nat} {row:Row} {n:Nat} {xs:List PV} (hc:Za5 B id off = some (row,n,xs)):∃ row2 ys,Za5 B2 id off = some (row2,n,ys) ∧ ys.length = xs.length:=by
 obtain ⟨h1,h2,h3⟩:=ZdG hc
 rcases h id with ⟨k1,_⟩ | ⟨r,r2,k1,k2,k3,k4⟩
 ·rw [h1] at k1; simp at k1
 ·rw [h1] at k1
  cases k1
  have hlt:off < r2.length:=by rw [← k3]; exact (q2_.1 h3).1
  have hm:mdOf r2 = none:=by rw [← Zzg k3 k4]; exact h2
  have hal:∀ ys,r2[off]? = some (.p (.ml n ys)) → Za5 B2 id off = some (r2,n,ys):=by
   intro ys hy
   unfold Za5
   rw [k2]
   simp only [Z22]
   rw [if_neg (by simp [hm]),hy]
   rfl
  have hy:=q4_ hlt
  rcases k4 off _ _ h3 hy with e | ⟨n',xs',ys,e1,e2,e3⟩
  ·exact ⟨r2,xs,hal xs (by rw [hy,← e]),rfl⟩
  ·cases e1
   exact ⟨r2,ys,hal ys (by rw [hy,e2]),e3.symm⟩
theorem ZsH (hq:quiet H f o = true) (hsh:ShB B B2) (hk:stepOp P H f G o sl B (fun v _ B => some (Z2g v,B)) = some (v,B')) :
  B' = B ∧ stepOp P H f G o sl B2 (fun v _ B => some (Z2g v,B)) = some (v,B2):=by
 have free:cls P H f o = .free → B' = B ∧ stepOp P H f G o sl B2 (fun v _ B => some (Z2g v,B)) = some (v,B2):=by
  intro hc
  obtain ⟨x,hx⟩:=Ztm (G:=G) (sl:=sl) hc
  rw [Zat,hx] at hk
  cases x with
  | none => simp [ob,hi] at hk
  | some x =>
   simp only [Z8O,Z22,q1_,Z43] at hk
   obtain ⟨rfl,rfl⟩:=hk
   refine ⟨rfl,?_⟩
   rw [Zat,hx]
   rfl
 have hq':=hq
 unfold quiet at hq
 split at hq
 ·rename_i t x ho
  simp only [Z4R,Zes] at hq
  have e:∀ B,stepOp P H f G o sl B (fun v _ B => some (Z2g v,B)) = ob (shape P t) fun s => ob (ldN s.1 s.2 (ev sl x) B) fun v => some (Z2g v,B):=by
   intro B
   unfold stepOp
   simp only [ho,hq.1,hq.2,Zj4,if_false]
  rw [e] at hk ⊢
  obtain ⟨s,hs,hk⟩:=ZR hk
  obtain ⟨u,hu,hk⟩:=ZR hk
  simp only [q1_,Z43] at hk
  obtain ⟨rfl,rfl⟩:=hk
  refine ⟨rfl,?_⟩
  rw [hs,Z22,← ZII hsh,hu]
  rfl
 ·rename_i ho; exact free (by unfold cls; simp only [ho])
 ·rename_i ho; exact free (by unfold cls; simp only [ho])
 ·rename_i ho; exact free (by unfold cls; simp only [ho])
 ·rename_i ho; exact free (by unfold cls; simp only [ho])
 ·rename_i ho; exact free (by unfold cls; simp only [ho])
 ·rename_i ho; exact free (by unfold cls; simp only [ho])
 ·rename_i ho; exact free (by unfold cls; simp only [ho])
 ·rename_i ho; exact free (by unfold cls; simp only [ho])
 ·rename_i c ho
  split at hq
  ·rename_i hc
   have e:∀ B,stepOp P H f G o sl B (fun v _ B => some (Z2g v,B)) = match c.args.toList,c.argTypes.toList with
     | [x],[t] => match mapE P t with
      | some _ => ob (Zrq (ev sl x) B) fun v => some (Z2g v,B)
      | none => ob (xlen P t (ev sl x)) fun v => some (Z2g v,B)
     | _,_ => none:=by
    intro B
    unfold stepOp
    simp only [ho,hc]
    rfl
   rw [e] at hk ⊢
   split at hk
   ·split at hk
    ·obtain ⟨u,hu,hk⟩:=ZR hk
     simp only [q1_,Z43] at hk
     obtain ⟨rfl,rfl⟩:=hk
     refine ⟨rfl,?_⟩
     have:Zrq (ev sl ‹_›) B2 = some u:=by
      rw [← hu]
      unfold Zrq ZlR
      cases ev sl ‹_› with
      | mp id =>
       simp only
       rcases hsh id with ⟨h1,h2⟩ | ⟨r,r2,h1,h2,h3,h4⟩
       ·rw [h1,h2]
       ·rw [h1,h2]
        simp only [Z22]
        rw [Zzg h3 h4]
      | _ => rfl
     rw [this]
     rfl
    ·obtain ⟨u,hu,hk⟩:=ZR hk
     simp only [q1_,Z43] at hk
     obtain ⟨rfl,rfl⟩:=hk
     exact ⟨rfl,by rw [hu]; rfl⟩
   ·simp at hk
  ·simp at hq
 ·simp at hq
theorem Zlc {draw:Bool} (hq:isA H f draw o = true) (hst:Zbx o = false) (her:er = false ∨ B2 = B) (hsh:ShB B B2) (hs:stA P H f G er o sl B = some (v,B')):B' = B ∧ stA P H f G er o sl B2 = some (v,B2):=by
 have qv:∀ {o':Oper},o' = o → quiet H f o' = true → stepOp P H f G o' sl B (fun v _ B => some (Z2g v,B)) = some (v,B') → B' = B ∧ stepOp P H f G o' sl B2 (fun v _ B => some (Z2g v,B)) = some (v,B2) :=
  fun e hq hk => ZsH (e ▸ hq) hsh hk
 unfold isA at hq
 unfold stA at hs
 split at hs
 ·rename_i ho
  simp only [q1_,Z43] at hs
  refine ⟨hs.2.symm,?_⟩
  unfold stA
  simp only [ho,hs.1]
 ·rename_i ho
  simp only [q1_,Z43] at hs
  refine ⟨hs.2.symm,?_⟩
  unfold stA
  simp only [ho,hs.1]
 ·rename_i ho
  unfold Zbx at hst
  simp [ho] at hst
 ·rename_i t y ho
  simp only [ho] at hq
  split at hs
  ·rename_i hal
   obtain ⟨sh,hsh',hs⟩:=ZR hs
   split at hs
   ·rename_i id off h1 h2
    obtain ⟨q,hc,hs⟩:=ZR hs
    simp only [q1_,Z43] at hs
    obtain ⟨rfl,rfl⟩:=hs
    obtain ⟨row,n,xs⟩:=q
    obtain ⟨row2,ys,k1,k2⟩:=ZIH hsh hc
    refine ⟨rfl,?_⟩
    unfold stA
    simp only [ho,hal,hsh',Z22,h1,h2,k1,k2]
   ·simp at hs
  ·rename_i hal
   split at hs
   ·rename_i id off n' i fo hy
    split at hs
    ·rcases her with e | rfl
     ·cases e
     ·obtain ⟨sh,hsh',hs'⟩:=ZR hs
      obtain ⟨q,hc,hs'⟩:=ZR hs'
      obtain ⟨e,hxi,hs'⟩:=ZR hs'
      obtain ⟨u,hu,hs'⟩:=ZR hs'
      simp only [q1_,Z43] at hs'
      obtain ⟨rfl,rfl⟩:=hs'
      refine ⟨rfl,?_⟩
      unfold stA
      simp only [ho,hal,hy,hs]
    ·simp at hs
   ·rename_i hne
    obtain ⟨k1,k2⟩:=qv rfl hq hs
    refine ⟨k1,?_⟩
    unfold stA
    simp only [ho,hal]
    exact k2
 ·rename_i t y z ho
  simp only [ho] at hq
  split at hs
  ·rename_i id off n len hy
   obtain ⟨kd,j,hj,hs⟩:=Zbi hs
   split at hs
   ·rename_i hc
    simp only [q1_,Z43] at hs
    refine ⟨hs.2.symm,?_⟩
    unfold stA
    simp only [ho,hy,hj,asInt]
    rw [if_pos hc,hs.1]
   ·simp at hs
  ·rename_i hne
   obtain ⟨k1,k2⟩:=qv rfl (by unfold quiet; simp only [ho]) hs
   refine ⟨k1,?_⟩
   unfold stA
   simp only [ho]
   exact k2
 ·rename_i t y fd ho
  split at hs
  ·rename_i hy
   obtain ⟨k,hf,hs⟩:=ZR hs
   simp only [q1_,Z43] at hs
   refine ⟨hs.2.symm,?_⟩
   unfold stA
   simp only [ho,hy,hf,Z22,hs.1]
  ·rename_i hne
   obtain ⟨k1,k2⟩:=qv rfl (by unfold quiet; simp only [ho]) hs
   refine ⟨k1,?_⟩
   unfold stA
   simp only [ho]
   exact k2
 ·rename_i y ho
  split at hs
  ·rename_i hep
   simp only [q1_,Z43] at hs
   refine ⟨hs.2.symm,?_⟩
   unfold stA
   simp only [ho]
   rw [if_pos hep,hs.1]
  ·rename_i hep
   obtain ⟨k1,k2⟩:=qv rfl (by unfold quiet; simp only [ho]) hs
   refine ⟨k1,?_⟩
   unfold stA
   simp only [ho]
   rw [if_neg hep]
   exact k2
 ·rename_i n1 n2 n3 n4 n5 n6 n7
  have hq':quiet H f o = true:=by
   split at hq
   ·exact absurd ‹_› (n1 _)
   ·exact absurd ‹_› (n2 _)
   ·exact absurd ‹_› (n3 _ _ _)
   ·exact hq
  obtain ⟨k1,k2⟩:=ZsH hq' hsh hs
  refine ⟨k1,?_⟩
  unfold stA
  split
  ·exact absurd ‹_› (n1 _)
  ·exact absurd ‹_› (n2 _)
  ·exact absurd ‹_› (n3 _ _ _)
  ·exact absurd ‹_› (n4 _ _)
  ·exact absurd ‹_› (n5 _ _ _)
  ·exact absurd ‹_› (n6 _ _ _)
  ·exact absurd ‹_› (n7 _)
  ·exact k2
theorem ZxC (hst:Zbx o = true) (hs:stA P H f G er o sl B = some (v,B')):ShB B B':=by
 unfold Zbx at hst
 split at hst
 ·rename_i t y z ho
  unfold stA at hs
  simp only [ho] at hs
  split at hs
  ·obtain ⟨sh,hsh,hs⟩:=ZR hs
   obtain ⟨q,hc,hs⟩:=ZR hs
   obtain ⟨e,hxi,hs⟩:=ZR hs
   obtain ⟨e',he,hs⟩:=ZR hs
   simp only [q1_,Z43] at hs
   obtain ⟨_,rfl⟩:=hs
   obtain ⟨row,n,xs⟩:=q
   obtain ⟨h1,h2,h3⟩:=ZdG hc
   exact ShB.set h1 h3 (by simp)
  ·simp at hs
 ·simp at hst
theorem ZnG (h:∀ y,y ∈ o.op.operands → ev sl y = ev sl' y):stA P H f G er o sl B = stA P H f G er o sl' B:=by
 have hs:stepOp P H f G o sl B (fun v _ B => some (Z2g v,B)) = stepOp P H f G o sl' B fun v _ B => some (Z2g v,B):=by
  rw [Zat,Zat,Za1 P H f G o sl sl' B h]
 unfold stA
 rcases o with ⟨dst,op,ty,pos,after,guard⟩
 cases op <;> simp only [Op.operands] at h <;> simp only [] <;> try exact hs
 case move x => rw [h x (by simp)]
 case assign x => rw [h x (by simp)]
 case load t x => rw [h x (by simp),hs]
 case store t x y => rw [h x (by simp),h y (by simp)]
 case nilCheck x => rw [h x (by simp),hs]
 case fieldAddr s x fd => rw [h x (by simp),hs]
 case indexAddr t x i => rw [h x (by simp),h i (by simp),hs]
def TrA (P:Program) (H:Hints) (f:FuncId) (G:GF) (er:Bool) (o:Oper) (sl:Sl) (B:List Row) (sl':Sl) (B':List Row):Prop :=
 o.guard = none ∧ isA H f true o = true ∧ ∃ v,stA P H f G er o sl B = some (v,B') ∧ Eqv sl' (put sl o.dst v)
def RunA (P:Program) (H:Hints) (f:FuncId) (G:GF) (er:Bool) (ops:Array Oper):List Nat → Sl → List Row → Sl → List Row → Prop
 | [],sl,B,sl',B' => Eqv sl' sl ∧ B' = B
 | i :: l,sl,B,sl',B' => ∃ o sl1 B1,ops[i]? = some o ∧ TrA P H f G er o sl B sl1 B1 ∧ RunA P H f G er ops l sl1 B1 sl' B'
theorem TrA.congr {sl2:Sl} (h:TrA P H f G er o sl B sl' B') (he:Eqv sl2 sl):TrA P H f G er o sl2 B sl' B':=by
 obtain ⟨h1,h2,v,h3,h4⟩:=h
 have c1:=ZnG (P:=P) (H:=H) (f:=f) (G:=G) (o:=o) (er:=er) (sl:=sl2) (sl':=sl) (B:=B) fun y _ => he.ev y
 exact ⟨h1,h2,v,by rw [c1]; exact h3,h4.trans (he.symm.put _ _)⟩
theorem RunA.congr {ops:Array Oper} {l:List Nat} {sl2:Sl} (h:RunA P H f G er ops l sl B sl' B') (e:Eqv sl2 sl):RunA P H f G er ops l sl2 B sl' B':=by
 cases l with
 | nil => exact ⟨h.1.trans e.symm,h.2⟩
 | cons i l =>
  obtain ⟨o,sl1,B1,q1,q2,q3⟩:=h
  exact ⟨o,sl1,B1,q1,q2.congr e,q3⟩
theorem Zxy {ops:Array Oper} {draw:Bool} (hdraw:draw = true) {K:Sl → List Row → Option Res} {r:Res}:∀ (os:List Oper) (k:Nat) (sl:Sl) (B:List Row),(∀ j,j < os.length → os[j]? = ops[k + j]?) → runA P H f G draw er os K sl B = some r →
  ∃ slF BF,RunA P H f G er ops (List.range' k os.length) sl B slF BF ∧ K slF BF = some r
 | [],k,sl,B,_,h => ⟨sl,B,⟨.refl _,rfl⟩,h⟩
 | o :: os,k,sl,B,hl,h => by
  have h0:ops[k]? = some o:=by have:=hl 0 (by simp); simpa using this.symm
  change stepA P H f G draw er o (runA P H f G draw er os K) sl B = some r at h
  subst hdraw
  unfold stepA at h
  split at h
  ·simp at h
  ·rename_i hg
   split at h
   ·rename_i hq
    rw [ZCB hq] at h
    obtain ⟨q,hs,h⟩:=ZR h
    obtain ⟨slF,BF,h2,h3⟩:=Zxy rfl os (k + 1) _ _ (fun j hj => by
     have:=hl (j + 1) (by simpa using hj)
     rw [Zhz] at this
     rw [this]
     congr 1
     omega) h
    exact ⟨slF,BF,⟨o,_,_,h0,⟨hg,hq,q.1,hs,.refl _⟩,h2⟩,h3⟩
   ·simp at h
def ZiH (x o:Oper):Bool :=
 (match x.dst with | some d => !(tmpsOf o.op.operands.toList).contains d | none => true) && (match o.dst with | some d => !(tmpsOf x.op.operands.toList).contains d && x.dst != some d | none => true) && !(Zbx x && Zbx o)
theorem ZzM {sl:Sl} {d:Option Tmp} {v:AV} {y:Operand} (h:∀ t,d = some t → y ≠ .tmp t):ev (put sl d v) y = ev sl y:=by
 cases d with
 | none => rfl
 | some d =>
  cases y with
  | tmp t =>
   show get ((d,v) :: sl) t = get sl t
   rw [Z1Z,if_neg (fun e => h d rfl (by rw [e]))]
  | const c => cases c <;> first | rfl | (rename_i a n m; cases a <;> first | rfl | (cases n <;> cases m <;> rfl))
  | global g => rfl
  | func g => rfl
theorem put_comm {sl:Sl} {d d':Option Tmp} {v v':AV} (h:∀ t,d = some t → d' ≠ some t):Eqv (put (put sl d v) d' v') (put (put sl d' v') d v):=by
 intro t
 cases d with
 | none => rfl
 | some d =>
  cases d' with
  | none => rfl
  | some d' =>
   show get ((d',v') :: (d,v) :: sl) t = get ((d,v) :: (d',v') :: sl) t
   simp only [Z1Z]
   by_cases e:d' = t
   ·subst e
    rw [if_pos rfl]
    have:d ≠ d':=fun e => h d rfl (by rw [e])
    rw [if_neg this,if_pos rfl]
   ·rw [if_neg e,if_neg e]
theorem ZIJ {p i:Oper} {s1 s2:Sl} {B1 B2:List Row} (hap:ZiH p i = true) (her:Zbx p = true ∨ Zbx i = true → er = false) (h1:TrA P H f G er p sl B s1 B1) (h2:TrA P H f G er i s1 B1 s2 B2) :
  ∃ s1' B1' s2',TrA P H f G er i sl B s1' B1' ∧ TrA P H f G er p s1' B1' s2' B2 ∧ Eqv s2' s2:=by
 obtain ⟨a1,a2,v,a3,a4⟩:=h1
 obtain ⟨b1,b2,u,b3,b4⟩:=h2
 unfold ZiH at hap
 simp only [Z4R,Zes] at hap
 obtain ⟨⟨hp,hi⟩,hss⟩:=hap
 have hpi:∀ y,y ∈ i.op.operands → ev s1 y = ev sl y:=by
  intro y hy
  rw [a4.ev y]
  refine ZzM fun t ht e => ?_
  rw [ht] at hp
  simp only [Zes,Zpj,decide_eq_false_iff_not] at hp
  exact hp (Z3K.2 (by rw [← e]; simpa using hy))
 have hne:∀ t,p.dst = some t → i.dst ≠ some t:=by
  intro t ht e
  rw [e] at hi
  simp [ht] at hi
 have c1:=ZnG (P:=P) (H:=H) (f:=f) (G:=G) (o:=i) (er:=er) (sl:=s1) (sl':=sl) (B:=B1) hpi
 rw [c1] at b3
 have core:∃ B1',stA P H f G er i sl B = some (u,B1') ∧ stA P H f G er p sl B1' = some (v,B2):=by
  cases hsp:Zbx p with
  | false =>
   cases hsi:Zbx i with
   | false =>
    obtain ⟨rfl,_⟩:=Zlc (B2:=B) a2 hsp (.inr rfl) (fun id => by cases hB:B[id]? with | none => exact .inl ⟨rfl,rfl⟩ | some r => exact .inr ⟨r,r,rfl,rfl,rfl,fun j x y hx hy => by rw [hx] at hy; cases hy; exact .inl rfl⟩) a3
    obtain ⟨rfl,_⟩:=Zlc (B2:=B1) b2 hsi (.inr rfl) (fun id => by cases hB:B1[id]? with | none => exact .inl ⟨rfl,rfl⟩ | some r => exact .inr ⟨r,r,rfl,rfl,rfl,fun j x y hx hy => by rw [hx] at hy; cases hy; exact .inl rfl⟩) b3
    exact ⟨_,b3,a3⟩
   | true =>
    have hsh:=ZxC hsi b3
    obtain ⟨rfl,_⟩:=Zlc (B2:=B) a2 hsp (.inr rfl) (fun id => by cases hB:B[id]? with | none => exact .inl ⟨rfl,rfl⟩ | some r => exact .inr ⟨r,r,rfl,rfl,rfl,fun j x y hx hy => by rw [hx] at hy; cases hy; exact .inl rfl⟩) a3
    obtain ⟨_,k2⟩:=Zlc a2 hsp (.inl (her (.inr hsi))) hsh a3
    exact ⟨B2,b3,k2⟩
  | true =>
   cases hsi:Zbx i with
   | false =>
    have hsh:=ZxC hsp a3
    obtain ⟨rfl,k2⟩:=Zlc b2 hsi (.inl (her (.inl hsp))) hsh.symm b3
    exact ⟨B,k2,a3⟩
   | true => rw [hsp,hsi] at hss; simp at hss
 obtain ⟨B1',k1,k2⟩:=core
 have hip:∀ y,y ∈ p.op.operands → ev (put sl i.dst u) y = ev sl y:=by
  intro y hy
  refine ZzM fun t ht e => ?_
  rw [ht] at hi
  simp only [Z4R,Zes,Zpj,decide_eq_false_iff_not] at hi
  exact hi.1 (Z3K.2 (by rw [← e]; simpa using hy))
 have d1:=ZnG (P:=P) (H:=H) (f:=f) (G:=G) (o:=p) (er:=er) (sl:=put sl i.dst u) (sl':=sl) (B:=B1') hip
 refine ⟨put sl i.dst u,B1',put (put sl i.dst u) p.dst v,⟨b1,b2,u,k1,.refl _⟩,⟨a1,a2,v,by rw [d1]; exact k2,.refl _⟩,?_⟩
 exact (put_comm hne).symm.trans ((b4.trans (a4.put _ _)).symm)
theorem ZBZ {ops:Array Oper} {slF:Sl} {BF:List Row} {i:Nat} {oi:Oper} (hi:ops[i]? = some oi) (her:∀ (k:Nat) (x:Oper),ops[k]? = some x → Zbx x = true → er = false) :
  ∀ (l:List Nat) (sl:Sl) (B:List Row),l.Pairwise (· < ·) → i ∈ l → RunA P H f G er ops l sl B slF BF →
   (∀ (k:Nat) (x:Oper),k ∈ l → k < i → ops[k]? = some x → ZiH x oi = true) →
   ∃ s1 B1,TrA P H f G er oi sl B s1 B1 ∧ RunA P H f G er ops (l.filter (· != i)) s1 B1 slF BF
 | [],_,_,_,hm,_,_ => by simp at hm
 | k :: l,sl,B,hs,hm,hr,hc => by
  obtain ⟨x,s1,B1,q1,q2,q3⟩:=hr
  obtain ⟨hs1,hs2⟩:=Zj6.1 hs
  by_cases e:k = i
  ·subst e
   rw [hi] at q1
   cases q1
   have hno:k ∉ l:=fun h => Zpn _ (hs1 k h)
   have hf:(k :: l).filter (· != k) = l:=by
    rw [Zrd]
    simp only [bne_self_eq_false,Zj4,if_false]
    rw [List.filter_eq_self]
    intro y hy
    simp only [bne_iff_ne,ne_eq]
    rintro rfl
    exact hno hy
   rw [hf]
   exact ⟨s1,B1,q2,q3⟩
  ·have hil:i ∈ l:=by
    rcases Z5G.1 hm with h | h
    ·exact absurd h.symm e
    ·exact h
   have hki:=hs1 i hil
   obtain ⟨t1,C1,r1,r2⟩:=ZBZ hi her l s1 B1 hs2 hil q3 fun k' x' hk' => hc k' x' (by simp [hk'])
   obtain ⟨s1',B1',s2',w1,w2,w3⟩:=ZIJ (hc k x (by simp) hki q1) (fun h => by
    rcases h with h | h
    ·exact her k x q1 h
    ·exact her i oi hi h) q2 r1
   have hf:(k :: l).filter (· != i) = k :: l.filter (· != i):=by
    rw [Zrd,if_pos (by simpa using e)]
   rw [hf]
   exact ⟨s1',B1',w1,x,s2',C1,q1,w2,r2.congr w3⟩
def aOk (ops:Array Oper):Bool :=
 (List.range ops.size).all fun k => match ops[k]? with
  | none => true
  | some o => o.after.all (fun e => !Region.binds .any e || decide (e.on < k)) &&
   (List.range k).all fun i => match ops[i]? with
    | none => true
    | some x => ((msOf ops.toList []).getD k 0).testBit i || ZiH x o
theorem ZCS {ops:Array Oper} (h:aOk ops = true):(∀ (k:Nat) (o:Oper) (e:Edge),ops[k]? = some o → e ∈ o.after → Region.binds .any e = true → e.on < k) ∧
  ∀ (j k:Nat) (x o:Oper),j < k → ops[j]? = some x → ops[k]? = some o → ((msOf ops.toList []).getD k 0).testBit j = true ∨ ZiH x o = true:=by
 unfold aOk at h
 simp only [Z8v,ZhB] at h
 have hk:∀ {k:Nat} {o:Oper},ops[k]? = some o → k < ops.size:=fun h => (Z8t.1 h).1
 refine ⟨?_,?_⟩
 ·intro k o e ho he hb
  have:=h k (hk ho)
  simp only [ho,Z4R,ZDL] at this
  have:=this.1 e he
  rw [hb] at this
  simpa using this
 ·intro j k x o hjk hx ho
  have:=h k (hk ho)
  simp only [ho,Z4R,Z8v,ZhB] at this
  have:=this.2 j hjk
  simp only [hx,Zj7] at this
  exact this
end
section
variable {P:Program} {H:Hints} {f:FuncId} {G:GF} {b:Base} {ops:Array Oper} {er:Bool} {Q:Exit → Act → World → Prop}
theorem ZzH (k1:∀ (k:Nat) (o:Oper) (e:Edge),ops[k]? = some o → e ∈ o.after → Region.binds .any e = true → e.on < k)
  (k4:∀ (j k:Nat) (x o:Oper),j < k → ops[j]? = some x → ops[k]? = some o → ((msOf ops.toList []).getD k 0).testBit j = true ∨ ZiH x o = true)
  (her:∀ (k:Nat) (x:Oper),ops[k]? = some x → Zbx x = true → er = false)
  (hdst:∀ (i:Nat) (o:Oper) (t:Tmp),ops[i]? = some o → o.dst = some t → t < b.nt) {slF:Sl} {BF:List Row} (hQ:∀ a w,At b slF BF a w → Q .normal a w) :
  ∀ (fuel:Nat) (listed:Array Bool) (sl:Sl) (B:List Row) (a:Act) (w:World),listed.size = ops.size → Down ops listed → (Z3n ops listed).length ≤ fuel →
   RunA P H f G er ops (Z3n ops listed) sl B slF BF → AtA b sl B a w → wpAny P .any ops Q fuel listed a w:=by
 have hempty:∀ (listed:Array Bool),Z3n ops listed = [] → Region.ready .any ops listed = []:=by
  intro listed hr
  cases hre:Region.ready .any ops listed with
  | nil => rfl
  | cons i r =>
   have:i ∈ Region.ready .any ops listed:=by rw [hre]; simp
   obtain ⟨h1,o,ho,_⟩:=mem_ready.1 this
   have:i ∈ Z3n ops listed:=Z72.2 ⟨(Z8t.1 ho).1,h1⟩
   rw [hr] at this
   simp at this
 have hdone:∀ {listed:Array Bool} {sl:Sl} {B:List Row} {a:Act} {w:World},Z3n ops listed = [] → RunA P H f G er ops (Z3n ops listed) sl B slF BF → AtA b sl B a w → Q .normal a w:=by
  intro listed sl B a w hr hrun hat
  rw [hr] at hrun
  obtain ⟨e,rfl⟩:=hrun
  exact hQ a w (hat.eqv e).at
 intro fuel
 induction fuel with
 | zero =>
  intro listed sl B a w hsz hdown hlen hrun hat
  have hr:Z3n ops listed = []:=Zpg.1 (by omega)
  exact ⟨hempty listed hr,hdone hr hrun hat⟩
 | succ fuel ih =>
  intro listed sl B a w hsz hdown hlen hrun hat
  refine ⟨fun hre => ?_,fun i hi => ?_⟩
  ·cases hr:Z3n ops listed with
   | nil => exact hdone hr hrun hat
   | cons i0 rest =>
    exfalso
    have hm:i0 ∈ Z3n ops listed:=by rw [hr]; simp
    obtain ⟨h1,h2⟩:=Z72.1 hm
    have hs:=Zft (ops:=ops) listed
    rw [hr] at hs
    have hmin:=(Zj6.1 hs).1
    have ho:ops[i0]? = some ops[i0]:=by simp [h1]
    have:i0 ∈ Region.ready .any ops listed:=by
     refine mem_ready.2 ⟨h2,_,ho,fun e he hb => ?_⟩
     have hlt:=k1 i0 _ e ho he hb
     have hn:e.on ∉ Z3n ops listed:=by
      rw [hr]
      intro hm'
      rcases Z5G.1 hm' with h3 | h3
      ·omega
      ·have:=hmin _ h3; omega
     rw [Z72] at hn
     have hlt':e.on < ops.size:=by omega
     cases hg:listed.getD e.on true with
     | false => exact absurd ⟨hlt',hg⟩ hn
     | true =>
      have hs':e.on < listed.size:=by omega
      rw [← ZeK hs']
      exact hg
    rw [hre] at this
    simp at this
  ·obtain ⟨h1,o,ho,hedge⟩:=mem_ready.1 hi
   have hin:i < ops.size:=(Z8t.1 ho).1
   have hil:i < listed.size:=by omega
   have hmr:i ∈ Z3n ops listed:=Z72.2 ⟨hin,h1⟩
   have hlk:∀ k,((msOf ops.toList []).getD i 0).testBit k = true → listed.getD k false = true:=fun k hb => Zgy k1 hdown i o k ho hedge hb
   have hap:∀ (k:Nat) (x:Oper),k ∈ Z3n ops listed → k < i → ops[k]? = some x → ZiH x o = true:=by
    intro k x hk hki hx
    refine (k4 k i x o hki hx ho).resolve_left fun hb => ?_
    have h2:=hlk k hb
    obtain ⟨q1,q2⟩:=Z72.1 hk
    have hks:k < listed.size:=by omega
    rw [← ZeK hks,q2] at h2
    simp at h2
   have hset:∀ j,(listed.setIfInBounds i true).getD j true = (listed.getD j true || j == i):=by
    intro j
    by_cases e:i = j
    ·subst e; simp [hil]
    ·rw [getD_set_ne true e]
     have:(j == i) = false:=by simpa using fun h => e h.symm
     rw [this,Bool.or_false]
   have hrem:Z3n ops (listed.setIfInBounds i true) = (Z3n ops listed).filter (· != i):=by
    unfold Z3n
    rw [List.filter_filter]
    congr 1
    funext j
    rw [hset]
    simp only [bne,Bool.not_or]
    exact Bool.and_comm _ _
   have hdown':Down ops (listed.setIfInBounds i true):=by
    intro j o' e hj ho' he hb
    by_cases e':i = j
    ·subst e'
     rw [ho] at ho'
     cases ho'
     exact getD_set_true (hedge e he hb)
    ·rw [getD_set_ne false e'] at hj
     exact getD_set_true (hdown j o' e hj ho' he hb)
   have hlen':(Z3n ops (listed.setIfInBounds i true)).length ≤ fuel:=by
    rw [hrem]
    have:((Z3n ops listed).filter (· != i)).length < (Z3n ops listed).length:=by
     rw [List.length_filter_lt_length_iff_exists]
     exact ⟨i,hmr,by simp⟩
    omega
   obtain ⟨s1,B1,ht,hrun'⟩:=ZBZ ho her (Z3n ops listed) sl B (Zft _) hmr hrun hap
   rw [← hrem] at hrun'
   obtain ⟨t1,t2,v,t3,t4⟩:=ht
   unfold wpOp
   simp only [ho]
   rw [if_pos (by unfold Region.wanted; rw [t1])]
   exact .inl (Oper.wp_mono (fun a' w' h => ih _ _ _ a' w' (by simp [hsz]) hdown' hlen' (hrun'.congr t4.symm) h) (hat.step (Q:=Q) (fun t ht => hdst i o t ho ht) t2 t3))
theorem Zwd (hm:P.follows .mixedOrders = true) (hdst:∀ (i:Nat) (o:Oper) (t:Tmp),ops[i]? = some o → o.dst = some t → t < b.nt) (hok:aOk ops = true) {id:Nat}
  {K:Sl → List Row → Option Res} {r:Res} {sl:Sl} {B:List Row} {a:Act} {w:World} (hk:runA P H f G true (erOf true ops.toList) ops.toList K (noAl sl) B = some r) (h:At b sl B a w)
  (hQ:∀ sl B a w,K sl B = some r → At b sl B a w → Q .normal a w):(Code.region id ops true).wp P Q a w:=by
 obtain ⟨slF,BF,h1,h2⟩:=Zxy (ops:=ops) rfl ops.toList 0 (noAl sl) B (fun j _ => by simp) hk
 have hrem:Z3n ops (Array.replicate ops.size false) = List.range' 0 ops.toList.length:=by
  unfold Z3n
  rw [List.filter_eq_self.2]
  ·rw [Ztd]; simp
  ·intro j hj
   simp only [ZhB] at hj
   simp [hj]
 obtain ⟨k1,k4⟩:=ZCS hok
 refine wp_region_any hm (ZzH k1 k4 ?_ hdst (fun a w ha => hQ slF BF a w h2 ha) ops.size _ (noAl sl) B a _ (by simp) ?_ (by rw [hrem]; simp) (by rw [hrem]; exact h1) (AtA.of h.drew (Zj1 sl)))
 ·intro k x hx hs
  unfold erOf
  have:ops.toList.any Zbx = true:=List.any_eq_true.2 ⟨x,by have:=Zw4 hx; simpa using this,hs⟩
  simp only [this]
  rfl
 ·intro j o e hj
  have:(Array.replicate ops.size false).getD j false = false:=by
   simp only [Zsc]
   cases hj':(Array.replicate ops.size false)[j]? with
   | none => rfl
   | some x =>
    have:=Zw4 hj'
    simp at this
    simp [this.2]
  rw [this] at hj
  simp at hj
end
end Go.Abs
end
section
namespace Go.Abs
open Go
theorem ZDN:∀ (x:AV),Z2o (fun i => i) x = x:=by
 intro x
 induction x using AV.rec (motive_2:=fun l => Z1W (fun i => i) l = l) with
 | p x => simp [Z2o]
 | ptr id off => simp [Z2o]
 | mp id => simp [Z2o]
 | md es => simp [Z2o]
 | cptr cs => simp [Z2o]
 | clo f a b iha ihb => simp [Z2o,iha,ihb]
 | agg cs ih => simp [Z2o,ih]
 | tup vs ih => simp [Z2o,ih]
 | nil => simp [Z1W]
 | cons x r ihx ihr => simp [Z1W,ihx,ihr]
theorem ARel.fewer {w:World} {S:Stay} {β:Nat → Nat} {n n':Nat} {x:AV} {v:Value} (h:ARel w S β n x v) (hp:∀ i,i ∈ ptrs x → i < n'):ARel w S β n' x v:=by
 have:=ZeO (g:=fun i => i) (β':=β) (n':=n') h fun i hi => ⟨hp i hi,rfl⟩
 rwa [ZDN] at this
theorem Zm9 {B:List Row} {n i:Nat} {r:Row} (h:(B.take n)[i]? = some r):i < n ∧ B[i]? = some r:=by
 rw [Zet] at h
 split at h
 ·exact ⟨‹_›,h⟩
 ·simp at h
section
variable {b:Base} {sl:Sl} {B:List Row} {a:Act} {w:World}
theorem At.take (h:At b sl B a w) {n:Nat} (hm:b.m0 ≤ n) (hs:∀ t i,i ∈ ptrs (get sl t) → i < n) (hr:∀ row,row ∈ B.take n → ∀ i,i ∈ Z1p row → i < n):At b sl (B.take n) a w:=by
 obtain ⟨S,β,hg,hst⟩:=h
 have hlen:(B.take n).length = min n B.length:=by simp
 have hle:∀ i,i < (B.take n).length → i < B.length:=by intro i hi; rw [hlen] at hi; omega
 have fewer:∀ {x:AV} {v:Value},ARel w S β B.length x v → (∀ i,i ∈ ptrs x → i < n) → ARel w S β (B.take n).length x v:=by
  intro x v hx hp
  refine hx.fewer fun i hi => ?_
  have:=Zpp hx i hi
  have:=hp i hi
  rw [hlen]; omega
 have here:∀ l x v,Here b.nt sl a.tmps (B.take n) β w l x v → Here b.nt sl a.tmps B β w l x v:=by
  intro l x v hl
  cases l with
  | slot t => exact hl
  | box id j =>
   obtain ⟨row,q1,q2,q3⟩:=hl
   exact ⟨row,(Zm9 q1).2,q2,q3⟩
 refine ⟨S,β,⟨hg.size,hg.defers,?_,hg.high,⟨?_,?_,?_,?_,hg.mem.stay,fun id r es hid hm => hg.mem.maps id r es (Zm9 hid).2 hm⟩,⟨?_,?_⟩⟩,?_⟩
 ·intro t ht
  exact fewer (hg.slots t ht) (hs t)
 ·intro id r hid hm
  exact hg.mem.row id r (Zm9 hid).2 hm
 ·intro id r j x hid hm hx
  obtain ⟨v,q1,q2,q3⟩:=hg.mem.cell id r j x (Zm9 hid).2 hm hx
  exact ⟨v,q1,fewer q2 fun i hi => hr r (q9_ hid) i (Z4W.2 ⟨x,q9_ hx,hi⟩),q3⟩
 ·intro i j hi hj
  exact hg.mem.inj i j (hle i hi) (hle j hj)
 ·intro i hi
  exact hg.mem.apart i (hle i hi)
 ·intro l x v hl hu
  obtain ⟨q1,q2⟩:=hg.uns.ok l x v (here l x v hl) hu
  exact ⟨q1,fun i hi => q2 i (hle i hi)⟩
 ·intro l l' x x' v v' hl hl'
  exact hg.uns.inj l l' x x' v v' (here l x v hl) (here l' x' v' hl')
 ·refine { hst with low:=fun h1 => ?_,boxes:=fun i hi => hst.boxes i (hle i hi),uns:=fun c hc => ?_ }
  ·obtain ⟨q1,q2⟩:=hst.low h1
   exact ⟨by rw [hlen]; omega,q2⟩
  ·obtain ⟨l,x,v,hl,hu,hb⟩:=hc
   exact hst.uns c ⟨l,x,v,here l x v hl,hu,hb⟩
theorem ZjD (sl:Sl):∀ (l:List Nat) (t:Nat),get (ZbL sl l) t = get sl t ∨ get (ZbL sl l) t = jk
 | [],t => .inr rfl
 | u :: r,t => by
  show get ((u,get sl u) :: ZbL sl r) t = _ ∨ get ((u,get sl u) :: ZbL sl r) t = _
  rw [Z1Z]
  by_cases e:u = t
  ·rw [if_pos e,e]; exact .inl rfl
  ·rw [if_neg e]; exact ZjD sl r t
theorem At.clean (h:At b sl B a w) (m:List Nat):At b (ZbL sl m) B a w:=by
 obtain ⟨S,β,hg,hst⟩:=h
 have hr:∀ t,t < b.nt → get (ZbL sl m) t = get sl t ∨ isUn (get (ZbL sl m) t) = false:=by
  intro t _
  rcases ZjD sl m t with e | e
  ·exact .inl e
  ·exact .inr (by rw [e]; rfl)
 refine ⟨S,β,hg.reslot ?_ ?_,hst.less fun c hc => UB.reslot hr c hc⟩
 ·intro t _
  rcases ZjD sl m t with e | e
  ·exact .inl e
  ·exact .inr (by rw [e]; exact ⟨ARel.junk _,rfl⟩)
 ·intro t ht
  rcases ZjD sl m t with e | e
  ·rw [e]; exact hg.high t ht
  ·exact e
theorem Zsq:∀ (l:List Nat) (m:Nat),m ≤ l.foldl (fun n i => max n (i + 1)) m ∧ ∀ i,i ∈ l → i < l.foldl (fun n i => max n (i + 1)) m
 | [],m => by simp
 | x :: r,m => by
  obtain ⟨h1,h2⟩:=Zsq r (max m (x + 1))
  simp only [ZdD]
  refine ⟨by omega,?_⟩
  intro i hi
  rcases Z5G.1 hi with rfl | hi
  ·omega
  ·exact h2 i hi
theorem ZvE:∀ (sl:Sl) (t:Nat),get sl t = jk ∨ get sl t ∈ Zjb sl
 | [],_ => .inl rfl
 | (u,x) :: r,t => by
  rw [Z1Z]
  by_cases e:u = t
  ·rw [if_pos e]; exact .inr (by simp [Zjb])
  ·rw [if_neg e]
   rcases ZvE r t with h | h
   ·exact .inl h
   ·exact .inr (by simp [Zjb,h])
theorem At.gc (h:At b sl B a w):At b sl (gcB b.m0 (Zjb sl) B) a w:=by
 unfold gcB
 simp only
 split
 ·rename_i hc
  obtain ⟨h1,h2⟩:=Zsq (Z1p (Zjb sl)) b.m0
  refine h.take h1 ?_ ?_
  ·intro t i hi
   rcases ZvE sl t with e | e
   ·rw [e] at hi; simp [jk,ptrs] at hi
   ·exact h2 i (Z4W.2 ⟨_,e,hi⟩)
  ·intro row hrow
   exact Zlk (Z8v.1 hc row hrow)
 ·exact h
theorem ZhP {H:Hints} {f:Nat} {c:Code} {k:Sl → List Row → Option Res} {r:Res} (hk:enter H f b.m0 c k sl B = some r) (h:At b sl B a w):∃ sl' B',k sl' B' = some r ∧ At b sl' B' a w:=by
 unfold enter hi at hk
 split at hk
 ·exact ⟨sl,B,hk,h⟩
 ·rename_i m _
  exact ⟨_,_,hk,(h.clean m).gc⟩
end
def Zpt (P:Program) (c:Code) (Q:Exit → Act → World → Prop) (a:Act) (w:World):Prop :=
 ∀ (b:Frame) (k:List Item) (cs:List Frame),∃ e a' w',Q e a' w' ∧ Arrives P (lone (b.at a (.code c :: .inLoop c :: k)) cs w) b k cs e a' w'
theorem Zz1 {P:Program} {c:Code} {Q:Exit → Act → World → Prop} {a:Act} {w:World} (h:c.wp P (Exit.then (Zpt P c Q) Q) a w):Zpt P c Q a w:=by
 intro b k cs
 obtain ⟨e,a₁,w₁,hq,harr⟩:=h b (.inLoop c :: k) cs
 cases e with
 | normal =>
  obtain ⟨e₂,a₂,w₂,hq₂,harr₂⟩:=hq b k cs
  exact ⟨e₂,a₂,w₂,hq₂,.of_steps (Steps.trans harr (.one step_inLoop)) harr₂⟩
 | exit id => exact ⟨_,a₁,w₁,hq,.pass (x:=.inLoop c) rfl (fun _ _ => .inl (by simp)) harr⟩
 | goto l => exact ⟨_,a₁,w₁,hq,.pass (x:=.inLoop c) rfl (fun _ _ => .inl (by simp)) harr⟩
 | ret => exact ⟨_,a₁,w₁,hq,.pass (x:=.inLoop c) rfl (fun _ _ => .inl (by simp)) harr⟩
 | panic ch => exact ⟨_,a₁,w₁,hq,.pass (x:=.inLoop c) rfl (fun _ _ => .inl (by simp)) harr⟩
 | outgrown => exact ⟨_,a₁,w₁,hq,.pass (x:=.inLoop c) rfl (fun _ _ => .inl (by simp)) harr⟩
theorem Zzi {P:Program} {c:Code} {Q:Exit → Act → World → Prop} {a:Act} {w:World} (h:Zpt P c Q a w):(Code.loop c).wp P Q a w:=by
 intro b k cs
 obtain ⟨e,a',w',hq,harr⟩:=h b k cs
 exact ⟨e,a',w',hq,.of_steps (.one step_loop) harr⟩
def codeOk (H:Hints) (f nt:Nat):Code → Bool
 | .region _ ops draw => ops.all (fun o => match o.dst with | some d => decide (d < nt) | none => true) && (!draw || (if ZEs H f ops.toList = true then aOk ops else Zko H f ops))
 | .seq a b | .cond _ a b => codeOk H f nt a && codeOk H f nt b
 | .block _ c | .loop c | .scope c => codeOk H f nt c
 | _ => true
def QK (b:Base) (r:Res) (K:Kont):Exit → Act → World → Prop
 | .normal,a,w => ∃ sl B,K .normal sl B = some r ∧ At b sl B a w
 | .exit id,a,w => ∃ sl B,K (.exit id) sl B = some r ∧ At b sl B a w
 | .ret,a,w => ∃ sl B,K .ret sl B = some r ∧ At b sl B a w
 | _,_,_ => False
def ZxE (P:Program) (I:Inv) (H:Hints) (LP:LF):Prop:=∀ (f m0:Nat) (c:Code) (K:Kont) (sl:Sl) (B:List Row) (r:Res) (b:Base) (a:Act) (w:World),
 I b.w b.S → codeOk H f b.nt c = true → b.m0 = m0 → LP f m0 c K sl B = some r → At b sl B a w → Zpt P c (QK b r K) a w
theorem ZpF {P:Program} {H:Hints} {f:Nat} {G:GF} {LP:LF} {I:Inv} (hp:Pers I) (hF:Z90 P I G) (hL:ZxE P I H LP) (hm:P.follows .mixedOrders = true) {b:Base} (hI:I b.w b.S) {r:Res} (c:Code) :
  ∀ (K:Kont) (sl:Sl) (B:List Row) (a:Act) (w:World),codeOk H f b.nt c = true → exec P H f b.m0 G LP c K sl B = some r → At b sl B a w → c.wp P (QK b r K) a w:=by
 induction c with
 | skip => intro K sl B a w _ he h; exact wp_skip ⟨sl,B,he,h⟩
 | region id ops draw =>
  intro K sl B a w hc he h
  simp only [codeOk,Z4R,ZDL,Zj7,Zes] at hc
  have hd:∀ (i:Nat) (o:Oper) (t:Tmp),ops[i]? = some o → o.dst = some t → t < b.nt:=by
   intro i o t ho ht
   have:=hc.1 o (Zw4 ho)
   rw [ht] at this
   simpa using this
  change runRegion P H f G ops draw (K .normal) sl B = some r at he
  unfold runRegion at he
  split at he
  ·rename_i hal
   cases draw with
   | false => exact ZsR hp hI hF hd he h fun sl B a w hk ha => ⟨sl,B,hk,ha⟩
   | true =>
    have:=hc.2.resolve_left (by simp)
    rw [if_pos hal] at this
    exact Zwd hm hd this he h fun sl B a w hk ha => ⟨sl,B,hk,ha⟩
  ·rename_i hal
   cases draw with
   | false => exact Zwe hp hI hF hd he h fun sl B a w hk ha => ⟨sl,B,hk,ha⟩
   | true =>
    have:=hc.2.resolve_left (by simp)
    rw [if_neg (by simp [hal])] at this
    exact ZwX hp hI hF hm hd this he h fun sl B a w hk ha => ⟨sl,B,hk,ha⟩
 | seq x y ihx ihy =>
  intro K sl B a w hc he h
  simp only [codeOk,Z4R] at hc
  refine wp_seq (wp_mono (ihx (kseq H f b.m0 y (exec P H f b.m0 G LP y K) K) sl B a w hc.1 he h) ?_)
  intro e a w hq
  cases e with
  | normal =>
   obtain ⟨sl',B',hk,ha⟩:=hq
   obtain ⟨sl2,B2,hk2,ha2⟩:=ZhP hk ha
   exact ihy K sl2 B2 a w hc.2 hk2 ha2
  | exit id => exact hq
  | ret => exact hq
  | goto l => exact hq.elim
  | panic ch => exact hq.elim
  | outgrown => exact hq.elim
 | cond c x y ihx ihy =>
  intro K sl B a w hc he h
  simp only [codeOk,Z4R] at hc
  change asB (ev sl c) (fun t => br t (enter H f b.m0 x (exec P H f b.m0 G LP x K) sl B) (enter H f b.m0 y (exec P H f b.m0 G LP y K) sl B)) = some r at he
  obtain ⟨t,ht,he⟩:=ZoN he
  have hv:a.eval c = .bool t:=by
   obtain ⟨S,β,hg,_⟩:=h
   have:=hg.ev c
   rw [ht] at this
   exact Z5b this
  refine wp_cond hv ?_
  cases t with
  | true =>
   obtain ⟨sl',B',hk,ha⟩:=ZhP (k:=exec P H f b.m0 G LP x K) he h
   exact ihx K sl' B' a w hc.1 hk ha
  | false =>
   obtain ⟨sl',B',hk,ha⟩:=ZhP (k:=exec P H f b.m0 G LP y K) he h
   exact ihy K sl' B' a w hc.2 hk ha
 | block id c ih =>
  intro K sl B a w hc he h
  refine wp_block (wp_mono (ih (kblk id K) sl B a w hc he h) ?_)
  intro e a w hq
  cases e with
  | exit i =>
   obtain ⟨sl',B',hk,ha⟩:=hq
   change (if i = id then K .normal sl' B' else K (.exit i) sl' B') = some r at hk
   show if i = id then _ else _
   split at hk
   ·rename_i e; rw [if_pos e]; exact ⟨sl',B',hk,ha⟩
   ·rename_i e; rw [if_neg e]; exact ⟨sl',B',hk,ha⟩
  | normal => exact hq
  | ret => exact hq
  | goto l => exact hq.elim
  | panic ch => exact hq.elim
  | outgrown => exact hq.elim
 | loop c _ =>
  intro K sl B a w hc he h
  exact Zzi (hL f b.m0 c K sl B r b a w hI hc rfl he h)
 | exit id => intro K sl B a w _ he h; exact wp_exit ⟨sl,B,he,h⟩
 | scope c ih =>
  intro K sl B a w hc he h
  refine wp_scope_straight (wp_mono (ih K sl B a w hc he h) ?_)
  intro e a w hq
  cases e with
  | goto l => exact hq.elim
  | _ => exact hq
 | label l => intro K sl B a w _ he h; exact wp_label ⟨sl,B,he,h⟩
 | ret => intro K sl B a w _ he h; exact wp_ret ⟨sl,B,he,h⟩
 | _ => intro K sl B a w _ he h; simp [exec] at he
end Go.Abs
end
