/- The functions, read typed: their types, and what they stand for. No condition. -/
import Derived.Test.YtadodmjdkphddaaDoorSim
import Derived.Test.YtadodmjdkphddaaDoorEqs

section
set_option linter.unusedSimpArgs false
set_option linter.unusedVariables false
namespace Go.Proofs.YtadodmjdkphddaaDoor.N2
open Go Go.Abs
set_option linter.unusedVariables false
set_option maxRecDepth 100000
structure Z8 where
 Lo : Int
 Hi : Int
 deriving Inhabited
def Z5d (a : Z8) : List PV := [(eI .i64) a.Lo, (eI .i64) a.Hi]
def Zv (a : Z8) : PV := .agg (Z5d a)
def ZF (a : Z8) : List PV := [(eI .i64) a.Lo, (eI .i64) a.Hi]
def Z1B (a : Z8) : Row := [.p ((eI .i64) a.Lo), .p ((eI .i64) a.Hi)]
theorem Z9Q {a b : Z8} (h : Z5d a = Z5d b) : a = b := by
 have h0 : a.Lo = b.Lo := eI_inj _ _ (congrArg (fun l => l.getD 0 .junk) h)
 have h1 : a.Hi = b.Hi := eI_inj _ _ (congrArg (fun l => l.getD 1 .junk) h)
 cases a; cases b
 cases h0
 cases h1
 rfl
theorem Z2v (a b : Z8) (h : Zv a = Zv b) : a = b := Z9Q (congrArg pC h)
structure Z3 where
 Kind : Int
 Lo : Int
 Hi : Int
 Mode : Int
 Ref : Int
 Set : (List Z8)
 Kids : (List Z3)
instance : Inhabited Z3 := ⟨⟨default, default, default, default, default, default, default⟩⟩
mutual
def ZD : Z3 → PV
 | ⟨Kind_, Lo_, Hi_, Mode_, Ref_, Set_, Kids_⟩ => .agg [(eI .i64) Kind_, (eI .i64) Lo_, (eI .i64) Hi_, (eI .i64) Mode_, (eI .i64) Ref_, (eL Zv) Set_, .lst .sh (Z3R Kids_)]
def Z3R : List Z3 → List PV
 | [] => []
 | x :: r => ZD x :: Z3R r
end
theorem Zag : ∀ l, Z3R l = l.map ZD
 | [] => rfl
 | x :: r => by rw [Z3R, Zag r]; rfl
def Z1T (a : Z3) : List PV := [(eI .i64) a.Kind, (eI .i64) a.Lo, (eI .i64) a.Hi, (eI .i64) a.Mode, (eI .i64) a.Ref, (eL Zv) a.Set, (eL ZD) a.Kids]
theorem Z3f (a : Z3) : ZD a = .agg (Z1T a) := by
 cases a; rw [ZD, Zag]; rfl
theorem Z3Y (a : Z3) : pcells (ZD a) = Z1T a := by rw [Z3f]; rfl
theorem ZbG (a : Z3) : (pcells (ZD a)).length = 7 := by rw [Z3f]; rfl
def Zz (a : Z3) (o0 o1 : Own) : List PV := [(eI .i64) a.Kind, (eI .i64) a.Lo, (eI .i64) a.Hi, (eI .i64) a.Mode, (eI .i64) a.Ref, .lst o0 (a.Set.map Zv), .lst o1 (a.Kids.map ZD)]
def Zo (a : Z3) (o0 o1 : Own) : Row := [.p ((eI .i64) a.Kind), .p ((eI .i64) a.Lo), .p ((eI .i64) a.Hi), .p ((eI .i64) a.Mode), .p ((eI .i64) a.Ref), .p (.lst o0 (a.Set.map Zv)), .p (.lst o1 (a.Kids.map ZD))]
mutual
theorem Zad : ∀ a b : Z3, ZD a = ZD b → a = b
 | ⟨Kind_, Lo_, Hi_, Mode_, Ref_, Set_, Kids_⟩, ⟨Kind_2, Lo_2, Hi_2, Mode_2, Ref_2, Set_2, Kids_2⟩, h => by
  rw [ZD, ZD] at h
  have h0 : Kind_ = Kind_2 := eI_inj _ _ (congrArg (fun l => (pC l).getD 0 .junk) h)
  have h1 : Lo_ = Lo_2 := eI_inj _ _ (congrArg (fun l => (pC l).getD 1 .junk) h)
  have h2 : Hi_ = Hi_2 := eI_inj _ _ (congrArg (fun l => (pC l).getD 2 .junk) h)
  have h3 : Mode_ = Mode_2 := eI_inj _ _ (congrArg (fun l => (pC l).getD 3 .junk) h)
  have h4 : Ref_ = Ref_2 := eI_inj _ _ (congrArg (fun l => (pC l).getD 4 .junk) h)
  have h5 : Set_ = Set_2 := (eL_inj Z2v) _ _ (congrArg (fun l => (pC l).getD 5 .junk) h)
  have h6 : Kids_ = Kids_2 := Z9U Kids_ Kids_2 (congrArg (fun l => pL ((pC l).getD 6 .junk)) h)
  subst h0
  subst h1
  subst h2
  subst h3
  subst h4
  subst h5
  subst h6
  rfl
theorem Z9U : ∀ a b : List Z3, Z3R a = Z3R b → a = b
 | [], [], _ => rfl
 | [], _ :: _, h => by simp [Z3R] at h
 | _ :: _, [], h => by simp [Z3R] at h
 | x :: r, y :: t, h => by
  simp only [Z3R, List.cons.injEq] at h
  rw [Zad x y h.1, Z9U r t h.2]
end
theorem Z2I {a b : Z3} (h : Z1T a = Z1T b) : a = b := Zad a b (by rw [Z3f, Z3f, h])
structure ZC where
 Root : Z3
 Groups : Int
 Fold : Bool
 deriving Inhabited
def Z8F (a : ZC) : List PV := [(eI .i64) a.Root.Kind, (eI .i64) a.Root.Lo, (eI .i64) a.Root.Hi, (eI .i64) a.Root.Mode, (eI .i64) a.Root.Ref, (eL Zv) a.Root.Set, (eL ZD) a.Root.Kids, (eI .i64) a.Groups, eB a.Fold]
def ZaP (a : ZC) : PV := .agg (Z8F a)
def Z1q (a : ZC) (o0 o1 : Own) : List PV := [(eI .i64) a.Root.Kind, (eI .i64) a.Root.Lo, (eI .i64) a.Root.Hi, (eI .i64) a.Root.Mode, (eI .i64) a.Root.Ref, .lst o0 (a.Root.Set.map Zv), .lst o1 (a.Root.Kids.map ZD), (eI .i64) a.Groups, eB a.Fold]
def Zw (a : ZC) (o0 o1 : Own) : Row := [.p ((eI .i64) a.Root.Kind), .p ((eI .i64) a.Root.Lo), .p ((eI .i64) a.Root.Hi), .p ((eI .i64) a.Root.Mode), .p ((eI .i64) a.Root.Ref), .p (.lst o0 (a.Root.Set.map Zv)), .p (.lst o1 (a.Root.Kids.map ZD)), .p ((eI .i64) a.Groups), .p (eB a.Fold)]
theorem Z9f {a b : ZC} (h : Z8F a = Z8F b) : a = b := by
 have h0 : a.Root = b.Root := Z2I (congrArg (fun l => (l.drop 0).take 7) h)
 have h1 : a.Groups = b.Groups := eI_inj _ _ (congrArg (fun l => l.getD 7 .junk) h)
 have h2 : a.Fold = b.Fold := eB_inj _ _ (congrArg (fun l => l.getD 8 .junk) h)
 cases a; cases b
 cases h0
 cases h1
 cases h2
 rfl
theorem Zhw (a b : ZC) (h : ZaP a = ZaP b) : a = b := Z9f (congrArg pC h)
structure Zj where
 Code : Int
 At : Int
 deriving Inhabited
def Z9B (a : Zj) : List PV := [(eI .i64) a.Code, (eI .i64) a.At]
def Zcm (a : Zj) : PV := .agg (Z9B a)
def Z1Y (a : Zj) : List PV := [(eI .i64) a.Code, (eI .i64) a.At]
def ZE (a : Zj) : Row := [.p ((eI .i64) a.Code), .p ((eI .i64) a.At)]
theorem Z7u {a b : Zj} (h : Z9B a = Z9B b) : a = b := by
 have h0 : a.Code = b.Code := eI_inj _ _ (congrArg (fun l => l.getD 0 .junk) h)
 have h1 : a.At = b.At := eI_inj _ _ (congrArg (fun l => l.getD 1 .junk) h)
 cases a; cases b
 cases h0
 cases h1
 rfl
theorem Zj8 (a b : Zj) (h : Zcm a = Zcm b) : a = b := Z7u (congrArg pC h)
structure Zq where
 group : Int
 at_ : Int
 deriving Inhabited
def Z71 (a : Zq) : List PV := [(eI .i64) a.group, (eI .i64) a.at_]
def Z1E (a : Zq) : PV := .agg (Z71 a)
def Z8L (a : Zq) : List PV := [(eI .i64) a.group, (eI .i64) a.at_]
def Z8M (a : Zq) : Row := [.p ((eI .i64) a.group), .p ((eI .i64) a.at_)]
theorem ZcA {a b : Zq} (h : Z71 a = Z71 b) : a = b := by
 have h0 : a.group = b.group := eI_inj _ _ (congrArg (fun l => l.getD 0 .junk) h)
 have h1 : a.at_ = b.at_ := eI_inj _ _ (congrArg (fun l => l.getD 1 .junk) h)
 cases a; cases b
 cases h0
 cases h1
 rfl
theorem Z3W (a b : Zq) (h : Z1E a = Z1E b) : a = b := ZcA (congrArg pC h)
structure Zk where
 b : (List Int)
 at_ : Int
 groups : Int
 deep : Int
 refs : (List Zq)
 fault : Zj
 deriving Inhabited
def Z99 (a : Zk) : List PV := [(eL (eI .u8)) a.b, (eI .i64) a.at_, (eI .i64) a.groups, (eI .i64) a.deep, (eL Z1E) a.refs, (eI .i64) a.fault.Code, (eI .i64) a.fault.At]
def Zbn (a : Zk) : PV := .agg (Z99 a)
def Ze7 (a : Zk) (o0 o1 : Own) : List PV := [.lst o0 (a.b.map (eI .u8)), (eI .i64) a.at_, (eI .i64) a.groups, (eI .i64) a.deep, .lst o1 (a.refs.map Z1E), (eI .i64) a.fault.Code, (eI .i64) a.fault.At]
def Zi (a : Zk) (o0 o1 : Own) : Row := [.p (.lst o0 (a.b.map (eI .u8))), .p ((eI .i64) a.at_), .p ((eI .i64) a.groups), .p ((eI .i64) a.deep), .p (.lst o1 (a.refs.map Z1E)), .p ((eI .i64) a.fault.Code), .p ((eI .i64) a.fault.At)]
theorem ZcO {a b : Zk} (h : Z99 a = Z99 b) : a = b := by
 have h0 : a.b = b.b := (eL_inj eI_inj) _ _ (congrArg (fun l => l.getD 0 .junk) h)
 have h1 : a.at_ = b.at_ := eI_inj _ _ (congrArg (fun l => l.getD 1 .junk) h)
 have h2 : a.groups = b.groups := eI_inj _ _ (congrArg (fun l => l.getD 2 .junk) h)
 have h3 : a.deep = b.deep := eI_inj _ _ (congrArg (fun l => l.getD 3 .junk) h)
 have h4 : a.refs = b.refs := (eL_inj Z3W) _ _ (congrArg (fun l => l.getD 4 .junk) h)
 have h5 : a.fault = b.fault := Z7u (congrArg (fun l => (l.drop 5).take 2) h)
 cases a; cases b
 cases h0
 cases h1
 cases h2
 cases h3
 cases h4
 cases h5
 rfl
theorem Zhy (a b : Zk) (h : Zbn a = Zbn b) : a = b := ZcO (congrArg pC h)
end Go.Proofs.YtadodmjdkphddaaDoor.N2
end
section
set_option linter.unusedSimpArgs false
set_option linter.unusedVariables false
namespace Go.Proofs.YtadodmjdkphddaaDoor.N2
open Go Go.Abs
set_option linter.unusedVariables false
set_option maxRecDepth 100000
abbrev Z3s (zl : List Int) (z7 : Int) (zd : Int) (zh : List Zq) (z2 : Int) (z6 : Int) (zn : Own) (zb : Own) : (Bool × Int) → Res → Prop := fun r q => ∃ (ex : List Row), q = ((bv r.1), [(Zi (Zk.mk zl r.2 z7 zd zh (Zj.mk z2 z6)) zn zb)] ++ ex)
theorem ZbL (zl : List Int) (z7 : Int) (zd : Int) (zh : List Zq) (z2 : Int) (z6 : Int) (zn : Own) (zb : Own) : ∀ a b q, Z3s zl z7 zd zh z2 z6 zn zb a q → Z3s zl z7 zd zh z2 z6 zn zb b q → a = b := by
 rintro a b q ⟨_, e1⟩ ⟨_, e2⟩
 have e := e1.symm.trans e2
 exact Prod.ext (congrArg (fun q : Res => pB (pA q.1)) e) (congrArg (fun q : Res => pI (pA (cellAt q 0 1))) e)
abbrev Z4D  : (Int × Int) → Res → Prop := fun r q => ∃ (ex : List Row), q = ((.p (.tup [(.v (.int .i32 r.1)), (.v (.int .i64 r.2))])), ex)
theorem Za0  : ∀ a b q, Z4D  a q → Z4D  b q → a = b := by
 rintro a b q ⟨_, e1⟩ ⟨_, e2⟩
 have e := e1.symm.trans e2
 exact Prod.ext (congrArg (fun q : Res => pI ((pT (pA q.1)).getD 0 .junk)) e) (congrArg (fun q : Res => pI ((pT (pA q.1)).getD 1 .junk)) e)
abbrev Z5g  : (Int × Int) → Res → Prop := fun r q => ∃ (ex : List Row), q = ((.p (.tup [(.v (.int .i64 r.1)), (.v (.int .i64 r.2))])), ex)
theorem Zf0  : ∀ a b q, Z5g  a q → Z5g  b q → a = b := by
 rintro a b q ⟨_, e1⟩ ⟨_, e2⟩
 have e := e1.symm.trans e2
 exact Prod.ext (congrArg (fun q : Res => pI ((pT (pA q.1)).getD 0 .junk)) e) (congrArg (fun q : Res => pI ((pT (pA q.1)).getD 1 .junk)) e)
abbrev Z4d (b0 : Zk) (zn : Own) (zb : Own) : (Int) → Res → Prop := fun r q => ∃ (ex : List Row), q = ((iv r), [(Zi b0 zn zb)] ++ ex)
theorem ZbX (b0 : Zk) (zn : Own) (zb : Own) : ∀ a b q, Z4d b0 zn zb a q → Z4d b0 zn zb b q → a = b := by
 rintro a b q ⟨_, e1⟩ ⟨_, e2⟩
 have e := e1.symm.trans e2
 exact congrArg (fun q : Res => pI (pA q.1)) e
abbrev Z5U  : (Z3) → Res → Prop := fun r q => ∃ (ex : List Row), q = ((.p (.agg (Zz r .sh .sh))), ex)
theorem ZdJ  : ∀ a b q, Z5U  a q → Z5U  b q → a = b := by
 rintro a b q ⟨_, e1⟩ ⟨_, e2⟩
 have e := e1.symm.trans e2
 exact Z2I (congrArg (fun q : Res => pC (pA q.1)) e)
abbrev Z56 (zl : List Int) (z7 : Int) (zd : Int) (zh : List Zq) (z2 : Int) (z6 : Int) (zn : Own) (zb : Own) : (Int × Int) → Res → Prop := fun r q => ∃ (ex : List Row), q = ((iv r.1), [(Zi (Zk.mk zl r.2 z7 zd zh (Zj.mk z2 z6)) zn zb)] ++ ex)
theorem ZbV (zl : List Int) (z7 : Int) (zd : Int) (zh : List Zq) (z2 : Int) (z6 : Int) (zn : Own) (zb : Own) : ∀ a b q, Z56 zl z7 zd zh z2 z6 zn zb a q → Z56 zl z7 zd zh z2 z6 zn zb b q → a = b := by
 rintro a b q ⟨_, e1⟩ ⟨_, e2⟩
 have e := e1.symm.trans e2
 exact Prod.ext (congrArg (fun q : Res => pI (pA q.1)) e) (congrArg (fun q : Res => pI (pA (cellAt q 0 1))) e)
abbrev Z8o  : (Z8) → Res → Prop := fun r q => ∃ (ex : List Row), q = ((.p (.agg (ZF r))), ex)
theorem Zf3  : ∀ a b q, Z8o  a q → Z8o  b q → a = b := by
 rintro a b q ⟨_, e1⟩ ⟨_, e2⟩
 have e := e1.symm.trans e2
 exact Z9Q (congrArg (fun q : Res => pC (pA q.1)) e)
abbrev Z53  : (Bool) → Res → Prop := fun r q => ∃ (ex : List Row), q = ((bv r), ex)
theorem ZbN  : ∀ a b q, Z53  a q → Z53  b q → a = b := by
 rintro a b q ⟨_, e1⟩ ⟨_, e2⟩
 have e := e1.symm.trans e2
 exact congrArg (fun q : Res => pB (pA q.1)) e
abbrev Z6I  : (Bool) → Res → Prop := fun r q => ∃ (ex : List Row), q = ((bv r), ex)
theorem ZdS  : ∀ a b q, Z6I  a q → Z6I  b q → a = b := by
 rintro a b q ⟨_, e1⟩ ⟨_, e2⟩
 have e := e1.symm.trans e2
 exact congrArg (fun q : Res => pB (pA q.1)) e
abbrev Z1o  : (Int) → Res → Prop := fun r q => ∃ (ex : List Row), q = ((iv r), ex)
theorem Z6o  : ∀ a b q, Z1o  a q → Z1o  b q → a = b := by
 rintro a b q ⟨_, e1⟩ ⟨_, e2⟩
 have e := e1.symm.trans e2
 exact congrArg (fun q : Res => pI (pA q.1)) e
abbrev Z2Q  : (Bool) → Res → Prop := fun r q => ∃ (ex : List Row), q = ((bv r), ex)
theorem Z8l  : ∀ a b q, Z2Q  a q → Z2Q  b q → a = b := by
 rintro a b q ⟨_, e1⟩ ⟨_, e2⟩
 have e := e1.symm.trans e2
 exact congrArg (fun q : Res => pB (pA q.1)) e
abbrev Z7Q  : ((List Z8)) → Res → Prop := fun r q => ∃ (ex : List Row), q = ((.p (.lst .sh (r.map Zv))), ex)
theorem ZdH  : ∀ a b q, Z7Q  a q → Z7Q  b q → a = b := by
 rintro a b q ⟨_, e1⟩ ⟨_, e2⟩
 have e := e1.symm.trans e2
 exact lmap_inj Z2v (congrArg (fun q : Res => pL (pA q.1)) e)
abbrev Z6E  : ((List Z8) × Int) → Res → Prop := fun r q => ∃ (ex : List Row), q = ((.p (.tup [(.lst .sh (r.1.map Zv)), (.v (.int .i64 r.2))])), ex)
theorem ZeP  : ∀ a b q, Z6E  a q → Z6E  b q → a = b := by
 rintro a b q ⟨_, e1⟩ ⟨_, e2⟩
 have e := e1.symm.trans e2
 exact Prod.ext (lmap_inj Z2v (congrArg (fun q : Res => pL ((pT (pA q.1)).getD 0 .junk)) e)) (congrArg (fun q : Res => pI ((pT (pA q.1)).getD 1 .junk)) e)
abbrev Z1Q  : (Bool) → Res → Prop := fun r q => ∃ (ex : List Row), q = ((bv r), ex)
theorem Z95  : ∀ a b q, Z1Q  a q → Z1Q  b q → a = b := by
 rintro a b q ⟨_, e1⟩ ⟨_, e2⟩
 have e := e1.symm.trans e2
 exact congrArg (fun q : Res => pB (pA q.1)) e
abbrev Z2h  : ((List Z8)) → Res → Prop := fun r q => ∃ (ex : List Row), q = ((.p (.lst .sh (r.map Zv))), ex)
theorem Zae  : ∀ a b q, Z2h  a q → Z2h  b q → a = b := by
 rintro a b q ⟨_, e1⟩ ⟨_, e2⟩
 have e := e1.symm.trans e2
 exact lmap_inj Z2v (congrArg (fun q : Res => pL (pA q.1)) e)
abbrev Z5x  : ((List Z8) × Int) → Res → Prop := fun r q => ∃ (ex : List Row), q = ((.p (.tup [(.lst .sh (r.1.map Zv)), (.v (.int .i64 r.2))])), ex)
theorem Zdv  : ∀ a b q, Z5x  a q → Z5x  b q → a = b := by
 rintro a b q ⟨_, e1⟩ ⟨_, e2⟩
 have e := e1.symm.trans e2
 exact Prod.ext (lmap_inj Z2v (congrArg (fun q : Res => pL ((pT (pA q.1)).getD 0 .junk)) e)) (congrArg (fun q : Res => pI ((pT (pA q.1)).getD 1 .junk)) e)
abbrev Z78  : (Z3) → Res → Prop := fun r q => ∃ (ex : List Row), q = ((.p (.agg (Zz r .sh .sh))), ex)
theorem Zf1  : ∀ a b q, Z78  a q → Z78  b q → a = b := by
 rintro a b q ⟨_, e1⟩ ⟨_, e2⟩
 have e := e1.symm.trans e2
 exact Z2I (congrArg (fun q : Res => pC (pA q.1)) e)
abbrev Z4c (zl : List Int) (z7 : Int) (zd : Int) (zh : List Zq) (zn : Own) (zb : Own) : (Int × Int × Int) → Res → Prop := fun r q => ∃ (ex : List Row), q = ((.p (.tup [])), [(Zi (Zk.mk zl r.1 z7 zd zh (Zj.mk r.2.1 r.2.2)) zn zb)] ++ ex)
theorem Zc1 (zl : List Int) (z7 : Int) (zd : Int) (zh : List Zq) (zn : Own) (zb : Own) : ∀ a b q, Z4c zl z7 zd zh zn zb a q → Z4c zl z7 zd zh zn zb b q → a = b := by
 rintro a b q ⟨_, e1⟩ ⟨_, e2⟩
 have e := e1.symm.trans e2
 exact Prod.ext (congrArg (fun q : Res => pI (pA (cellAt q 0 1))) e) (Prod.ext (congrArg (fun q : Res => pI (pA (cellAt q 0 5))) e) (congrArg (fun q : Res => pI (pA (cellAt q 0 6))) e))
abbrev Z4Y  : ((Own × (List Z8))) → Res → Prop := fun r q => ∃ (ex : List Row), q = ((.p (.lst r.1 (r.2.map Zv))), ex)
theorem ZcI  : ∀ a b q, Z4Y  a q → Z4Y  b q → a = b := by
 rintro a b q ⟨_, e1⟩ ⟨_, e2⟩
 have e := e1.symm.trans e2
 exact Prod.ext (congrArg (fun q : Res => pOwn (pA q.1)) e) (lmap_inj Z2v (congrArg (fun q : Res => pL (pA q.1)) e))
abbrev Z5j  : (Int) → Res → Prop := fun r q => ∃ (ex : List Row), q = ((iv r), ex)
theorem Zf2  : ∀ a b q, Z5j  a q → Z5j  b q → a = b := by
 rintro a b q ⟨_, e1⟩ ⟨_, e2⟩
 have e := e1.symm.trans e2
 exact congrArg (fun q : Res => pI (pA q.1)) e
abbrev Z5K (zZ : Int) : (Bool) → Res → Prop := fun r q => ∃ (ex : List Row), q = ((bv r), [[(iv zZ)]] ++ ex)
theorem ZcG (zZ : Int) : ∀ a b q, Z5K zZ a q → Z5K zZ b q → a = b := by
 rintro a b q ⟨_, e1⟩ ⟨_, e2⟩
 have e := e1.symm.trans e2
 exact congrArg (fun q : Res => pB (pA q.1)) e
abbrev Z1p (zZ : Int) : (Int) → Res → Prop := fun r q => ∃ (ex : List Row), q = ((iv r), [[(iv zZ)]] ++ ex)
theorem Z6n (zZ : Int) : ∀ a b q, Z1p zZ a q → Z1p zZ b q → a = b := by
 rintro a b q ⟨_, e1⟩ ⟨_, e2⟩
 have e := e1.symm.trans e2
 exact congrArg (fun q : Res => pI (pA q.1)) e
abbrev Z2P (zZ : Int) : (Bool) → Res → Prop := fun r q => ∃ (ex : List Row), q = ((bv r), [[(iv zZ)]] ++ ex)
theorem Z8i (zZ : Int) : ∀ a b q, Z2P zZ a q → Z2P zZ b q → a = b := by
 rintro a b q ⟨_, e1⟩ ⟨_, e2⟩
 have e := e1.symm.trans e2
 exact congrArg (fun q : Res => pB (pA q.1)) e
abbrev Z6h  : (Bool) → Res → Prop := fun r q => ∃ (ex : List Row), q = ((bv r), ex)
theorem ZdA  : ∀ a b q, Z6h  a q → Z6h  b q → a = b := by
 rintro a b q ⟨_, e1⟩ ⟨_, e2⟩
 have e := e1.symm.trans e2
 exact congrArg (fun q : Res => pB (pA q.1)) e
abbrev Z3d (zl : List Int) (z7 : Int) (zd : Int) (zh : List Zq) (zn : Own) (zb : Own) : (Int × Int × Int × Int) → Res → Prop := fun r q => ∃ (ex : List Row), q = ((iv r.1), [(Zi (Zk.mk zl r.2.1 z7 zd zh (Zj.mk r.2.2.1 r.2.2.2)) zn zb)] ++ ex)
theorem ZbD (zl : List Int) (z7 : Int) (zd : Int) (zh : List Zq) (zn : Own) (zb : Own) : ∀ a b q, Z3d zl z7 zd zh zn zb a q → Z3d zl z7 zd zh zn zb b q → a = b := by
 rintro a b q ⟨_, e1⟩ ⟨_, e2⟩
 have e := e1.symm.trans e2
 exact Prod.ext (congrArg (fun q : Res => pI (pA q.1)) e) (Prod.ext (congrArg (fun q : Res => pI (pA (cellAt q 0 1))) e) (Prod.ext (congrArg (fun q : Res => pI (pA (cellAt q 0 5))) e) (congrArg (fun q : Res => pI (pA (cellAt q 0 6))) e)))
abbrev Z2F (zl : List Int) (z7 : Int) (zd : Int) (zn : Own) : (Z3 × Int × (List Zq) × Int × Int) → Res → Prop := fun r q => ∃ (p0_4 : Own) (ex : List Row), okApp p0_4 = true ∧ q = ((.p (.agg (Zz r.1 .sh .sh))), [(Zi (Zk.mk zl r.2.1 z7 zd r.2.2.1 (Zj.mk r.2.2.2.1 r.2.2.2.2)) zn p0_4)] ++ ex)
theorem Zb0 (zl : List Int) (z7 : Int) (zd : Int) (zn : Own) : ∀ a b q, Z2F zl z7 zd zn a q → Z2F zl z7 zd zn b q → a = b := by
 rintro a b q ⟨_, _, _, e1⟩ ⟨_, _, _, e2⟩
 have e := e1.symm.trans e2
 exact Prod.ext (Z2I (congrArg (fun q : Res => pC (pA q.1)) e)) (Prod.ext (congrArg (fun q : Res => pI (pA (cellAt q 0 1))) e) (Prod.ext (lmap_inj Z3W (congrArg (fun q : Res => pL (pA (cellAt q 0 4))) e)) (Prod.ext (congrArg (fun q : Res => pI (pA (cellAt q 0 5))) e) (congrArg (fun q : Res => pI (pA (cellAt q 0 6))) e))))
abbrev Z2H (zl : List Int) (z7 : Int) (zd : Int) (zh : List Zq) (zn : Own) (zb : Own) : (Int × (Own × (List Z8)) × Bool × Int × Int × Int) → Res → Prop := fun r q => ∃ (ex : List Row), q = ((.p (.tup [(.v (.int .i64 r.1)), (.lst r.2.1.1 (r.2.1.2.map Zv)), (.v (.bool r.2.2.1))])), [(Zi (Zk.mk zl r.2.2.2.1 z7 zd zh (Zj.mk r.2.2.2.2.1 r.2.2.2.2.2)) zn zb)] ++ ex)
theorem Zb8 (zl : List Int) (z7 : Int) (zd : Int) (zh : List Zq) (zn : Own) (zb : Own) : ∀ a b q, Z2H zl z7 zd zh zn zb a q → Z2H zl z7 zd zh zn zb b q → a = b := by
 rintro a b q ⟨_, e1⟩ ⟨_, e2⟩
 have e := e1.symm.trans e2
 exact Prod.ext (congrArg (fun q : Res => pI ((pT (pA q.1)).getD 0 .junk)) e) (Prod.ext (Prod.ext (congrArg (fun q : Res => pOwn ((pT (pA q.1)).getD 1 .junk)) e) (lmap_inj Z2v (congrArg (fun q : Res => pL ((pT (pA q.1)).getD 1 .junk)) e))) (Prod.ext (congrArg (fun q : Res => pB ((pT (pA q.1)).getD 2 .junk)) e) (Prod.ext (congrArg (fun q : Res => pI (pA (cellAt q 0 1))) e) (Prod.ext (congrArg (fun q : Res => pI (pA (cellAt q 0 5))) e) (congrArg (fun q : Res => pI (pA (cellAt q 0 6))) e)))))
abbrev Z5u  : ((List Z8)) → Res → Prop := fun r q => ∃ (ex : List Row), q = ((.p (.lst .sh (r.map Zv))), ex)
theorem Zb2  : ∀ a b q, Z5u  a q → Z5u  b q → a = b := by
 rintro a b q ⟨_, e1⟩ ⟨_, e2⟩
 have e := e1.symm.trans e2
 exact lmap_inj Z2v (congrArg (fun q : Res => pL (pA q.1)) e)
abbrev Z5c  : ((List Z8) × Int) → Res → Prop := fun r q => ∃ (ex : List Row), q = ((.p (.tup [(.lst .sh (r.1.map Zv)), (.v (.int .i64 r.2))])), ex)
theorem ZdP  : ∀ a b q, Z5c  a q → Z5c  b q → a = b := by
 rintro a b q ⟨_, e1⟩ ⟨_, e2⟩
 have e := e1.symm.trans e2
 exact Prod.ext (lmap_inj Z2v (congrArg (fun q : Res => pL ((pT (pA q.1)).getD 0 .junk)) e)) (congrArg (fun q : Res => pI ((pT (pA q.1)).getD 1 .junk)) e)
abbrev Z4g  : ((List Z8)) → Res → Prop := fun r q => ∃ (p0_0 : Own) (ex : List Row), q = ((.p (.tup [])), [[(.p (.lst p0_0 (r.map Zv)))]] ++ ex)
theorem ZaW  : ∀ a b q, Z4g  a q → Z4g  b q → a = b := by
 rintro a b q ⟨_, _, e1⟩ ⟨_, _, e2⟩
 have e := e1.symm.trans e2
 exact lmap_inj Z2v (congrArg (fun q : Res => pL (pA (cellAt q 0 0))) e)
abbrev Z19 (zl : List Int) (z7 : Int) (zd : Int) (zh : List Zq) (zn : Own) (zb : Own) : (Z3 × Int × Int × Int) → Res → Prop := fun r q => ∃ (ex : List Row), q = ((.p (.agg (Zz r.1 .sh .sh))), [(Zi (Zk.mk zl r.2.1 z7 zd zh (Zj.mk r.2.2.1 r.2.2.2)) zn zb)] ++ ex)
theorem Z8n (zl : List Int) (z7 : Int) (zd : Int) (zh : List Zq) (zn : Own) (zb : Own) : ∀ a b q, Z19 zl z7 zd zh zn zb a q → Z19 zl z7 zd zh zn zb b q → a = b := by
 rintro a b q ⟨_, e1⟩ ⟨_, e2⟩
 have e := e1.symm.trans e2
 exact Prod.ext (Z2I (congrArg (fun q : Res => pC (pA q.1)) e)) (Prod.ext (congrArg (fun q : Res => pI (pA (cellAt q 0 1))) e) (Prod.ext (congrArg (fun q : Res => pI (pA (cellAt q 0 5))) e) (congrArg (fun q : Res => pI (pA (cellAt q 0 6))) e)))
abbrev Z74  : ((List ByteArray)) → Res → Prop := fun r q => ∃ (ex : List Row), q = ((.p (.lst .sh (r.map eS))), ex)
theorem Ze9  : ∀ a b q, Z74  a q → Z74  b q → a = b := by
 rintro a b q ⟨_, e1⟩ ⟨_, e2⟩
 have e := e1.symm.trans e2
 exact lmap_inj eS_inj (congrArg (fun q : Res => pL (pA q.1)) e)
abbrev Z1k (zl : List Int) (z7 : Int) (zd : Int) (zh : List Zq) (z2 : Int) (z6 : Int) (zn : Own) (zb : Own) : (Int × Int) → Res → Prop := fun r q => ∃ (ex : List Row), q = ((iv r.1), [(Zi (Zk.mk zl r.2 z7 zd zh (Zj.mk z2 z6)) zn zb)] ++ ex)
theorem Z6b (zl : List Int) (z7 : Int) (zd : Int) (zh : List Zq) (z2 : Int) (z6 : Int) (zn : Own) (zb : Own) : ∀ a b q, Z1k zl z7 zd zh z2 z6 zn zb a q → Z1k zl z7 zd zh z2 z6 zn zb b q → a = b := by
 rintro a b q ⟨_, e1⟩ ⟨_, e2⟩
 have e := e1.symm.trans e2
 exact Prod.ext (congrArg (fun q : Res => pI (pA q.1)) e) (congrArg (fun q : Res => pI (pA (cellAt q 0 1))) e)
abbrev Z2d (zl : List Int) (zn : Own) : (Z3 × Bool × Int × Int × Int × (List Zq) × Int × Int) → Res → Prop := fun r q => ∃ (p0_4 : Own) (ex : List Row), okApp p0_4 = true ∧ q = ((.p (.tup [(.agg (Zz r.1 .sh .sh)), (.v (.bool r.2.1))])), [(Zi (Zk.mk zl r.2.2.1 r.2.2.2.1 r.2.2.2.2.1 r.2.2.2.2.2.1 (Zj.mk r.2.2.2.2.2.2.1 r.2.2.2.2.2.2.2)) zn p0_4)] ++ ex)
theorem ZbA (zl : List Int) (zn : Own) : ∀ a b q, Z2d zl zn a q → Z2d zl zn b q → a = b := by
 rintro a b q ⟨_, _, _, e1⟩ ⟨_, _, _, e2⟩
 have e := e1.symm.trans e2
 exact Prod.ext (Z2I (congrArg (fun q : Res => pC ((pT (pA q.1)).getD 0 .junk)) e)) (Prod.ext (congrArg (fun q : Res => pB ((pT (pA q.1)).getD 1 .junk)) e) (Prod.ext (congrArg (fun q : Res => pI (pA (cellAt q 0 1))) e) (Prod.ext (congrArg (fun q : Res => pI (pA (cellAt q 0 2))) e) (Prod.ext (congrArg (fun q : Res => pI (pA (cellAt q 0 3))) e) (Prod.ext (lmap_inj Z3W (congrArg (fun q : Res => pL (pA (cellAt q 0 4))) e)) (Prod.ext (congrArg (fun q : Res => pI (pA (cellAt q 0 5))) e) (congrArg (fun q : Res => pI (pA (cellAt q 0 6))) e)))))))
abbrev Z4e (zl : List Int) (zn : Own) : (Z3 × Bool × Int × Int × Int × (List Zq) × Int × Int) → Res → Prop := fun r q => ∃ (p0_4 : Own) (ex : List Row), okApp p0_4 = true ∧ q = ((.p (.tup [(.agg (Zz r.1 .sh .sh)), (.v (.bool r.2.1))])), [(Zi (Zk.mk zl r.2.2.1 r.2.2.2.1 r.2.2.2.2.1 r.2.2.2.2.2.1 (Zj.mk r.2.2.2.2.2.2.1 r.2.2.2.2.2.2.2)) zn p0_4)] ++ ex)
theorem Zcn (zl : List Int) (zn : Own) : ∀ a b q, Z4e zl zn a q → Z4e zl zn b q → a = b := by
 rintro a b q ⟨_, _, _, e1⟩ ⟨_, _, _, e2⟩
 have e := e1.symm.trans e2
 exact Prod.ext (Z2I (congrArg (fun q : Res => pC ((pT (pA q.1)).getD 0 .junk)) e)) (Prod.ext (congrArg (fun q : Res => pB ((pT (pA q.1)).getD 1 .junk)) e) (Prod.ext (congrArg (fun q : Res => pI (pA (cellAt q 0 1))) e) (Prod.ext (congrArg (fun q : Res => pI (pA (cellAt q 0 2))) e) (Prod.ext (congrArg (fun q : Res => pI (pA (cellAt q 0 3))) e) (Prod.ext (lmap_inj Z3W (congrArg (fun q : Res => pL (pA (cellAt q 0 4))) e)) (Prod.ext (congrArg (fun q : Res => pI (pA (cellAt q 0 5))) e) (congrArg (fun q : Res => pI (pA (cellAt q 0 6))) e)))))))
abbrev Z24 (zl : List Int) (z7 : Int) (zd : Int) (zh : List Zq) (z2 : Int) (z6 : Int) (zn : Own) (zb : Own) : (Int × Int) → Res → Prop := fun r q => ∃ (ex : List Row), q = ((iv r.1), [(Zi (Zk.mk zl r.2 z7 zd zh (Zj.mk z2 z6)) zn zb)] ++ ex)
theorem Z86 (zl : List Int) (z7 : Int) (zd : Int) (zh : List Zq) (z2 : Int) (z6 : Int) (zn : Own) (zb : Own) : ∀ a b q, Z24 zl z7 zd zh z2 z6 zn zb a q → Z24 zl z7 zd zh z2 z6 zn zb b q → a = b := by
 rintro a b q ⟨_, e1⟩ ⟨_, e2⟩
 have e := e1.symm.trans e2
 exact Prod.ext (congrArg (fun q : Res => pI (pA q.1)) e) (congrArg (fun q : Res => pI (pA (cellAt q 0 1))) e)
abbrev Z1O (zl : List Int) (z7 : Int) (zd : Int) (zh : List Zq) (zn : Own) (zb : Own) : (Int × Int × Int × Int × Int) → Res → Prop := fun r q => ∃ (ex : List Row), q = ((.p (.tup [(.v (.int .i64 r.1)), (.v (.int .i64 r.2.1))])), [(Zi (Zk.mk zl r.2.2.1 z7 zd zh (Zj.mk r.2.2.2.1 r.2.2.2.2)) zn zb)] ++ ex)
theorem Zb4 (zl : List Int) (z7 : Int) (zd : Int) (zh : List Zq) (zn : Own) (zb : Own) : ∀ a b q, Z1O zl z7 zd zh zn zb a q → Z1O zl z7 zd zh zn zb b q → a = b := by
 rintro a b q ⟨_, e1⟩ ⟨_, e2⟩
 have e := e1.symm.trans e2
 exact Prod.ext (congrArg (fun q : Res => pI ((pT (pA q.1)).getD 0 .junk)) e) (Prod.ext (congrArg (fun q : Res => pI ((pT (pA q.1)).getD 1 .junk)) e) (Prod.ext (congrArg (fun q : Res => pI (pA (cellAt q 0 1))) e) (Prod.ext (congrArg (fun q : Res => pI (pA (cellAt q 0 5))) e) (congrArg (fun q : Res => pI (pA (cellAt q 0 6))) e))))
abbrev Z2G (zl : List Int) (z7 : Int) (zd : Int) (zh : List Zq) (zn : Own) (zb : Own) : (Z3 × Int × Int × Int) → Res → Prop := fun r q => ∃ (ex : List Row), q = ((.p (.agg (Zz r.1 .sh .sh))), [(Zi (Zk.mk zl r.2.1 z7 zd zh (Zj.mk r.2.2.1 r.2.2.2)) zn zb)] ++ ex)
theorem Zb3 (zl : List Int) (z7 : Int) (zd : Int) (zh : List Zq) (zn : Own) (zb : Own) : ∀ a b q, Z2G zl z7 zd zh zn zb a q → Z2G zl z7 zd zh zn zb b q → a = b := by
 rintro a b q ⟨_, e1⟩ ⟨_, e2⟩
 have e := e1.symm.trans e2
 exact Prod.ext (Z2I (congrArg (fun q : Res => pC (pA q.1)) e)) (Prod.ext (congrArg (fun q : Res => pI (pA (cellAt q 0 1))) e) (Prod.ext (congrArg (fun q : Res => pI (pA (cellAt q 0 5))) e) (congrArg (fun q : Res => pI (pA (cellAt q 0 6))) e)))
abbrev Z2g (zl : List Int) (zn : Own) : (Z3 × Int × Int × Int × (List Zq) × Int × Int) → Res → Prop := fun r q => ∃ (p0_4 : Own) (ex : List Row), okApp p0_4 = true ∧ q = ((.p (.agg (Zz r.1 .sh .sh))), [(Zi (Zk.mk zl r.2.1 r.2.2.1 r.2.2.2.1 r.2.2.2.2.1 (Zj.mk r.2.2.2.2.2.1 r.2.2.2.2.2.2)) zn p0_4)] ++ ex)
theorem Z97 (zl : List Int) (zn : Own) : ∀ a b q, Z2g zl zn a q → Z2g zl zn b q → a = b := by
 rintro a b q ⟨_, _, _, e1⟩ ⟨_, _, _, e2⟩
 have e := e1.symm.trans e2
 exact Prod.ext (Z2I (congrArg (fun q : Res => pC (pA q.1)) e)) (Prod.ext (congrArg (fun q : Res => pI (pA (cellAt q 0 1))) e) (Prod.ext (congrArg (fun q : Res => pI (pA (cellAt q 0 2))) e) (Prod.ext (congrArg (fun q : Res => pI (pA (cellAt q 0 3))) e) (Prod.ext (lmap_inj Z3W (congrArg (fun q : Res => pL (pA (cellAt q 0 4))) e)) (Prod.ext (congrArg (fun q : Res => pI (pA (cellAt q 0 5))) e) (congrArg (fun q : Res => pI (pA (cellAt q 0 6))) e))))))
abbrev Z2r (zl : List Int) (zn : Own) : (Z3 × Int × Int × Int × (List Zq) × Int × Int) → Res → Prop := fun r q => ∃ (p0_4 : Own) (ex : List Row), okApp p0_4 = true ∧ q = ((.p (.agg (Zz r.1 .sh .sh))), [(Zi (Zk.mk zl r.2.1 r.2.2.1 r.2.2.2.1 r.2.2.2.2.1 (Zj.mk r.2.2.2.2.2.1 r.2.2.2.2.2.2)) zn p0_4)] ++ ex)
theorem Z9d (zl : List Int) (zn : Own) : ∀ a b q, Z2r zl zn a q → Z2r zl zn b q → a = b := by
 rintro a b q ⟨_, _, _, e1⟩ ⟨_, _, _, e2⟩
 have e := e1.symm.trans e2
 exact Prod.ext (Z2I (congrArg (fun q : Res => pC (pA q.1)) e)) (Prod.ext (congrArg (fun q : Res => pI (pA (cellAt q 0 1))) e) (Prod.ext (congrArg (fun q : Res => pI (pA (cellAt q 0 2))) e) (Prod.ext (congrArg (fun q : Res => pI (pA (cellAt q 0 3))) e) (Prod.ext (lmap_inj Z3W (congrArg (fun q : Res => pL (pA (cellAt q 0 4))) e)) (Prod.ext (congrArg (fun q : Res => pI (pA (cellAt q 0 5))) e) (congrArg (fun q : Res => pI (pA (cellAt q 0 6))) e))))))
abbrev Z2l  : (ZC × Zj) → Res → Prop := fun r q => ∃ (ex : List Row), q = ((.p (.tup [(.agg (Z1q r.1 .sh .sh)), (.agg (Z1Y r.2))])), ex)
theorem Zbo  : ∀ a b q, Z2l  a q → Z2l  b q → a = b := by
 rintro a b q ⟨_, e1⟩ ⟨_, e2⟩
 have e := e1.symm.trans e2
 exact Prod.ext (Z9f (congrArg (fun q : Res => pC ((pT (pA q.1)).getD 0 .junk)) e)) (Z7u (congrArg (fun q : Res => pC ((pT (pA q.1)).getD 1 .junk)) e))
abbrev Z6K  : (Int) → Res → Prop := fun r q => ∃ (ex : List Row), q = ((iv r), ex)
theorem ZeH  : ∀ a b q, Z6K  a q → Z6K  b q → a = b := by
 rintro a b q ⟨_, e1⟩ ⟨_, e2⟩
 have e := e1.symm.trans e2
 exact congrArg (fun q : Res => pI (pA q.1)) e
abbrev Z4j  : (Int) → Res → Prop := fun r q => ∃ (ex : List Row), q = ((iv r), ex)
theorem Ze5  : ∀ a b q, Z4j  a q → Z4j  b q → a = b := by
 rintro a b q ⟨_, e1⟩ ⟨_, e2⟩
 have e := e1.symm.trans e2
 exact congrArg (fun q : Res => pI (pA q.1)) e
abbrev Z6s  : (Int) → Res → Prop := fun r q => ∃ (ex : List Row), q = ((iv r), ex)
theorem ZeZ  : ∀ a b q, Z6s  a q → Z6s  b q → a = b := by
 rintro a b q ⟨_, e1⟩ ⟨_, e2⟩
 have e := e1.symm.trans e2
 exact congrArg (fun q : Res => pI (pA q.1)) e
abbrev Z21  : (Int × Int) → Res → Prop := fun r q => ∃ (ex : List Row), q = ((.p (.tup [(.v (.int .i64 r.1)), (.v (.int .i64 r.2))])), ex)
theorem Z9c  : ∀ a b q, Z21  a q → Z21  b q → a = b := by
 rintro a b q ⟨_, e1⟩ ⟨_, e2⟩
 have e := e1.symm.trans e2
 exact Prod.ext (congrArg (fun q : Res => pI ((pT (pA q.1)).getD 0 .junk)) e) (congrArg (fun q : Res => pI ((pT (pA q.1)).getD 1 .junk)) e)
abbrev Z3i  : (Int) → Res → Prop := fun r q => ∃ (ex : List Row), q = ((iv r), ex)
theorem ZbS  : ∀ a b q, Z3i  a q → Z3i  b q → a = b := by
 rintro a b q ⟨_, e1⟩ ⟨_, e2⟩
 have e := e1.symm.trans e2
 exact congrArg (fun q : Res => pI (pA q.1)) e
abbrev Z5D  : (Bool) → Res → Prop := fun r q => ∃ (ex : List Row), q = ((bv r), ex)
theorem ZcQ  : ∀ a b q, Z5D  a q → Z5D  b q → a = b := by
 rintro a b q ⟨_, e1⟩ ⟨_, e2⟩
 have e := e1.symm.trans e2
 exact congrArg (fun q : Res => pB (pA q.1)) e
abbrev Z1t  : (Int) → Res → Prop := fun r q => ∃ (ex : List Row), q = ((iv r), ex)
theorem Z6v  : ∀ a b q, Z1t  a q → Z1t  b q → a = b := by
 rintro a b q ⟨_, e1⟩ ⟨_, e2⟩
 have e := e1.symm.trans e2
 exact congrArg (fun q : Res => pI (pA q.1)) e
abbrev Z2U  : (Bool) → Res → Prop := fun r q => ∃ (ex : List Row), q = ((bv r), ex)
theorem Z8E  : ∀ a b q, Z2U  a q → Z2U  b q → a = b := by
 rintro a b q ⟨_, e1⟩ ⟨_, e2⟩
 have e := e1.symm.trans e2
 exact congrArg (fun q : Res => pB (pA q.1)) e
abbrev Z48  : (Bool) → Res → Prop := fun r q => ∃ (ex : List Row), q = ((bv r), ex)
theorem Zdt  : ∀ a b q, Z48  a q → Z48  b q → a = b := by
 rintro a b q ⟨_, e1⟩ ⟨_, e2⟩
 have e := e1.symm.trans e2
 exact congrArg (fun q : Res => pB (pA q.1)) e
abbrev Z6d  : (Int) → Res → Prop := fun r q => ∃ (ex : List Row), q = ((iv r), ex)
theorem ZdV  : ∀ a b q, Z6d  a q → Z6d  b q → a = b := by
 rintro a b q ⟨_, e1⟩ ⟨_, e2⟩
 have e := e1.symm.trans e2
 exact congrArg (fun q : Res => pI (pA q.1)) e
abbrev Z4f  : (Bool) → Res → Prop := fun r q => ∃ (ex : List Row), q = ((bv r), ex)
theorem ZaM  : ∀ a b q, Z4f  a q → Z4f  b q → a = b := by
 rintro a b q ⟨_, e1⟩ ⟨_, e2⟩
 have e := e1.symm.trans e2
 exact congrArg (fun q : Res => pB (pA q.1)) e
abbrev Z1s  : (Bool) → Res → Prop := fun r q => ∃ (ex : List Row), q = ((bv r), ex)
theorem Z9T  : ∀ a b q, Z1s  a q → Z1s  b q → a = b := by
 rintro a b q ⟨_, e1⟩ ⟨_, e2⟩
 have e := e1.symm.trans e2
 exact congrArg (fun q : Res => pB (pA q.1)) e
noncomputable def Z5Q (x0 : ByteArray) (x1 : Int) : Option (Bool) := pick fun r => RRun (Z1s) (EE 14 [(.p (.v (.string x0))), (iv x1)] []) r
theorem Z9H (x0 : ByteArray) (x1 : Int) : Sim (Z1s) (Z5Q x0 x1) (EE 14 [(.p (.v (.string x0))), (iv x1)] []) := fun _ h => pick_to h
noncomputable def Z5f  : Option (Bool) := pick fun r => RRun (Z4f) (EE 23 [] []) r
theorem Zam  : Sim (Z4f) (Z5f) (EE 23 [] []) := fun _ h => pick_to h
noncomputable def Z50 (x0 : ByteArray) : Option (ZC × Zj) := pick fun r => RRun (Z2l) (EE 16 [(.p (.v (.string x0)))] []) r
theorem Z6X (x0 : ByteArray) : Sim (Z2l) (Z50 x0) (EE 16 [(.p (.v (.string x0)))] []) := fun _ h => pick_to h
noncomputable def Z16 (x1 : ByteArray) (zl : List Int) (zp : Int) : Option (Bool × Int) := pick fun r => ∀ (z7 : Int) (zd : Int) (zh : List Zq) (z2 : Int) (z6 : Int) (zn : Own) (zb : Own) (zu : okApp zb = true), RRun (Z3s zl z7 zd zh z2 z6 zn zb) (EE 27 [(.ptr 0 0), (.p (.v (.string x1)))] [(Zi (Zk.mk zl zp z7 zd zh (Zj.mk z2 z6)) zn zb)]) r
theorem Z1b (x1 : ByteArray) (zl : List Int) (zp : Int) (z7 : Int) (zd : Int) (zh : List Zq) (z2 : Int) (z6 : Int) (zn : Own) (zb : Own) (zu : okApp zb = true) : Sim (Z3s zl z7 zd zh z2 z6 zn zb) (Z16 x1 zl zp) (EE 27 [(.ptr 0 0), (.p (.v (.string x1)))] [(Zi (Zk.mk zl zp z7 zd zh (Zj.mk z2 z6)) zn zb)]) := fun _ h => pick_to h z7 zd zh z2 z6 zn zb zu
noncomputable def Z2Y (zl : List Int) (zp : Int) (z7 : Int) (zd : Int) (zh : List Zq) (z2 : Int) (z6 : Int) : Option (Z3 × Int × Int × Int × (List Zq) × Int × Int) := pick fun r => ∀ (zn : Own) (zb : Own) (zu : okApp zb = true), RRun (Z2r zl zn) (EE 28 [(.ptr 0 0)] [(Zi (Zk.mk zl zp z7 zd zh (Zj.mk z2 z6)) zn zb)]) r
theorem Z8V (zl : List Int) (zp : Int) (z7 : Int) (zd : Int) (zh : List Zq) (z2 : Int) (z6 : Int) (zn : Own) (zb : Own) (zu : okApp zb = true) : Sim (Z2r zl zn) (Z2Y zl zp z7 zd zh z2 z6) (EE 28 [(.ptr 0 0)] [(Zi (Zk.mk zl zp z7 zd zh (Zj.mk z2 z6)) zn zb)]) := fun _ h => pick_to h zn zb zu
noncomputable def Z4x (zl : List Int) (zp : Int) (z7 : Int) (zd : Int) (zh : List Zq) (z2 : Int) (z6 : Int) : Option (Z3 × Int × Int × Int × (List Zq) × Int × Int) := pick fun r => ∀ (zn : Own) (zb : Own) (zu : okApp zb = true), RRun (Z2g zl zn) (EE 35 [(.ptr 0 0)] [(Zi (Zk.mk zl zp z7 zd zh (Zj.mk z2 z6)) zn zb)]) r
theorem Z8X (zl : List Int) (zp : Int) (z7 : Int) (zd : Int) (zh : List Zq) (z2 : Int) (z6 : Int) (zn : Own) (zb : Own) (zu : okApp zb = true) : Sim (Z2g zl zn) (Z4x zl zp z7 zd zh z2 z6) (EE 35 [(.ptr 0 0)] [(Zi (Zk.mk zl zp z7 zd zh (Zj.mk z2 z6)) zn zb)]) := fun _ h => pick_to h zn zb zu
noncomputable def Z3z (x3 : List Z3) (zl : List Int) (zp : Int) (z7 : Int) (zd : Int) (zh : List Zq) (z2 : Int) (z6 : Int) : Option (Z3 × Int × Int × Int × (List Zq) × Int × Int) := pick fun r => ∀ (b1 : Z3) (ox3 : Own) (zn : Own) (zb : Own) (zB : Own) (zy : Own) (hox3 : okApp ox3 = true) (zu : okApp zb = true) (zP : okApp zB = true) (zJ : okApp zy = true), RRun (Z2g zl zn) (ZbO 1 (.ptr 0 0) (.ptr 1 0) (.p (.lst ox3 (x3.map ZD))) [(Zi (Zk.mk zl zp z7 zd zh (Zj.mk z2 z6)) zn zb), (Zo b1 zB zy)]) r
theorem Z7r (x3 : List Z3) (zl : List Int) (zp : Int) (z7 : Int) (zd : Int) (zh : List Zq) (z2 : Int) (z6 : Int) (b1 : Z3) (ox3 : Own) (zn : Own) (zb : Own) (zB : Own) (zy : Own) (hox3 : okApp ox3 = true) (zu : okApp zb = true) (zP : okApp zB = true) (zJ : okApp zy = true) : Sim (Z2g zl zn) (Z3z x3 zl zp z7 zd zh z2 z6) (ZbO 1 (.ptr 0 0) (.ptr 1 0) (.p (.lst ox3 (x3.map ZD))) [(Zi (Zk.mk zl zp z7 zd zh (Zj.mk z2 z6)) zn zb), (Zo b1 zB zy)]) := fun _ h => pick_to h b1 ox3 zn zb zB zy hox3 zu zP zJ
noncomputable def Z1F (b0 : Zk) : Option (Int) := pick fun r => ∀ (zn : Own) (zb : Own) (zu : okApp zb = true), RRun (Z4d b0 zn zb) (EE 41 [(.ptr 0 0)] [(Zi b0 zn zb)]) r
theorem Z1K (b0 : Zk) (zn : Own) (zb : Own) (zu : okApp zb = true) : Sim (Z4d b0 zn zb) (Z1F b0) (EE 41 [(.ptr 0 0)] [(Zi b0 zn zb)]) := fun _ h => pick_to h zn zb zu
noncomputable def Z8u (x0 : List Int) (x1 : Int) : Option (Int × Int) := pick fun r => ∀ (ox0 : Own), RRun (Z5g) (EE 45 [(.p (.lst ox0 (x0.map (eI .u8)))), (iv x1)] []) r
theorem Zcc (x0 : List Int) (x1 : Int) (ox0 : Own) : Sim (Z5g) (Z8u x0 x1) (EE 45 [(.p (.lst ox0 (x0.map (eI .u8)))), (iv x1)] []) := fun _ h => pick_to h ox0
noncomputable def Z5L (x0 : List Int) : Option (Int × Int) := pick fun r => ∀ (ox0 : Own), RRun (Z4D) (EE 53 [(.p (.lst ox0 (x0.map (eI .u8))))] []) r
theorem Z9t (x0 : List Int) (ox0 : Own) : Sim (Z4D) (Z5L x0) (EE 53 [(.p (.lst ox0 (x0.map (eI .u8))))] []) := fun _ h => pick_to h ox0
noncomputable def Z6N (x0 : Int) (x1 : List Z3) : Option (Z3) := pick fun r => ∀ (ox1 : Own), RRun (Z5U) (EE 36 [(iv x0), (.p (.lst ox1 (x1.map ZD)))] []) r
theorem Zah (x0 : Int) (x1 : List Z3) (ox1 : Own) : Sim (Z5U) (Z6N x0 x1) (EE 36 [(iv x0), (.p (.lst ox1 (x1.map ZD)))] []) := fun _ h => pick_to h ox1
noncomputable def Z68 (zl : List Int) (zp : Int) (z7 : Int) (zd : Int) (zh : List Zq) (z2 : Int) (z6 : Int) : Option (Z3 × Bool × Int × Int × Int × (List Zq) × Int × Int) := pick fun r => ∀ (zn : Own) (zb : Own) (zu : okApp zb = true), RRun (Z4e zl zn) (EE 42 [(.ptr 0 0)] [(Zi (Zk.mk zl zp z7 zd zh (Zj.mk z2 z6)) zn zb)]) r
theorem Zbx (zl : List Int) (zp : Int) (z7 : Int) (zd : Int) (zh : List Zq) (z2 : Int) (z6 : Int) (zn : Own) (zb : Own) (zu : okApp zb = true) : Sim (Z4e zl zn) (Z68 zl zp z7 zd zh z2 z6) (EE 42 [(.ptr 0 0)] [(Zi (Zk.mk zl zp z7 zd zh (Zj.mk z2 z6)) zn zb)]) := fun _ h => pick_to h zn zb zu
noncomputable def Z26 (zl : List Int) (zp : Int) : Option (Int × Int) := pick fun r => ∀ (z7 : Int) (zd : Int) (zh : List Zq) (z2 : Int) (z6 : Int) (zn : Own) (zb : Own) (zu : okApp zb = true), RRun (Z56 zl z7 zd zh z2 z6 zn zb) (EE 46 [(.ptr 0 0)] [(Zi (Zk.mk zl zp z7 zd zh (Zj.mk z2 z6)) zn zb)]) r
theorem Z2t (zl : List Int) (zp : Int) (z7 : Int) (zd : Int) (zh : List Zq) (z2 : Int) (z6 : Int) (zn : Own) (zb : Own) (zu : okApp zb = true) : Sim (Z56 zl z7 zd zh z2 z6 zn zb) (Z26 zl zp) (EE 46 [(.ptr 0 0)] [(Zi (Zk.mk zl zp z7 zd zh (Zj.mk z2 z6)) zn zb)]) := fun _ h => pick_to h z7 zd zh z2 z6 zn zb zu
noncomputable def Z1A (x0 : Int) : Option (Z8) := pick fun r => RRun (Z8o) (EE 48 [(iv x0)] []) r
theorem Z1v (x0 : Int) : Sim (Z8o) (Z1A x0) (EE 48 [(iv x0)] []) := fun _ h => pick_to h
noncomputable def Z2J (x0 : Bool) (x1 : List Z8) : Option (Z3) := pick fun r => ∀ (ox1 : Own), RRun (Z78) (EE 47 [(bv x0), (.p (.lst ox1 (x1.map Zv)))] []) r
theorem Z2S (x0 : Bool) (x1 : List Z8) (ox1 : Own) : Sim (Z78) (Z2J x0 x1) (EE 47 [(bv x0), (.p (.lst ox1 (x1.map Zv)))] []) := fun _ h => pick_to h ox1
noncomputable def Z9j (x0 : List Z8) : Option ((List Z8) × Int) := pick fun r => ∀ (ox0 : Own), RRun (Z6E) (EE 54 [(.p (.lst ox0 (x0.map Zv)))] []) r
theorem Ze0 (x0 : List Z8) (ox0 : Own) : Sim (Z6E) (Z9j x0) (EE 54 [(.p (.lst ox0 (x0.map Zv)))] []) := fun _ h => pick_to h ox0
noncomputable def Z3j (x0 : List Z8) : Option (Bool) := pick fun r => ∀ (ox0 : Own), RRun (Z2Q) (EE 65 [(.p (.lst ox0 (x0.map Zv))), (.clo 66 [] [])] []) r
theorem Z89 (x0 : List Z8) (ox0 : Own) : Sim (Z2Q) (Z3j x0) (EE 65 [(.p (.lst ox0 (x0.map Zv))), (.clo 66 [] [])] []) := fun _ h => pick_to h ox0
noncomputable def Z3V (x0 : List Z8) : Option (Int) := pick fun r => ∀ (ox0 : Own), RRun (Z1o) (EE 73 [(.p (.lst ox0 (x0.map Zv))), (.clo 66 [] [])] []) r
theorem Z90 (x0 : List Z8) (ox0 : Own) : Sim (Z1o) (Z3V x0) (EE 73 [(.p (.lst ox0 (x0.map Zv))), (.clo 66 [] [])] []) := fun _ h => pick_to h ox0
noncomputable def Z2N (x0 : List Z8) (x7 : Int) (x8 : Int) : Option (Int) := pick fun r => ∀ (ox0 : Own), RRun (Z1o) (Zc2 0 (.p (.lst ox0 (x0.map Zv))) (.clo 66 [] []) (iv x7) (iv x8) []) r
theorem Z5F (x0 : List Z8) (x7 : Int) (x8 : Int) (ox0 : Own) : Sim (Z1o) (Z2N x0 x7 x8) (Zc2 0 (.p (.lst ox0 (x0.map Zv))) (.clo 66 [] []) (iv x7) (iv x8) []) := fun _ h => pick_to h ox0
noncomputable def Z7G (x0 : Z8) : Option (Bool) := pick fun r => RRun (Z6I) (EE 66 [(.p (.agg (ZF x0)))] []) r
theorem ZdE (x0 : Z8) : Sim (Z6I) (Z7G x0) (EE 66 [(.p (.agg (ZF x0)))] []) := fun _ h => pick_to h
noncomputable def Z54 (x0 : Z8) : Option (Bool) := pick fun r => RRun (Z53) (EE 67 [(.p (.agg (ZF x0)))] []) r
theorem Z8j (x0 : Z8) : Sim (Z53) (Z54 x0) (EE 67 [(.p (.agg (ZF x0)))] []) := fun _ h => pick_to h
noncomputable def Z7T (x0 : List Z8) : Option ((List Z8)) := pick fun r => ∀ (ox0 : Own), RRun (Z7Q) (EE 68 [(.p (.lst ox0 (x0.map Zv)))] []) r
theorem Zaf (x0 : List Z8) (ox0 : Own) : Sim (Z7Q) (Z7T x0) (EE 68 [(.p (.lst ox0 (x0.map Zv)))] []) := fun _ h => pick_to h ox0
noncomputable def Z6f (x0 : List Z8) : Option ((List Z8) × Int) := pick fun r => ∀ (ox0 : Own), RRun (Z5x) (EE 55 [(.p (.lst ox0 (x0.map Zv)))] []) r
theorem Za1 (x0 : List Z8) (ox0 : Own) : Sim (Z5x) (Z6f x0) (EE 55 [(.p (.lst ox0 (x0.map Zv)))] []) := fun _ h => pick_to h ox0
noncomputable def Z4B (x0 : List Z8) : Option (Bool) := pick fun r => ∀ (ox0 : Own), RRun (Z1Q) (EE 69 [(.p (.lst ox0 (x0.map Zv)))] []) r
theorem Z6H (x0 : List Z8) (ox0 : Own) : Sim (Z1Q) (Z4B x0) (EE 69 [(.p (.lst ox0 (x0.map Zv)))] []) := fun _ h => pick_to h ox0
noncomputable def Z4r (x3 : Int) (x6 : List Z8) (x7 : Int) (x8 : Int) : Option (Bool) := pick fun r => ∀ (ox6 : Own), RRun (Z1Q) (ZbQ 0 (iv x3) (.p (.lst ox6 (x6.map Zv))) (iv x7) (iv x8) []) r
theorem Z7y (x3 : Int) (x6 : List Z8) (x7 : Int) (x8 : Int) (ox6 : Own) : Sim (Z1Q) (Z4r x3 x6 x7 x8) (ZbQ 0 (iv x3) (.p (.lst ox6 (x6.map Zv))) (iv x7) (iv x8) []) := fun _ h => pick_to h ox6
noncomputable def Z7j (x0 : List Z8) : Option ((List Z8)) := pick fun r => ∀ (ox0 : Own), RRun (Z2h) (EE 70 [(.p (.lst ox0 (x0.map Zv)))] []) r
theorem ZcV (x0 : List Z8) (ox0 : Own) : Sim (Z2h) (Z7j x0) (EE 70 [(.p (.lst ox0 (x0.map Zv)))] []) := fun _ h => pick_to h ox0
noncomputable def Z5p (x3 : List Z8) (x4 : Int) (x7 : List Z8) (x8 : Int) (x9 : Int) : Option ((List Z8)) := pick fun r => ∀ (ox3 : Own) (ox7 : Own) (hox3 : okApp ox3 = true), RRun (Z2h) (Zch 0 (.p (.lst ox3 (x3.map Zv))) (iv x4) (.p (.lst ox7 (x7.map Zv))) (iv x8) (iv x9) []) r
theorem Z8Y (x3 : List Z8) (x4 : Int) (x7 : List Z8) (x8 : Int) (x9 : Int) (ox3 : Own) (ox7 : Own) (hox3 : okApp ox3 = true) : Sim (Z2h) (Z5p x3 x4 x7 x8 x9) (Zch 0 (.p (.lst ox3 (x3.map Zv))) (iv x4) (.p (.lst ox7 (x7.map Zv))) (iv x8) (iv x9) []) := fun _ h => pick_to h ox3 ox7 hox3
noncomputable def Z3a (x1 : Int) (zl : List Int) (zp : Int) (z7 : Int) (zd : Int) (zh : List Zq) (z2 : Int) (z6 : Int) : Option (Z3 × Int × (List Zq) × Int × Int) := pick fun r => ∀ (zn : Own) (zb : Own) (zu : okApp zb = true), RRun (Z2F zl z7 zd zn) (EE 49 [(.ptr 0 0), (iv x1)] [(Zi (Zk.mk zl zp z7 zd zh (Zj.mk z2 z6)) zn zb)]) r
theorem ZaQ (x1 : Int) (zl : List Int) (zp : Int) (z7 : Int) (zd : Int) (zh : List Zq) (z2 : Int) (z6 : Int) (zn : Own) (zb : Own) (zu : okApp zb = true) : Sim (Z2F zl z7 zd zn) (Z3a x1 zl zp z7 zd zh z2 z6) (EE 49 [(.ptr 0 0), (iv x1)] [(Zi (Zk.mk zl zp z7 zd zh (Zj.mk z2 z6)) zn zb)]) := fun _ h => pick_to h zn zb zu
noncomputable def ZS (x1 : Int) (x2 : Int) (zl : List Int) (z2 : Int) (z6 : Int) : Option (Int × Int × Int) := pick fun r => ∀ (zp : Int) (z7 : Int) (zd : Int) (zh : List Zq) (zn : Own) (zb : Own) (zu : okApp zb = true), RRun (Z4c zl z7 zd zh zn zb) (EE 29 [(.ptr 0 0), (iv x1), (iv x2)] [(Zi (Zk.mk zl zp z7 zd zh (Zj.mk z2 z6)) zn zb)]) r
theorem ZV (x1 : Int) (x2 : Int) (zl : List Int) (zp : Int) (z7 : Int) (zd : Int) (zh : List Zq) (z2 : Int) (z6 : Int) (zn : Own) (zb : Own) (zu : okApp zb = true) : Sim (Z4c zl z7 zd zh zn zb) (ZS x1 x2 zl z2 z6) (EE 29 [(.ptr 0 0), (iv x1), (iv x2)] [(Zi (Zk.mk zl zp z7 zd zh (Zj.mk z2 z6)) zn zb)]) := fun _ h => pick_to h zp z7 zd zh zn zb zu
noncomputable def Z4Z (x0 : Int) : Option ((Own × (List Z8))) := pick fun r => RRun (Z4Y) (EE 56 [(iv x0)] []) r
theorem Z6U (x0 : Int) : Sim (Z4Y) (Z4Z x0) (EE 56 [(iv x0)] []) := fun _ h => pick_to h
noncomputable def Z4M (x1 : Int) (x2 : Int) (zl : List Int) (zp : Int) (z7 : Int) (zd : Int) (zh : List Zq) (z2 : Int) (z6 : Int) : Option (Int × Int × Int × Int) := pick fun r => ∀ (zn : Own) (zb : Own) (zu : okApp zb = true), RRun (Z3d zl z7 zd zh zn zb) (EE 57 [(.ptr 0 0), (iv x1), (iv x2)] [(Zi (Zk.mk zl zp z7 zd zh (Zj.mk z2 z6)) zn zb)]) r
theorem Z85 (x1 : Int) (x2 : Int) (zl : List Int) (zp : Int) (z7 : Int) (zd : Int) (zh : List Zq) (z2 : Int) (z6 : Int) (zn : Own) (zb : Own) (zu : okApp zb = true) : Sim (Z3d zl z7 zd zh zn zb) (Z4M x1 x2 zl zp z7 zd zh z2 z6) (EE 57 [(.ptr 0 0), (iv x1), (iv x2)] [(Zi (Zk.mk zl zp z7 zd zh (Zj.mk z2 z6)) zn zb)]) := fun _ h => pick_to h zn zb zu
noncomputable def Z8k (x0 : Int) : Option (Int) := pick fun r => RRun (Z5j) (EE 71 [(iv x0)] []) r
theorem Zcd (x0 : Int) : Sim (Z5j) (Z8k x0) (EE 71 [(iv x0)] []) := fun _ h => pick_to h
noncomputable def Z6p (x0 : List Z8) (x1 : Int) : Option (Bool) := pick fun r => ∀ (ox0 : Own), RRun (Z6h) (EE 19 [(.p (.lst ox0 (x0.map Zv))), (iv x1)] []) r
theorem Zda (x0 : List Z8) (x1 : Int) (ox0 : Own) : Sim (Z6h) (Z6p x0 x1) (EE 19 [(.p (.lst ox0 (x0.map Zv))), (iv x1)] []) := fun _ h => pick_to h ox0
noncomputable def Z3m (x0 : List Z8) (zZ : Int) : Option (Bool) := pick fun r => ∀ (ox0 : Own), RRun (Z2P zZ) (EE 30 [(.p (.lst ox0 (x0.map Zv))), (.clo 31 [] [(.ptr 0 0)])] [[(iv zZ)]]) r
theorem Z8d (x0 : List Z8) (zZ : Int) (ox0 : Own) : Sim (Z2P zZ) (Z3m x0 zZ) (EE 30 [(.p (.lst ox0 (x0.map Zv))), (.clo 31 [] [(.ptr 0 0)])] [[(iv zZ)]]) := fun _ h => pick_to h ox0
noncomputable def Z3Z (x0 : List Z8) (zZ : Int) : Option (Int) := pick fun r => ∀ (ox0 : Own), RRun (Z1p zZ) (EE 37 [(.p (.lst ox0 (x0.map Zv))), (.clo 31 [] [(.ptr 0 0)])] [[(iv zZ)]]) r
theorem Z92 (x0 : List Z8) (zZ : Int) (ox0 : Own) : Sim (Z1p zZ) (Z3Z x0 zZ) (EE 37 [(.p (.lst ox0 (x0.map Zv))), (.clo 31 [] [(.ptr 0 0)])] [[(iv zZ)]]) := fun _ h => pick_to h ox0
noncomputable def Z2L (x0 : List Z8) (x7 : Int) (x8 : Int) (zZ : Int) : Option (Int) := pick fun r => ∀ (ox0 : Own), RRun (Z1p zZ) (Zcf 1 (.p (.lst ox0 (x0.map Zv))) (.clo 31 [] [(.ptr 0 0)]) (iv x7) (iv x8) [[(iv zZ)]]) r
theorem Z5C (x0 : List Z8) (x7 : Int) (x8 : Int) (zZ : Int) (ox0 : Own) : Sim (Z1p zZ) (Z2L x0 x7 x8 zZ) (Zcf 1 (.p (.lst ox0 (x0.map Zv))) (.clo 31 [] [(.ptr 0 0)]) (iv x7) (iv x8) [[(iv zZ)]]) := fun _ h => pick_to h ox0
noncomputable def Z6A (x0 : Z8) (zZ : Int) : Option (Bool) := pick fun r => RRun (Z5K zZ) (EE 31 [(.p (.agg (ZF x0))), (.ptr 0 0)] [[(iv zZ)]]) r
theorem Zcy (x0 : Z8) (zZ : Int) : Sim (Z5K zZ) (Z6A x0 zZ) (EE 31 [(.p (.agg (ZF x0))), (.ptr 0 0)] [[(iv zZ)]]) := fun _ h => pick_to h
noncomputable def Z5O (x1 : Int) (zl : List Int) (zp : Int) (z7 : Int) (zd : Int) (zh : List Zq) (z2 : Int) (z6 : Int) : Option (Z3 × Int × Int × Int) := pick fun r => ∀ (zn : Own) (zb : Own) (zu : okApp zb = true), RRun (Z19 zl z7 zd zh zn zb) (EE 50 [(.ptr 0 0), (iv x1)] [(Zi (Zk.mk zl zp z7 zd zh (Zj.mk z2 z6)) zn zb)]) r
theorem Zbb (x1 : Int) (zl : List Int) (zp : Int) (z7 : Int) (zd : Int) (zh : List Zq) (z2 : Int) (z6 : Int) (zn : Own) (zb : Own) (zu : okApp zb = true) : Sim (Z19 zl z7 zd zh zn zb) (Z5O x1 zl zp z7 zd zh z2 z6) (EE 50 [(.ptr 0 0), (iv x1)] [(Zi (Zk.mk zl zp z7 zd zh (Zj.mk z2 z6)) zn zb)]) := fun _ h => pick_to h zn zb zu
noncomputable def Z2R (x1 : Int) (x5 : Bool) (x8 : Int) (zl : List Int) (zp : Int) (z7 : Int) (zd : Int) (zh : List Zq) (z2 : Int) (z6 : Int) (z10 : List Z8) : Option (Z3 × Int × Int × Int) := pick fun r => ∀ (b1 : Z3) (zn : Own) (zb : Own) (zB : Own) (zy : Own) (z1f : Own) (zu : okApp zb = true) (zP : okApp zB = true) (zJ : okApp zy = true), RRun (Z19 zl z7 zd zh zn zb) (Zck 1 (.ptr 0 0) (iv x1) (.ptr 1 0) (bv x5) (.ptr 2 0) (.clo 58 [] [(.ptr 2 0)]) (iv x8) [(Zi (Zk.mk zl zp z7 zd zh (Zj.mk z2 z6)) zn zb), (Zo b1 zB zy), [(.p (.lst z1f (z10.map Zv)))]]) r
theorem Z76 (x1 : Int) (x5 : Bool) (x8 : Int) (zl : List Int) (zp : Int) (z7 : Int) (zd : Int) (zh : List Zq) (z2 : Int) (z6 : Int) (b1 : Z3) (z10 : List Z8) (zn : Own) (zb : Own) (zB : Own) (zy : Own) (z1f : Own) (zu : okApp zb = true) (zP : okApp zB = true) (zJ : okApp zy = true) : Sim (Z19 zl z7 zd zh zn zb) (Z2R x1 x5 x8 zl zp z7 zd zh z2 z6 z10) (Zck 1 (.ptr 0 0) (iv x1) (.ptr 1 0) (bv x5) (.ptr 2 0) (.clo 58 [] [(.ptr 2 0)]) (iv x8) [(Zi (Zk.mk zl zp z7 zd zh (Zj.mk z2 z6)) zn zb), (Zo b1 zB zy), [(.p (.lst z1f (z10.map Zv)))]]) := fun _ h => pick_to h b1 zn zb zB zy z1f zu zP zJ
noncomputable def Z3D (zl : List Int) (zp : Int) (z7 : Int) (zd : Int) (zh : List Zq) (z2 : Int) (z6 : Int) : Option (Int × (Own × (List Z8)) × Bool × Int × Int × Int) := pick fun r => ∀ (zn : Own) (zb : Own) (zu : okApp zb = true), RRun (Z2H zl z7 zd zh zn zb) (EE 60 [(.ptr 0 0)] [(Zi (Zk.mk zl zp z7 zd zh (Zj.mk z2 z6)) zn zb)]) r
theorem Z7v (zl : List Int) (zp : Int) (z7 : Int) (zd : Int) (zh : List Zq) (z2 : Int) (z6 : Int) (zn : Own) (zb : Own) (zu : okApp zb = true) : Sim (Z2H zl z7 zd zh zn zb) (Z3D zl zp z7 zd zh z2 z6) (EE 60 [(.ptr 0 0)] [(Zi (Zk.mk zl zp z7 zd zh (Zj.mk z2 z6)) zn zb)]) := fun _ h => pick_to h zn zb zu
noncomputable def Z4h (x0 : List Z8) (zZ : List Z8) : Option ((List Z8)) := pick fun r => ∀ (ox0 : Own) (z9N : Own), RRun (Z4g) (EE 58 [(.p (.lst ox0 (x0.map Zv))), (.ptr 0 0)] [[(.p (.lst z9N (zZ.map Zv)))]]) r
theorem Z7l (x0 : List Z8) (zZ : List Z8) (ox0 : Own) (z9N : Own) : Sim (Z4g) (Z4h x0 zZ) (EE 58 [(.p (.lst ox0 (x0.map Zv))), (.ptr 0 0)] [[(.p (.lst z9N (zZ.map Zv)))]]) := fun _ h => pick_to h ox0 z9N
noncomputable def Z83 (x0 : List Z8) (x1 : List Z8) : Option ((List Z8) × Int) := pick fun r => ∀ (ox0 : Own) (ox1 : Own), RRun (Z5c) (EE 59 [(.p (.lst ox0 (x0.map Zv))), (.p (.lst ox1 (x1.map Zv)))] []) r
theorem ZdD (x0 : List Z8) (x1 : List Z8) (ox0 : Own) (ox1 : Own) : Sim (Z5c) (Z83 x0 x1) (EE 59 [(.p (.lst ox0 (x0.map Zv))), (.p (.lst ox1 (x1.map Zv)))] []) := fun _ h => pick_to h ox0 ox1
noncomputable def Z6Q (x0 : List (List Z8)) : Option ((List Z8)) := pick fun r => ∀ (ox0 : Own), RRun (Z5u) (EE 72 [(.p (.lst ox0 (x0.map (eL Zv))))] []) r
theorem ZaU (x0 : List (List Z8)) (ox0 : Own) : Sim (Z5u) (Z6Q x0) (EE 72 [(.p (.lst ox0 (x0.map (eL Zv))))] []) := fun _ h => pick_to h ox0
noncomputable def Z3h (x1 : Int) (zl : List Int) (zp : Int) (z7 : Int) (zd : Int) (zh : List Zq) (z2 : Int) (z6 : Int) : Option (Z3 × Bool × Int × Int × Int × (List Zq) × Int × Int) := pick fun r => ∀ (zn : Own) (zb : Own) (zu : okApp zb = true), RRun (Z2d zl zn) (EE 51 [(.ptr 0 0), (iv x1)] [(Zi (Zk.mk zl zp z7 zd zh (Zj.mk z2 z6)) zn zb)]) r
theorem Zb1 (x1 : Int) (zl : List Int) (zp : Int) (z7 : Int) (zd : Int) (zh : List Zq) (z2 : Int) (z6 : Int) (zn : Own) (zb : Own) (zu : okApp zb = true) : Sim (Z2d zl zn) (Z3h x1 zl zp z7 zd zh z2 z6) (EE 51 [(.ptr 0 0), (iv x1)] [(Zi (Zk.mk zl zp z7 zd zh (Zj.mk z2 z6)) zn zb)]) := fun _ h => pick_to h zn zb zu
noncomputable def Z8A  : Option ((List ByteArray)) := pick fun r => RRun (Z74) (EE 62 [] []) r
theorem ZdL  : Sim (Z74) (Z8A) (EE 62 [] []) := fun _ h => pick_to h
noncomputable def Z3H (x0 : List ByteArray) (zl : List Int) (zp : Int) : Option (Int × Int) := pick fun r => ∀ (z7 : Int) (zd : Int) (zh : List Zq) (z2 : Int) (z6 : Int) (ox0 : Own) (zn : Own) (zb : Own) (zu : okApp zb = true), RRun (Z1k zl z7 zd zh z2 z6 zn zb) (EE 61 [(.p (.lst ox0 (x0.map eS))), (.clo 27 [(.ptr 0 0)] [])] [(Zi (Zk.mk zl zp z7 zd zh (Zj.mk z2 z6)) zn zb)]) r
theorem Z8D (x0 : List ByteArray) (zl : List Int) (zp : Int) (z7 : Int) (zd : Int) (zh : List Zq) (z2 : Int) (z6 : Int) (ox0 : Own) (zn : Own) (zb : Own) (zu : okApp zb = true) : Sim (Z1k zl z7 zd zh z2 z6 zn zb) (Z3H x0 zl zp) (EE 61 [(.p (.lst ox0 (x0.map eS))), (.clo 27 [(.ptr 0 0)] [])] [(Zi (Zk.mk zl zp z7 zd zh (Zj.mk z2 z6)) zn zb)]) := fun _ h => pick_to h z7 zd zh z2 z6 ox0 zn zb zu
noncomputable def Z1w (x0 : List ByteArray) (x7 : Int) (x8 : Int) (zl : List Int) (zp : Int) : Option (Int × Int) := pick fun r => ∀ (z7 : Int) (zd : Int) (zh : List Zq) (z2 : Int) (z6 : Int) (ox0 : Own) (zn : Own) (zb : Own) (zu : okApp zb = true), RRun (Z1k zl z7 zd zh z2 z6 zn zb) (ZbH 1 (.p (.lst ox0 (x0.map eS))) (.clo 27 [(.ptr 0 0)] []) (iv x7) (iv x8) [(Zi (Zk.mk zl zp z7 zd zh (Zj.mk z2 z6)) zn zb)]) r
theorem Z5y (x0 : List ByteArray) (x7 : Int) (x8 : Int) (zl : List Int) (zp : Int) (z7 : Int) (zd : Int) (zh : List Zq) (z2 : Int) (z6 : Int) (ox0 : Own) (zn : Own) (zb : Own) (zu : okApp zb = true) : Sim (Z1k zl z7 zd zh z2 z6 zn zb) (Z1w x0 x7 x8 zl zp) (ZbH 1 (.p (.lst ox0 (x0.map eS))) (.clo 27 [(.ptr 0 0)] []) (iv x7) (iv x8) [(Zi (Zk.mk zl zp z7 zd zh (Zj.mk z2 z6)) zn zb)]) := fun _ h => pick_to h z7 zd zh z2 z6 ox0 zn zb zu
noncomputable def Z4A (x1 : Z3) (x2 : Bool) (zl : List Int) (zp : Int) (z7 : Int) (zd : Int) (zh : List Zq) (z2 : Int) (z6 : Int) : Option (Z3 × Int × Int × Int) := pick fun r => ∀ (z2b : Own) (z1M : Own) (zn : Own) (zb : Own) (zu : okApp zb = true), RRun (Z2G zl z7 zd zh zn zb) (EE 43 [(.ptr 0 0), (.p (.agg (Zz x1 z2b z1M))), (bv x2)] [(Zi (Zk.mk zl zp z7 zd zh (Zj.mk z2 z6)) zn zb)]) r
theorem ZaY (x1 : Z3) (x2 : Bool) (zl : List Int) (zp : Int) (z7 : Int) (zd : Int) (zh : List Zq) (z2 : Int) (z6 : Int) (z2b : Own) (z1M : Own) (zn : Own) (zb : Own) (zu : okApp zb = true) : Sim (Z2G zl z7 zd zh zn zb) (Z4A x1 x2 zl zp z7 zd zh z2 z6) (EE 43 [(.ptr 0 0), (.p (.agg (Zz x1 z2b z1M))), (bv x2)] [(Zi (Zk.mk zl zp z7 zd zh (Zj.mk z2 z6)) zn zb)]) := fun _ h => pick_to h z2b z1M zn zb zu
noncomputable def Z4t (x1 : Int) (zl : List Int) (zp : Int) (z7 : Int) (zd : Int) (zh : List Zq) (z2 : Int) (z6 : Int) : Option (Int × Int × Int × Int × Int) := pick fun r => ∀ (zn : Own) (zb : Own) (zu : okApp zb = true), RRun (Z1O zl z7 zd zh zn zb) (EE 52 [(.ptr 0 0), (iv x1)] [(Zi (Zk.mk zl zp z7 zd zh (Zj.mk z2 z6)) zn zb)]) r
theorem ZaS (x1 : Int) (zl : List Int) (zp : Int) (z7 : Int) (zd : Int) (zh : List Zq) (z2 : Int) (z6 : Int) (zn : Own) (zb : Own) (zu : okApp zb = true) : Sim (Z1O zl z7 zd zh zn zb) (Z4t x1 zl zp z7 zd zh z2 z6) (EE 52 [(.ptr 0 0), (iv x1)] [(Zi (Zk.mk zl zp z7 zd zh (Zj.mk z2 z6)) zn zb)]) := fun _ h => pick_to h zn zb zu
noncomputable def Z3F (zl : List Int) (zp : Int) (z7 : Int) (zd : Int) (zh : List Zq) (z2 : Int) (z6 : Int) : Option (Int × Int) := pick fun r => ∀ (zn : Own) (zb : Own) (zu : okApp zb = true), RRun (Z24 zl z7 zd zh z2 z6 zn zb) (EE 63 [(.ptr 0 0)] [(Zi (Zk.mk zl zp z7 zd zh (Zj.mk z2 z6)) zn zb)]) r
theorem Z7A (zl : List Int) (zp : Int) (z7 : Int) (zd : Int) (zh : List Zq) (z2 : Int) (z6 : Int) (zn : Own) (zb : Own) (zu : okApp zb = true) : Sim (Z24 zl z7 zd zh z2 z6 zn zb) (Z3F zl zp z7 zd zh z2 z6) (EE 63 [(.ptr 0 0)] [(Zi (Zk.mk zl zp z7 zd zh (Zj.mk z2 z6)) zn zb)]) := fun _ h => pick_to h zn zb zu
noncomputable def Z2B (x3 : Int) (x4 : Int) (zl : List Int) (zp : Int) (z7 : Int) (zd : Int) (zh : List Zq) (z2 : Int) (z6 : Int) : Option (Int × Int) := pick fun r => ∀ (zn : Own) (zb : Own) (zu : okApp zb = true), RRun (Z24 zl z7 zd zh z2 z6 zn zb) (Zcb 1 (.ptr 0 0) (iv x3) (iv x4) [(Zi (Zk.mk zl zp z7 zd zh (Zj.mk z2 z6)) zn zb)]) r
theorem Z6T (x3 : Int) (x4 : Int) (zl : List Int) (zp : Int) (z7 : Int) (zd : Int) (zh : List Zq) (z2 : Int) (z6 : Int) (zn : Own) (zb : Own) (zu : okApp zb = true) : Sim (Z24 zl z7 zd zh z2 z6 zn zb) (Z2B x3 x4 zl zp z7 zd zh z2 z6) (Zcb 1 (.ptr 0 0) (iv x3) (iv x4) [(Zi (Zk.mk zl zp z7 zd zh (Zj.mk z2 z6)) zn zb)]) := fun _ h => pick_to h zn zb zu
noncomputable def Z3A (x3 : List Z3) (zl : List Int) (zp : Int) (z7 : Int) (zd : Int) (zh : List Zq) (z2 : Int) (z6 : Int) : Option (Z3 × Int × Int × Int × (List Zq) × Int × Int) := pick fun r => ∀ (b1 : Z3) (ox3 : Own) (zn : Own) (zb : Own) (zB : Own) (zy : Own) (hox3 : okApp ox3 = true) (zu : okApp zb = true) (zP : okApp zB = true) (zJ : okApp zy = true), RRun (Z2r zl zn) (ZbZ 1 (.ptr 0 0) (.ptr 1 0) (.p (.lst ox3 (x3.map ZD))) [(Zi (Zk.mk zl zp z7 zd zh (Zj.mk z2 z6)) zn zb), (Zo b1 zB zy)]) r
theorem Z7s (x3 : List Z3) (zl : List Int) (zp : Int) (z7 : Int) (zd : Int) (zh : List Zq) (z2 : Int) (z6 : Int) (b1 : Z3) (ox3 : Own) (zn : Own) (zb : Own) (zB : Own) (zy : Own) (hox3 : okApp ox3 = true) (zu : okApp zb = true) (zP : okApp zB = true) (zJ : okApp zy = true) : Sim (Z2r zl zn) (Z3A x3 zl zp z7 zd zh z2 z6) (ZbZ 1 (.ptr 0 0) (.ptr 1 0) (.p (.lst ox3 (x3.map ZD))) [(Zi (Zk.mk zl zp z7 zd zh (Zj.mk z2 z6)) zn zb), (Zo b1 zB zy)]) := fun _ h => pick_to h b1 ox3 zn zb zB zy hox3 zu zP zJ
noncomputable def Z59 (x50 : List Zq) (x51 : Int) (x52 : Int) (z1S : List Int) (zQ : Int) (zI : Int) (zR : Int) (zL : Int) (zT : Int) (zU : Int) (zM : Int) (zN : Int) (zO : List Z8) (zK : List Z3) (z13 : Bool) : Option (ZC × Zj) := pick fun r => ∀ (b0 : ZC) (b1 : Zj) (z1L : Int) (z1C : Int) (z1h : List Zq) (z1u : Int) (ox50 : Own) (zH : Own) (zG : Own) (z2i : Own) (z18 : Own) (z11 : Own) (zX : Own) (z1x : okApp zH = true) (z1r : okApp zG = true) (z2u : okApp z18 = true), RRun (Z2l) (Zcl 0 (.ptr 0 0) (.ptr 1 0) (.ptr 2 0) (.ptr 3 0) (.p (.lst ox50 (x50.map Z1E))) (iv x51) (iv x52) [(Zw b0 zH zG), (ZE b1), (Zi (Zk.mk z1S z1L zQ z1C z1h (Zj.mk zI zR)) z2i z18), (Zw (ZC.mk (Z3.mk zL zT zU zM zN zO zK) z1u z13) z11 zX)]) r
theorem Z9p (x50 : List Zq) (x51 : Int) (x52 : Int) (b0 : ZC) (b1 : Zj) (z1S : List Int) (z1L : Int) (zQ : Int) (z1C : Int) (z1h : List Zq) (zI : Int) (zR : Int) (zL : Int) (zT : Int) (zU : Int) (zM : Int) (zN : Int) (zO : List Z8) (zK : List Z3) (z1u : Int) (z13 : Bool) (ox50 : Own) (zH : Own) (zG : Own) (z2i : Own) (z18 : Own) (z11 : Own) (zX : Own) (z1x : okApp zH = true) (z1r : okApp zG = true) (z2u : okApp z18 = true) : Sim (Z2l) (Z59 x50 x51 x52 z1S zQ zI zR zL zT zU zM zN zO zK z13) (Zcl 0 (.ptr 0 0) (.ptr 1 0) (.ptr 2 0) (.ptr 3 0) (.p (.lst ox50 (x50.map Z1E))) (iv x51) (iv x52) [(Zw b0 zH zG), (ZE b1), (Zi (Zk.mk z1S z1L zQ z1C z1h (Zj.mk zI zR)) z2i z18), (Zw (ZC.mk (Z3.mk zL zT zU zM zN zO zK) z1u z13) z11 zX)]) := fun _ h => pick_to h b0 b1 z1L z1C z1h z1u ox50 zH zG z2i z18 z11 zX z1x z1r z2u
noncomputable def Z1n (x0 : Z3) : Option (Int × Int) := pick fun r => ∀ (z1c : Own) (zY : Own), RRun (Z21) (EE 24 [(.p (.agg (Zz x0 z1c zY)))] []) r
theorem Z3g (x0 : Z3) (z1c : Own) (zY : Own) : Sim (Z21) (Z1n x0) (EE 24 [(.p (.agg (Zz x0 z1c zY)))] []) := fun _ h => pick_to h z1c zY
noncomputable def Z5e (x2 : Int) (x3 : Int) (x23 : List Z3) (x24 : Int) (x25 : Int) : Option (Int × Int) := pick fun r => ∀ (ox23 : Own), RRun (Z21) (Zc3 0 (iv x2) (iv x3) (.p (.lst ox23 (x23.map ZD))) (iv x24) (iv x25) []) r
theorem Z9q (x2 : Int) (x3 : Int) (x23 : List Z3) (x24 : Int) (x25 : Int) (ox23 : Own) : Sim (Z21) (Z5e x2 x3 x23 x24 x25) (Zc3 0 (iv x2) (iv x3) (.p (.lst ox23 (x23.map ZD))) (iv x24) (iv x25) []) := fun _ h => pick_to h ox23
noncomputable def Z47 (x2 : Int) (x3 : Int) (x45 : List Z3) (x46 : Int) (x47 : Int) : Option (Int × Int) := pick fun r => ∀ (ox45 : Own), RRun (Z21) (ZaE 0 (iv x2) (iv x3) (.p (.lst ox45 (x45.map ZD))) (iv x46) (iv x47) []) r
theorem Z96 (x2 : Int) (x3 : Int) (x45 : List Z3) (x46 : Int) (x47 : Int) (ox45 : Own) : Sim (Z21) (Z47 x2 x3 x45 x46 x47) (ZaE 0 (iv x2) (iv x3) (.p (.lst ox45 (x45.map ZD))) (iv x46) (iv x47) []) := fun _ h => pick_to h ox45
noncomputable def Z6e (x0 : Int) (x1 : Int) : Option (Int) := pick fun r => RRun (Z4j) (EE 33 [(iv x0), (iv x1)] []) r
theorem ZdQ (x0 : Int) (x1 : Int) : Sim (Z4j) (Z6e x0 x1) (EE 33 [(iv x0), (iv x1)] []) := fun _ h => pick_to h
noncomputable def Z7q (x0 : Int) : Option (Int) := pick fun r => RRun (Z6K) (EE 38 [(iv x0)] []) r
theorem Zbg (x0 : Int) : Sim (Z6K) (Z7q x0) (EE 38 [(iv x0)] []) := fun _ h => pick_to h
noncomputable def Z9O (x0 : Int) (x1 : Int) : Option (Int) := pick fun r => RRun (Z6s) (EE 32 [(iv x0), (iv x1)] []) r
theorem ZeY (x0 : Int) (x1 : Int) : Sim (Z6s) (Z9O x0 x1) (EE 32 [(iv x0), (iv x1)] []) := fun _ h => pick_to h
noncomputable def Z25 (x0 : Z3) : Option (Int) := pick fun r => ∀ (z1c : Own) (zY : Own), RRun (Z3i) (EE 25 [(.p (.agg (Zz x0 z1c zY)))] []) r
theorem Z6q (x0 : Z3) (z1c : Own) (zY : Own) : Sim (Z3i) (Z25 x0) (EE 25 [(.p (.agg (Zz x0 z1c zY)))] []) := fun _ h => pick_to h z1c zY
noncomputable def Z3v (x3 : Int) (x8 : List Z3) (x9 : Int) (x10 : Int) (b0 : Z3) : Option (Int) := pick fun r => ∀ (ox8 : Own) (z1d : Own) (z12 : Own), RRun (Z3i) (ZbK 0 (.ptr 0 0) (iv x3) (.p (.lst ox8 (x8.map ZD))) (iv x9) (iv x10) [(Zo b0 z1d z12)]) r
theorem Z9V (x3 : Int) (x8 : List Z3) (x9 : Int) (x10 : Int) (b0 : Z3) (ox8 : Own) (z1d : Own) (z12 : Own) : Sim (Z3i) (Z3v x3 x8 x9 x10 b0) (ZbK 0 (.ptr 0 0) (iv x3) (.p (.lst ox8 (x8.map ZD))) (iv x9) (iv x10) [(Zo b0 z1d z12)]) := fun _ h => pick_to h ox8 z1d z12
noncomputable def Z8z (x0 : ZC) : Option (Int) := pick fun r => ∀ (z2A : Own) (z2m : Own), RRun (Z6d) (EE 26 [(.p (.agg (Z1q x0 z2A z2m)))] []) r
theorem ZdK (x0 : ZC) (z2A : Own) (z2m : Own) : Sim (Z6d) (Z8z x0) (EE 26 [(.p (.agg (Z1q x0 z2A z2m)))] []) := fun _ h => pick_to h z2A z2m
noncomputable def Z2V (x0 : Z3) : Option (Bool) := pick fun r => ∀ (z1c : Own) (zY : Own), RRun (Z48) (EE 34 [(.p (.agg (Zz x0 z1c zY)))] []) r
theorem Za4 (x0 : Z3) (z1c : Own) (zY : Own) : Sim (Z48) (Z2V x0) (EE 34 [(.p (.agg (Zz x0 z1c zY)))] []) := fun _ h => pick_to h z1c zY
noncomputable def Z3x (x0 : List Z3) : Option (Bool) := pick fun r => ∀ (ox0 : Own), RRun (Z2U) (EE 39 [(.p (.lst ox0 (x0.map ZD))), (.clo 40 [] [])] []) r
theorem Z8s (x0 : List Z3) (ox0 : Own) : Sim (Z2U) (Z3x x0) (EE 39 [(.p (.lst ox0 (x0.map ZD))), (.clo 40 [] [])] []) := fun _ h => pick_to h ox0
noncomputable def Z49 (x0 : List Z3) : Option (Int) := pick fun r => ∀ (ox0 : Own), RRun (Z1t) (EE 44 [(.p (.lst ox0 (x0.map ZD))), (.clo 40 [] [])] []) r
theorem Z9l (x0 : List Z3) (ox0 : Own) : Sim (Z1t) (Z49 x0) (EE 44 [(.p (.lst ox0 (x0.map ZD))), (.clo 40 [] [])] []) := fun _ h => pick_to h ox0
noncomputable def Z2W (x0 : List Z3) (x7 : Int) (x8 : Int) : Option (Int) := pick fun r => ∀ (ox0 : Own), RRun (Z1t) (ZbY 0 (.p (.lst ox0 (x0.map ZD))) (.clo 40 [] []) (iv x7) (iv x8) []) r
theorem Z5T (x0 : List Z3) (x7 : Int) (x8 : Int) (ox0 : Own) : Sim (Z1t) (Z2W x0 x7 x8) (ZbY 0 (.p (.lst ox0 (x0.map ZD))) (.clo 40 [] []) (iv x7) (iv x8) []) := fun _ h => pick_to h ox0
noncomputable def Z6x (x0 : Z3) : Option (Bool) := pick fun r => ∀ (z1c : Own) (zY : Own), RRun (Z5D) (EE 40 [(.p (.agg (Zz x0 z1c zY)))] []) r
theorem Zcq (x0 : Z3) (z1c : Own) (zY : Own) : Sim (Z5D) (Z6x x0) (EE 40 [(.p (.agg (Zz x0 z1c zY)))] []) := fun _ h => pick_to h z1c zY
end Go.Proofs.YtadodmjdkphddaaDoor.N2
end
