/- The functions, read typed: their types, and what they stand for. No condition. -/
import Derived.Test.YtadodmjdkphddaaDoorSim
import Derived.Test.YtadodmjdkphddaaDoorEqs

section
set_option linter.unusedSimpArgs false
set_option linter.unusedVariables false
namespace Go.Proofs.YtadodmjdkphddaaDoor.N2
open Go Go.Abs
set_option linter.unusedVariables false
set_option maxRecDepth 100000
structure Z7 where
 Lo : Int
 Hi : Int
 deriving Inhabited
def Z3O (a : Z7) : List PV := [(eI .i64) a.Lo, (eI .i64) a.Hi]
def Zs (a : Z7) : PV := .agg (Z3O a)
def ZG (a : Z7) : List PV := [(eI .i64) a.Lo, (eI .i64) a.Hi]
def Z1m (a : Z7) : Row := [.p ((eI .i64) a.Lo), .p ((eI .i64) a.Hi)]
theorem Z9b {a b : Z7} (h : Z3O a = Z3O b) : a = b := by
 have h0 : a.Lo = b.Lo := eI_inj _ _ (congrArg (fun l => l.getD 0 .junk) h)
 have h1 : a.Hi = b.Hi := eI_inj _ _ (congrArg (fun l => l.getD 1 .junk) h)
 cases a; cases b
 cases h0
 cases h1
 rfl
theorem Z2m (a b : Z7) (h : Zs a = Zs b) : a = b := Z9b (congrArg pC h)
structure Z3 where
 Kind : Int
 Lo : Int
 Hi : Int
 Mode : Int
 Ref : Int
 Set : (List Z7)
 Kids : (List Z3)
instance : Inhabited Z3 := ⟨⟨default, default, default, default, default, default, default⟩⟩
mutual
def ZI : Z3 → PV
 | ⟨Kind_, Lo_, Hi_, Mode_, Ref_, Set_, Kids_⟩ => .agg [(eI .i64) Kind_, (eI .i64) Lo_, (eI .i64) Hi_, (eI .i64) Mode_, (eI .i64) Ref_, (eL Zs) Set_, .lst .sh (Z3P Kids_)]
def Z3P : List Z3 → List PV
 | [] => []
 | x :: r => ZI x :: Z3P r
end
theorem Z9w : ∀ l, Z3P l = l.map ZI
 | [] => rfl
 | x :: r => by rw [Z3P, Z9w r]; rfl
def Z2e (a : Z3) : List PV := [(eI .i64) a.Kind, (eI .i64) a.Lo, (eI .i64) a.Hi, (eI .i64) a.Mode, (eI .i64) a.Ref, (eL Zs) a.Set, (eL ZI) a.Kids]
theorem Z31 (a : Z3) : ZI a = .agg (Z2e a) := by
 cases a; rw [ZI, Z9w]; rfl
theorem Z5x (a : Z3) : pcells (ZI a) = Z2e a := by rw [Z31]; rfl
theorem ZaU (a : Z3) : (pcells (ZI a)).length = 7 := by rw [Z31]; rfl
def ZE (a : Z3) (o0 o1 : Own) : List PV := [(eI .i64) a.Kind, (eI .i64) a.Lo, (eI .i64) a.Hi, (eI .i64) a.Mode, (eI .i64) a.Ref, .lst o0 (a.Set.map Zs), .lst o1 (a.Kids.map ZI)]
def Zq (a : Z3) (o0 o1 : Own) : Row := [.p ((eI .i64) a.Kind), .p ((eI .i64) a.Lo), .p ((eI .i64) a.Hi), .p ((eI .i64) a.Mode), .p ((eI .i64) a.Ref), .p (.lst o0 (a.Set.map Zs)), .p (.lst o1 (a.Kids.map ZI))]
mutual
theorem Z9v : ∀ a b : Z3, ZI a = ZI b → a = b
 | ⟨Kind_, Lo_, Hi_, Mode_, Ref_, Set_, Kids_⟩, ⟨Kind_2, Lo_2, Hi_2, Mode_2, Ref_2, Set_2, Kids_2⟩, h => by
  rw [ZI, ZI] at h
  have h0 : Kind_ = Kind_2 := eI_inj _ _ (congrArg (fun l => (pC l).getD 0 .junk) h)
  have h1 : Lo_ = Lo_2 := eI_inj _ _ (congrArg (fun l => (pC l).getD 1 .junk) h)
  have h2 : Hi_ = Hi_2 := eI_inj _ _ (congrArg (fun l => (pC l).getD 2 .junk) h)
  have h3 : Mode_ = Mode_2 := eI_inj _ _ (congrArg (fun l => (pC l).getD 3 .junk) h)
  have h4 : Ref_ = Ref_2 := eI_inj _ _ (congrArg (fun l => (pC l).getD 4 .junk) h)
  have h5 : Set_ = Set_2 := (eL_inj Z2m) _ _ (congrArg (fun l => (pC l).getD 5 .junk) h)
  have h6 : Kids_ = Kids_2 := Z9j Kids_ Kids_2 (congrArg (fun l => pL ((pC l).getD 6 .junk)) h)
  subst h0
  subst h1
  subst h2
  subst h3
  subst h4
  subst h5
  subst h6
  rfl
theorem Z9j : ∀ a b : List Z3, Z3P a = Z3P b → a = b
 | [], [], _ => rfl
 | [], _ :: _, h => by simp [Z3P] at h
 | _ :: _, [], h => by simp [Z3P] at h
 | x :: r, y :: t, h => by
  simp only [Z3P, List.cons.injEq] at h
  rw [Z9v x y h.1, Z9j r t h.2]
end
theorem Z2y {a b : Z3} (h : Z2e a = Z2e b) : a = b := Z9v a b (by rw [Z31, Z31, h])
structure ZC where
 Root : Z3
 Groups : Int
 Fold : Bool
 deriving Inhabited
def Z82 (a : ZC) : List PV := [(eI .i64) a.Root.Kind, (eI .i64) a.Root.Lo, (eI .i64) a.Root.Hi, (eI .i64) a.Root.Mode, (eI .i64) a.Root.Ref, (eL Zs) a.Root.Set, (eL ZI) a.Root.Kids, (eI .i64) a.Groups, eB a.Fold]
def Za1 (a : ZC) : PV := .agg (Z82 a)
def Z1d (a : ZC) (o0 o1 : Own) : List PV := [(eI .i64) a.Root.Kind, (eI .i64) a.Root.Lo, (eI .i64) a.Root.Hi, (eI .i64) a.Root.Mode, (eI .i64) a.Root.Ref, .lst o0 (a.Root.Set.map Zs), .lst o1 (a.Root.Kids.map ZI), (eI .i64) a.Groups, eB a.Fold]
def Zv (a : ZC) (o0 o1 : Own) : Row := [.p ((eI .i64) a.Root.Kind), .p ((eI .i64) a.Root.Lo), .p ((eI .i64) a.Root.Hi), .p ((eI .i64) a.Root.Mode), .p ((eI .i64) a.Root.Ref), .p (.lst o0 (a.Root.Set.map Zs)), .p (.lst o1 (a.Root.Kids.map ZI)), .p ((eI .i64) a.Groups), .p (eB a.Fold)]
theorem Z8y {a b : ZC} (h : Z82 a = Z82 b) : a = b := by
 have h0 : a.Root = b.Root := Z2y (congrArg (fun l => (l.drop 0).take 7) h)
 have h1 : a.Groups = b.Groups := eI_inj _ _ (congrArg (fun l => l.getD 7 .junk) h)
 have h2 : a.Fold = b.Fold := eB_inj _ _ (congrArg (fun l => l.getD 8 .junk) h)
 cases a; cases b
 cases h0
 cases h1
 cases h2
 rfl
theorem Zfk (a b : ZC) (h : Za1 a = Za1 b) : a = b := Z8y (congrArg pC h)
structure Zi where
 Code : Int
 At : Int
 deriving Inhabited
def Z8M (a : Zi) : List PV := [(eI .i64) a.Code, (eI .i64) a.At]
def Zbn (a : Zi) : PV := .agg (Z8M a)
def Z12 (a : Zi) : List PV := [(eI .i64) a.Code, (eI .i64) a.At]
def ZD (a : Zi) : Row := [.p ((eI .i64) a.Code), .p ((eI .i64) a.At)]
theorem Z6I {a b : Zi} (h : Z8M a = Z8M b) : a = b := by
 have h0 : a.Code = b.Code := eI_inj _ _ (congrArg (fun l => l.getD 0 .junk) h)
 have h1 : a.At = b.At := eI_inj _ _ (congrArg (fun l => l.getD 1 .junk) h)
 cases a; cases b
 cases h0
 cases h1
 rfl
theorem ZfL (a b : Zi) (h : Zbn a = Zbn b) : a = b := Z6I (congrArg pC h)
structure Zr where
 group : Int
 at_ : Int
 deriving Inhabited
def Z6k (a : Zr) : List PV := [(eI .i64) a.group, (eI .i64) a.at_]
def Z1y (a : Zr) : PV := .agg (Z6k a)
def Z7Y (a : Zr) : List PV := [(eI .i64) a.group, (eI .i64) a.at_]
def Z7X (a : Zr) : Row := [.p ((eI .i64) a.group), .p ((eI .i64) a.at_)]
theorem Zbs {a b : Zr} (h : Z6k a = Z6k b) : a = b := by
 have h0 : a.group = b.group := eI_inj _ _ (congrArg (fun l => l.getD 0 .junk) h)
 have h1 : a.at_ = b.at_ := eI_inj _ _ (congrArg (fun l => l.getD 1 .junk) h)
 cases a; cases b
 cases h0
 cases h1
 rfl
theorem Z3I (a b : Zr) (h : Z1y a = Z1y b) : a = b := Zbs (congrArg pC h)
structure Zk where
 b : (List Int)
 at_ : Int
 groups : Int
 deep : Int
 refs : (List Zr)
 fault : Zi
 deriving Inhabited
def Z8u (a : Zk) : List PV := [(eL (eI .u8)) a.b, (eI .i64) a.at_, (eI .i64) a.groups, (eI .i64) a.deep, (eL Z1y) a.refs, (eI .i64) a.fault.Code, (eI .i64) a.fault.At]
def Zax (a : Zk) : PV := .agg (Z8u a)
def ZcC (a : Zk) (o0 o1 : Own) : List PV := [.lst o0 (a.b.map (eI .u8)), (eI .i64) a.at_, (eI .i64) a.groups, (eI .i64) a.deep, .lst o1 (a.refs.map Z1y), (eI .i64) a.fault.Code, (eI .i64) a.fault.At]
def Zj (a : Zk) (o0 o1 : Own) : Row := [.p (.lst o0 (a.b.map (eI .u8))), .p ((eI .i64) a.at_), .p ((eI .i64) a.groups), .p ((eI .i64) a.deep), .p (.lst o1 (a.refs.map Z1y)), .p ((eI .i64) a.fault.Code), .p ((eI .i64) a.fault.At)]
theorem ZbF {a b : Zk} (h : Z8u a = Z8u b) : a = b := by
 have h0 : a.b = b.b := (eL_inj eI_inj) _ _ (congrArg (fun l => l.getD 0 .junk) h)
 have h1 : a.at_ = b.at_ := eI_inj _ _ (congrArg (fun l => l.getD 1 .junk) h)
 have h2 : a.groups = b.groups := eI_inj _ _ (congrArg (fun l => l.getD 2 .junk) h)
 have h3 : a.deep = b.deep := eI_inj _ _ (congrArg (fun l => l.getD 3 .junk) h)
 have h4 : a.refs = b.refs := (eL_inj Z3I) _ _ (congrArg (fun l => l.getD 4 .junk) h)
 have h5 : a.fault = b.fault := Z6I (congrArg (fun l => (l.drop 5).take 2) h)
 cases a; cases b
 cases h0
 cases h1
 cases h2
 cases h3
 cases h4
 cases h5
 rfl
theorem Zfw (a b : Zk) (h : Zax a = Zax b) : a = b := ZbF (congrArg pC h)
end Go.Proofs.YtadodmjdkphddaaDoor.N2
end
section
set_option linter.unusedSimpArgs false
set_option linter.unusedVariables false
namespace Go.Proofs.YtadodmjdkphddaaDoor.N2
open Go Go.Abs
set_option linter.unusedVariables false
set_option maxRecDepth 100000
abbrev Z3h (zl : List Int) (z6 : Int) (zd : Int) (zh : List Zr) (z1 : Int) (z2 : Int) (zn : Own) (zb : Own) : (Bool × Int) → Res → Prop := fun r q => ∃ (ex : List Row), q = ((bv r.1), [(Zj (Zk.mk zl r.2 z6 zd zh (Zi.mk z1 z2)) zn zb)] ++ ex)
theorem Zbl (zl : List Int) (z6 : Int) (zd : Int) (zh : List Zr) (z1 : Int) (z2 : Int) (zn : Own) (zb : Own) : ∀ a b q, Z3h zl z6 zd zh z1 z2 zn zb a q → Z3h zl z6 zd zh z1 z2 zn zb b q → a = b := by
 rintro a b q ⟨_, e1⟩ ⟨_, e2⟩
 have e := e1.symm.trans e2
 exact Prod.ext (congrArg (fun q : Res => pB (pA q.1)) e) (congrArg (fun q : Res => pI (pA (cellAt q 0 1))) e)
abbrev Z4r  : (Int × Int) → Res → Prop := fun r q => ∃ (ex : List Row), q = ((.p (.tup [(.v (.int .i32 r.1)), (.v (.int .i64 r.2))])), ex)
theorem Z9h  : ∀ a b q, Z4r  a q → Z4r  b q → a = b := by
 rintro a b q ⟨_, e1⟩ ⟨_, e2⟩
 have e := e1.symm.trans e2
 exact Prod.ext (congrArg (fun q : Res => pI ((pT (pA q.1)).getD 0 .junk)) e) (congrArg (fun q : Res => pI ((pT (pA q.1)).getD 1 .junk)) e)
abbrev Z4X  : (Int × Int) → Res → Prop := fun r q => ∃ (ex : List Row), q = ((.p (.tup [(.v (.int .i64 r.1)), (.v (.int .i64 r.2))])), ex)
theorem Zdl  : ∀ a b q, Z4X  a q → Z4X  b q → a = b := by
 rintro a b q ⟨_, e1⟩ ⟨_, e2⟩
 have e := e1.symm.trans e2
 exact Prod.ext (congrArg (fun q : Res => pI ((pT (pA q.1)).getD 0 .junk)) e) (congrArg (fun q : Res => pI ((pT (pA q.1)).getD 1 .junk)) e)
abbrev Z3Y (b0 : Zk) (zn : Own) (zb : Own) : (Int) → Res → Prop := fun r q => ∃ (ex : List Row), q = ((iv r), [(Zj b0 zn zb)] ++ ex)
theorem Zbr (b0 : Zk) (zn : Own) (zb : Own) : ∀ a b q, Z3Y b0 zn zb a q → Z3Y b0 zn zb b q → a = b := by
 rintro a b q ⟨_, e1⟩ ⟨_, e2⟩
 have e := e1.symm.trans e2
 exact congrArg (fun q : Res => pI (pA q.1)) e
abbrev Z5w  : (Z3) → Res → Prop := fun r q => ∃ (ex : List Row), q = ((.p (.agg (ZE r .sh .sh))), ex)
theorem Zci  : ∀ a b q, Z5w  a q → Z5w  b q → a = b := by
 rintro a b q ⟨_, e1⟩ ⟨_, e2⟩
 have e := e1.symm.trans e2
 exact Z2y (congrArg (fun q : Res => pC (pA q.1)) e)
abbrev Z4K (zl : List Int) (z6 : Int) (zd : Int) (zh : List Zr) (z1 : Int) (z2 : Int) (zn : Own) (zb : Own) : (Int × Int) → Res → Prop := fun r q => ∃ (ex : List Row), q = ((iv r.1), [(Zj (Zk.mk zl r.2 z6 zd zh (Zi.mk z1 z2)) zn zb)] ++ ex)
theorem Zbe (zl : List Int) (z6 : Int) (zd : Int) (zh : List Zr) (z1 : Int) (z2 : Int) (zn : Own) (zb : Own) : ∀ a b q, Z4K zl z6 zd zh z1 z2 zn zb a q → Z4K zl z6 zd zh z1 z2 zn zb b q → a = b := by
 rintro a b q ⟨_, e1⟩ ⟨_, e2⟩
 have e := e1.symm.trans e2
 exact Prod.ext (congrArg (fun q : Res => pI (pA q.1)) e) (congrArg (fun q : Res => pI (pA (cellAt q 0 1))) e)
abbrev Z7J  : (Z7) → Res → Prop := fun r q => ∃ (ex : List Row), q = ((.p (.agg (ZG r))), ex)
theorem Zdj  : ∀ a b q, Z7J  a q → Z7J  b q → a = b := by
 rintro a b q ⟨_, e1⟩ ⟨_, e2⟩
 have e := e1.symm.trans e2
 exact Z9b (congrArg (fun q : Res => pC (pA q.1)) e)
abbrev Z4L  : (Bool) → Res → Prop := fun r q => ∃ (ex : List Row), q = ((bv r), ex)
theorem ZaY  : ∀ a b q, Z4L  a q → Z4L  b q → a = b := by
 rintro a b q ⟨_, e1⟩ ⟨_, e2⟩
 have e := e1.symm.trans e2
 exact congrArg (fun q : Res => pB (pA q.1)) e
abbrev Z6h  : (Bool) → Res → Prop := fun r q => ∃ (ex : List Row), q = ((bv r), ex)
theorem Zcp  : ∀ a b q, Z6h  a q → Z6h  b q → a = b := by
 rintro a b q ⟨_, e1⟩ ⟨_, e2⟩
 have e := e1.symm.trans e2
 exact congrArg (fun q : Res => pB (pA q.1)) e
abbrev Z1l  : (Int) → Res → Prop := fun r q => ∃ (ex : List Row), q = ((iv r), ex)
theorem Z5T  : ∀ a b q, Z1l  a q → Z1l  b q → a = b := by
 rintro a b q ⟨_, e1⟩ ⟨_, e2⟩
 have e := e1.symm.trans e2
 exact congrArg (fun q : Res => pI (pA q.1)) e
abbrev Z2G  : (Bool) → Res → Prop := fun r q => ∃ (ex : List Row), q = ((bv r), ex)
theorem Z7E  : ∀ a b q, Z2G  a q → Z2G  b q → a = b := by
 rintro a b q ⟨_, e1⟩ ⟨_, e2⟩
 have e := e1.symm.trans e2
 exact congrArg (fun q : Res => pB (pA q.1)) e
abbrev Z79  : ((List Z7)) → Res → Prop := fun r q => ∃ (ex : List Row), q = ((.p (.lst .sh (r.map Zs))), ex)
theorem Zco  : ∀ a b q, Z79  a q → Z79  b q → a = b := by
 rintro a b q ⟨_, e1⟩ ⟨_, e2⟩
 have e := e1.symm.trans e2
 exact lmap_inj Z2m (congrArg (fun q : Res => pL (pA q.1)) e)
abbrev Z69  : ((List Z7) × Int) → Res → Prop := fun r q => ∃ (ex : List Row), q = ((.p (.tup [(.lst .sh (r.1.map Zs)), (.v (.int .i64 r.2))])), ex)
theorem Zd9  : ∀ a b q, Z69  a q → Z69  b q → a = b := by
 rintro a b q ⟨_, e1⟩ ⟨_, e2⟩
 have e := e1.symm.trans e2
 exact Prod.ext (lmap_inj Z2m (congrArg (fun q : Res => pL ((pT (pA q.1)).getD 0 .junk)) e)) (congrArg (fun q : Res => pI ((pT (pA q.1)).getD 1 .junk)) e)
abbrev Z1N  : (Bool) → Res → Prop := fun r q => ∃ (ex : List Row), q = ((bv r), ex)
theorem Z8w  : ∀ a b q, Z1N  a q → Z1N  b q → a = b := by
 rintro a b q ⟨_, e1⟩ ⟨_, e2⟩
 have e := e1.symm.trans e2
 exact congrArg (fun q : Res => pB (pA q.1)) e
abbrev Z2c  : ((List Z7)) → Res → Prop := fun r q => ∃ (ex : List Row), q = ((.p (.lst .sh (r.map Zs))), ex)
theorem Z9u  : ∀ a b q, Z2c  a q → Z2c  b q → a = b := by
 rintro a b q ⟨_, e1⟩ ⟨_, e2⟩
 have e := e1.symm.trans e2
 exact lmap_inj Z2m (congrArg (fun q : Res => pL (pA q.1)) e)
abbrev Z5g  : ((List Z7) × Int) → Res → Prop := fun r q => ∃ (ex : List Row), q = ((.p (.tup [(.lst .sh (r.1.map Zs)), (.v (.int .i64 r.2))])), ex)
theorem Zce  : ∀ a b q, Z5g  a q → Z5g  b q → a = b := by
 rintro a b q ⟨_, e1⟩ ⟨_, e2⟩
 have e := e1.symm.trans e2
 exact Prod.ext (lmap_inj Z2m (congrArg (fun q : Res => pL ((pT (pA q.1)).getD 0 .junk)) e)) (congrArg (fun q : Res => pI ((pT (pA q.1)).getD 1 .junk)) e)
abbrev Z6u  : (Z3) → Res → Prop := fun r q => ∃ (ex : List Row), q = ((.p (.agg (ZE r .sh .sh))), ex)
theorem Zdm  : ∀ a b q, Z6u  a q → Z6u  b q → a = b := by
 rintro a b q ⟨_, e1⟩ ⟨_, e2⟩
 have e := e1.symm.trans e2
 exact Z2y (congrArg (fun q : Res => pC (pA q.1)) e)
abbrev Z3Z (zl : List Int) (z6 : Int) (zd : Int) (zh : List Zr) (zn : Own) (zb : Own) : (Int × Int × Int) → Res → Prop := fun r q => ∃ (ex : List Row), q = ((.p (.tup [])), [(Zj (Zk.mk zl r.1 z6 zd zh (Zi.mk r.2.1 r.2.2)) zn zb)] ++ ex)
theorem ZaV (zl : List Int) (z6 : Int) (zd : Int) (zh : List Zr) (zn : Own) (zb : Own) : ∀ a b q, Z3Z zl z6 zd zh zn zb a q → Z3Z zl z6 zd zh zn zb b q → a = b := by
 rintro a b q ⟨_, e1⟩ ⟨_, e2⟩
 have e := e1.symm.trans e2
 exact Prod.ext (congrArg (fun q : Res => pI (pA (cellAt q 0 1))) e) (Prod.ext (congrArg (fun q : Res => pI (pA (cellAt q 0 5))) e) (congrArg (fun q : Res => pI (pA (cellAt q 0 6))) e))
abbrev Z4F  : ((Own × (List Z7))) → Res → Prop := fun r q => ∃ (ex : List Row), q = ((.p (.lst r.1 (r.2.map Zs))), ex)
theorem ZbI  : ∀ a b q, Z4F  a q → Z4F  b q → a = b := by
 rintro a b q ⟨_, e1⟩ ⟨_, e2⟩
 have e := e1.symm.trans e2
 exact Prod.ext (congrArg (fun q : Res => pOwn (pA q.1)) e) (lmap_inj Z2m (congrArg (fun q : Res => pL (pA q.1)) e))
abbrev Z4W  : (Int) → Res → Prop := fun r q => ∃ (ex : List Row), q = ((iv r), ex)
theorem Zdk  : ∀ a b q, Z4W  a q → Z4W  b q → a = b := by
 rintro a b q ⟨_, e1⟩ ⟨_, e2⟩
 have e := e1.symm.trans e2
 exact congrArg (fun q : Res => pI (pA q.1)) e
abbrev Z5l (zZ : Int) : (Bool) → Res → Prop := fun r q => ∃ (ex : List Row), q = ((bv r), [[(iv zZ)]] ++ ex)
theorem ZbH (zZ : Int) : ∀ a b q, Z5l zZ a q → Z5l zZ b q → a = b := by
 rintro a b q ⟨_, e1⟩ ⟨_, e2⟩
 have e := e1.symm.trans e2
 exact congrArg (fun q : Res => pB (pA q.1)) e
abbrev Z1n (zZ : Int) : (Int) → Res → Prop := fun r q => ∃ (ex : List Row), q = ((iv r), [[(iv zZ)]] ++ ex)
theorem Z5R (zZ : Int) : ∀ a b q, Z1n zZ a q → Z1n zZ b q → a = b := by
 rintro a b q ⟨_, e1⟩ ⟨_, e2⟩
 have e := e1.symm.trans e2
 exact congrArg (fun q : Res => pI (pA q.1)) e
abbrev Z2D (zZ : Int) : (Bool) → Res → Prop := fun r q => ∃ (ex : List Row), q = ((bv r), [[(iv zZ)]] ++ ex)
theorem Z7I (zZ : Int) : ∀ a b q, Z2D zZ a q → Z2D zZ b q → a = b := by
 rintro a b q ⟨_, e1⟩ ⟨_, e2⟩
 have e := e1.symm.trans e2
 exact congrArg (fun q : Res => pB (pA q.1)) e
abbrev Z5P  : (Bool) → Res → Prop := fun r q => ∃ (ex : List Row), q = ((bv r), ex)
theorem Zca  : ∀ a b q, Z5P  a q → Z5P  b q → a = b := by
 rintro a b q ⟨_, e1⟩ ⟨_, e2⟩
 have e := e1.symm.trans e2
 exact congrArg (fun q : Res => pB (pA q.1)) e
abbrev Z30 (zl : List Int) (z6 : Int) (zd : Int) (zh : List Zr) (zn : Own) (zb : Own) : (Int × Int × Int × Int) → Res → Prop := fun r q => ∃ (ex : List Row), q = ((iv r.1), [(Zj (Zk.mk zl r.2.1 z6 zd zh (Zi.mk r.2.2.1 r.2.2.2)) zn zb)] ++ ex)
theorem ZaN (zl : List Int) (z6 : Int) (zd : Int) (zh : List Zr) (zn : Own) (zb : Own) : ∀ a b q, Z30 zl z6 zd zh zn zb a q → Z30 zl z6 zd zh zn zb b q → a = b := by
 rintro a b q ⟨_, e1⟩ ⟨_, e2⟩
 have e := e1.symm.trans e2
 exact Prod.ext (congrArg (fun q : Res => pI (pA q.1)) e) (Prod.ext (congrArg (fun q : Res => pI (pA (cellAt q 0 1))) e) (Prod.ext (congrArg (fun q : Res => pI (pA (cellAt q 0 5))) e) (congrArg (fun q : Res => pI (pA (cellAt q 0 6))) e)))
abbrev Z2x (zl : List Int) (z6 : Int) (zd : Int) (zn : Own) : (Z3 × Int × (List Zr) × Int × Int) → Res → Prop := fun r q => ∃ (p0_4 : Own) (ex : List Row), okApp p0_4 = true ∧ q = ((.p (.agg (ZE r.1 .sh .sh))), [(Zj (Zk.mk zl r.2.1 z6 zd r.2.2.1 (Zi.mk r.2.2.2.1 r.2.2.2.2)) zn p0_4)] ++ ex)
theorem Zap (zl : List Int) (z6 : Int) (zd : Int) (zn : Own) : ∀ a b q, Z2x zl z6 zd zn a q → Z2x zl z6 zd zn b q → a = b := by
 rintro a b q ⟨_, _, _, e1⟩ ⟨_, _, _, e2⟩
 have e := e1.symm.trans e2
 exact Prod.ext (Z2y (congrArg (fun q : Res => pC (pA q.1)) e)) (Prod.ext (congrArg (fun q : Res => pI (pA (cellAt q 0 1))) e) (Prod.ext (lmap_inj Z3I (congrArg (fun q : Res => pL (pA (cellAt q 0 4))) e)) (Prod.ext (congrArg (fun q : Res => pI (pA (cellAt q 0 5))) e) (congrArg (fun q : Res => pI (pA (cellAt q 0 6))) e))))
abbrev Z2w (zl : List Int) (z6 : Int) (zd : Int) (zh : List Zr) (zn : Own) (zb : Own) : (Int × (Own × (List Z7)) × Bool × Int × Int × Int) → Res → Prop := fun r q => ∃ (ex : List Row), q = ((.p (.tup [(.v (.int .i64 r.1)), (.lst r.2.1.1 (r.2.1.2.map Zs)), (.v (.bool r.2.2.1))])), [(Zj (Zk.mk zl r.2.2.2.1 z6 zd zh (Zi.mk r.2.2.2.2.1 r.2.2.2.2.2)) zn zb)] ++ ex)
theorem Zaf (zl : List Int) (z6 : Int) (zd : Int) (zh : List Zr) (zn : Own) (zb : Own) : ∀ a b q, Z2w zl z6 zd zh zn zb a q → Z2w zl z6 zd zh zn zb b q → a = b := by
 rintro a b q ⟨_, e1⟩ ⟨_, e2⟩
 have e := e1.symm.trans e2
 exact Prod.ext (congrArg (fun q : Res => pI ((pT (pA q.1)).getD 0 .junk)) e) (Prod.ext (Prod.ext (congrArg (fun q : Res => pOwn ((pT (pA q.1)).getD 1 .junk)) e) (lmap_inj Z2m (congrArg (fun q : Res => pL ((pT (pA q.1)).getD 1 .junk)) e))) (Prod.ext (congrArg (fun q : Res => pB ((pT (pA q.1)).getD 2 .junk)) e) (Prod.ext (congrArg (fun q : Res => pI (pA (cellAt q 0 1))) e) (Prod.ext (congrArg (fun q : Res => pI (pA (cellAt q 0 5))) e) (congrArg (fun q : Res => pI (pA (cellAt q 0 6))) e)))))
abbrev Z58  : ((List Z7)) → Res → Prop := fun r q => ∃ (ex : List Row), q = ((.p (.lst .sh (r.map Zs))), ex)
theorem Zaj  : ∀ a b q, Z58  a q → Z58  b q → a = b := by
 rintro a b q ⟨_, e1⟩ ⟨_, e2⟩
 have e := e1.symm.trans e2
 exact lmap_inj Z2m (congrArg (fun q : Res => pL (pA q.1)) e)
abbrev Z4Q  : ((List Z7) × Int) → Res → Prop := fun r q => ∃ (ex : List Row), q = ((.p (.tup [(.lst .sh (r.1.map Zs)), (.v (.int .i64 r.2))])), ex)
theorem Zcm  : ∀ a b q, Z4Q  a q → Z4Q  b q → a = b := by
 rintro a b q ⟨_, e1⟩ ⟨_, e2⟩
 have e := e1.symm.trans e2
 exact Prod.ext (lmap_inj Z2m (congrArg (fun q : Res => pL ((pT (pA q.1)).getD 0 .junk)) e)) (congrArg (fun q : Res => pI ((pT (pA q.1)).getD 1 .junk)) e)
abbrev Z40  : ((List Z7)) → Res → Prop := fun r q => ∃ (p0_0 : Own) (ex : List Row), q = ((.p (.tup [])), [[(.p (.lst p0_0 (r.map Zs)))]] ++ ex)
theorem Za6  : ∀ a b q, Z40  a q → Z40  b q → a = b := by
 rintro a b q ⟨_, _, e1⟩ ⟨_, _, e2⟩
 have e := e1.symm.trans e2
 exact lmap_inj Z2m (congrArg (fun q : Res => pL (pA (cellAt q 0 0))) e)
abbrev Z16 (zl : List Int) (z6 : Int) (zd : Int) (zh : List Zr) (zn : Own) (zb : Own) : (Z3 × Int × Int × Int) → Res → Prop := fun r q => ∃ (ex : List Row), q = ((.p (.agg (ZE r.1 .sh .sh))), [(Zj (Zk.mk zl r.2.1 z6 zd zh (Zi.mk r.2.2.1 r.2.2.2)) zn zb)] ++ ex)
theorem Z7K (zl : List Int) (z6 : Int) (zd : Int) (zh : List Zr) (zn : Own) (zb : Own) : ∀ a b q, Z16 zl z6 zd zh zn zb a q → Z16 zl z6 zd zh zn zb b q → a = b := by
 rintro a b q ⟨_, e1⟩ ⟨_, e2⟩
 have e := e1.symm.trans e2
 exact Prod.ext (Z2y (congrArg (fun q : Res => pC (pA q.1)) e)) (Prod.ext (congrArg (fun q : Res => pI (pA (cellAt q 0 1))) e) (Prod.ext (congrArg (fun q : Res => pI (pA (cellAt q 0 5))) e) (congrArg (fun q : Res => pI (pA (cellAt q 0 6))) e)))
abbrev Z6o  : ((List ByteArray)) → Res → Prop := fun r q => ∃ (ex : List Row), q = ((.p (.lst .sh (r.map eS))), ex)
theorem ZcG  : ∀ a b q, Z6o  a q → Z6o  b q → a = b := by
 rintro a b q ⟨_, e1⟩ ⟨_, e2⟩
 have e := e1.symm.trans e2
 exact lmap_inj eS_inj (congrArg (fun q : Res => pL (pA q.1)) e)
abbrev Z1h (zl : List Int) (z6 : Int) (zd : Int) (zh : List Zr) (z1 : Int) (z2 : Int) (zn : Own) (zb : Own) : (Int × Int) → Res → Prop := fun r q => ∃ (ex : List Row), q = ((iv r.1), [(Zj (Zk.mk zl r.2 z6 zd zh (Zi.mk z1 z2)) zn zb)] ++ ex)
theorem Z5K (zl : List Int) (z6 : Int) (zd : Int) (zh : List Zr) (z1 : Int) (z2 : Int) (zn : Own) (zb : Own) : ∀ a b q, Z1h zl z6 zd zh z1 z2 zn zb a q → Z1h zl z6 zd zh z1 z2 zn zb b q → a = b := by
 rintro a b q ⟨_, e1⟩ ⟨_, e2⟩
 have e := e1.symm.trans e2
 exact Prod.ext (congrArg (fun q : Res => pI (pA q.1)) e) (congrArg (fun q : Res => pI (pA (cellAt q 0 1))) e)
abbrev Z25 (zl : List Int) (zn : Own) : (Z3 × Bool × Int × Int × Int × (List Zr) × Int × Int) → Res → Prop := fun r q => ∃ (p0_4 : Own) (ex : List Row), okApp p0_4 = true ∧ q = ((.p (.tup [(.agg (ZE r.1 .sh .sh)), (.v (.bool r.2.1))])), [(Zj (Zk.mk zl r.2.2.1 r.2.2.2.1 r.2.2.2.2.1 r.2.2.2.2.2.1 (Zi.mk r.2.2.2.2.2.2.1 r.2.2.2.2.2.2.2)) zn p0_4)] ++ ex)
theorem ZaM (zl : List Int) (zn : Own) : ∀ a b q, Z25 zl zn a q → Z25 zl zn b q → a = b := by
 rintro a b q ⟨_, _, _, e1⟩ ⟨_, _, _, e2⟩
 have e := e1.symm.trans e2
 exact Prod.ext (Z2y (congrArg (fun q : Res => pC ((pT (pA q.1)).getD 0 .junk)) e)) (Prod.ext (congrArg (fun q : Res => pB ((pT (pA q.1)).getD 1 .junk)) e) (Prod.ext (congrArg (fun q : Res => pI (pA (cellAt q 0 1))) e) (Prod.ext (congrArg (fun q : Res => pI (pA (cellAt q 0 2))) e) (Prod.ext (congrArg (fun q : Res => pI (pA (cellAt q 0 3))) e) (Prod.ext (lmap_inj Z3I (congrArg (fun q : Res => pL (pA (cellAt q 0 4))) e)) (Prod.ext (congrArg (fun q : Res => pI (pA (cellAt q 0 5))) e) (congrArg (fun q : Res => pI (pA (cellAt q 0 6))) e)))))))
abbrev Z3W (zl : List Int) (zn : Own) : (Z3 × Bool × Int × Int × Int × (List Zr) × Int × Int) → Res → Prop := fun r q => ∃ (p0_4 : Own) (ex : List Row), okApp p0_4 = true ∧ q = ((.p (.tup [(.agg (ZE r.1 .sh .sh)), (.v (.bool r.2.1))])), [(Zj (Zk.mk zl r.2.2.1 r.2.2.2.1 r.2.2.2.2.1 r.2.2.2.2.2.1 (Zi.mk r.2.2.2.2.2.2.1 r.2.2.2.2.2.2.2)) zn p0_4)] ++ ex)
theorem Zb5 (zl : List Int) (zn : Own) : ∀ a b q, Z3W zl zn a q → Z3W zl zn b q → a = b := by
 rintro a b q ⟨_, _, _, e1⟩ ⟨_, _, _, e2⟩
 have e := e1.symm.trans e2
 exact Prod.ext (Z2y (congrArg (fun q : Res => pC ((pT (pA q.1)).getD 0 .junk)) e)) (Prod.ext (congrArg (fun q : Res => pB ((pT (pA q.1)).getD 1 .junk)) e) (Prod.ext (congrArg (fun q : Res => pI (pA (cellAt q 0 1))) e) (Prod.ext (congrArg (fun q : Res => pI (pA (cellAt q 0 2))) e) (Prod.ext (congrArg (fun q : Res => pI (pA (cellAt q 0 3))) e) (Prod.ext (lmap_inj Z3I (congrArg (fun q : Res => pL (pA (cellAt q 0 4))) e)) (Prod.ext (congrArg (fun q : Res => pI (pA (cellAt q 0 5))) e) (congrArg (fun q : Res => pI (pA (cellAt q 0 6))) e)))))))
abbrev Z1Y (zl : List Int) (z6 : Int) (zd : Int) (zh : List Zr) (z1 : Int) (z2 : Int) (zn : Own) (zb : Own) : (Int × Int) → Res → Prop := fun r q => ∃ (ex : List Row), q = ((iv r.1), [(Zj (Zk.mk zl r.2 z6 zd zh (Zi.mk z1 z2)) zn zb)] ++ ex)
theorem Z7s (zl : List Int) (z6 : Int) (zd : Int) (zh : List Zr) (z1 : Int) (z2 : Int) (zn : Own) (zb : Own) : ∀ a b q, Z1Y zl z6 zd zh z1 z2 zn zb a q → Z1Y zl z6 zd zh z1 z2 zn zb b q → a = b := by
 rintro a b q ⟨_, e1⟩ ⟨_, e2⟩
 have e := e1.symm.trans e2
 exact Prod.ext (congrArg (fun q : Res => pI (pA q.1)) e) (congrArg (fun q : Res => pI (pA (cellAt q 0 1))) e)
abbrev Z1L (zl : List Int) (z6 : Int) (zd : Int) (zh : List Zr) (zn : Own) (zb : Own) : (Int × Int × Int × Int × Int) → Res → Prop := fun r q => ∃ (ex : List Row), q = ((.p (.tup [(.v (.int .i64 r.1)), (.v (.int .i64 r.2.1))])), [(Zj (Zk.mk zl r.2.2.1 z6 zd zh (Zi.mk r.2.2.2.1 r.2.2.2.2)) zn zb)] ++ ex)
theorem Zad (zl : List Int) (z6 : Int) (zd : Int) (zh : List Zr) (zn : Own) (zb : Own) : ∀ a b q, Z1L zl z6 zd zh zn zb a q → Z1L zl z6 zd zh zn zb b q → a = b := by
 rintro a b q ⟨_, e1⟩ ⟨_, e2⟩
 have e := e1.symm.trans e2
 exact Prod.ext (congrArg (fun q : Res => pI ((pT (pA q.1)).getD 0 .junk)) e) (Prod.ext (congrArg (fun q : Res => pI ((pT (pA q.1)).getD 1 .junk)) e) (Prod.ext (congrArg (fun q : Res => pI (pA (cellAt q 0 1))) e) (Prod.ext (congrArg (fun q : Res => pI (pA (cellAt q 0 5))) e) (congrArg (fun q : Res => pI (pA (cellAt q 0 6))) e))))
abbrev Z2v (zl : List Int) (z6 : Int) (zd : Int) (zh : List Zr) (zn : Own) (zb : Own) : (Z3 × Int × Int × Int) → Res → Prop := fun r q => ∃ (ex : List Row), q = ((.p (.agg (ZE r.1 .sh .sh))), [(Zj (Zk.mk zl r.2.1 z6 zd zh (Zi.mk r.2.2.1 r.2.2.2)) zn zb)] ++ ex)
theorem Zah (zl : List Int) (z6 : Int) (zd : Int) (zh : List Zr) (zn : Own) (zb : Own) : ∀ a b q, Z2v zl z6 zd zh zn zb a q → Z2v zl z6 zd zh zn zb b q → a = b := by
 rintro a b q ⟨_, e1⟩ ⟨_, e2⟩
 have e := e1.symm.trans e2
 exact Prod.ext (Z2y (congrArg (fun q : Res => pC (pA q.1)) e)) (Prod.ext (congrArg (fun q : Res => pI (pA (cellAt q 0 1))) e) (Prod.ext (congrArg (fun q : Res => pI (pA (cellAt q 0 5))) e) (congrArg (fun q : Res => pI (pA (cellAt q 0 6))) e)))
abbrev Z27 (zl : List Int) (zn : Own) : (Z3 × Int × Int × Int × (List Zr) × Int × Int) → Res → Prop := fun r q => ∃ (p0_4 : Own) (ex : List Row), okApp p0_4 = true ∧ q = ((.p (.agg (ZE r.1 .sh .sh))), [(Zj (Zk.mk zl r.2.1 r.2.2.1 r.2.2.2.1 r.2.2.2.2.1 (Zi.mk r.2.2.2.2.2.1 r.2.2.2.2.2.2)) zn p0_4)] ++ ex)
theorem Z8o (zl : List Int) (zn : Own) : ∀ a b q, Z27 zl zn a q → Z27 zl zn b q → a = b := by
 rintro a b q ⟨_, _, _, e1⟩ ⟨_, _, _, e2⟩
 have e := e1.symm.trans e2
 exact Prod.ext (Z2y (congrArg (fun q : Res => pC (pA q.1)) e)) (Prod.ext (congrArg (fun q : Res => pI (pA (cellAt q 0 1))) e) (Prod.ext (congrArg (fun q : Res => pI (pA (cellAt q 0 2))) e) (Prod.ext (congrArg (fun q : Res => pI (pA (cellAt q 0 3))) e) (Prod.ext (lmap_inj Z3I (congrArg (fun q : Res => pL (pA (cellAt q 0 4))) e)) (Prod.ext (congrArg (fun q : Res => pI (pA (cellAt q 0 5))) e) (congrArg (fun q : Res => pI (pA (cellAt q 0 6))) e))))))
abbrev Z2k (zl : List Int) (zn : Own) : (Z3 × Int × Int × Int × (List Zr) × Int × Int) → Res → Prop := fun r q => ∃ (p0_4 : Own) (ex : List Row), okApp p0_4 = true ∧ q = ((.p (.agg (ZE r.1 .sh .sh))), [(Zj (Zk.mk zl r.2.1 r.2.2.1 r.2.2.2.1 r.2.2.2.2.1 (Zi.mk r.2.2.2.2.2.1 r.2.2.2.2.2.2)) zn p0_4)] ++ ex)
theorem Z8l (zl : List Int) (zn : Own) : ∀ a b q, Z2k zl zn a q → Z2k zl zn b q → a = b := by
 rintro a b q ⟨_, _, _, e1⟩ ⟨_, _, _, e2⟩
 have e := e1.symm.trans e2
 exact Prod.ext (Z2y (congrArg (fun q : Res => pC (pA q.1)) e)) (Prod.ext (congrArg (fun q : Res => pI (pA (cellAt q 0 1))) e) (Prod.ext (congrArg (fun q : Res => pI (pA (cellAt q 0 2))) e) (Prod.ext (congrArg (fun q : Res => pI (pA (cellAt q 0 3))) e) (Prod.ext (lmap_inj Z3I (congrArg (fun q : Res => pL (pA (cellAt q 0 4))) e)) (Prod.ext (congrArg (fun q : Res => pI (pA (cellAt q 0 5))) e) (congrArg (fun q : Res => pI (pA (cellAt q 0 6))) e))))))
abbrev Z2d  : (ZC × Zi) → Res → Prop := fun r q => ∃ (ex : List Row), q = ((.p (.tup [(.agg (Z1d r.1 .sh .sh)), (.agg (Z12 r.2))])), ex)
theorem Zau  : ∀ a b q, Z2d  a q → Z2d  b q → a = b := by
 rintro a b q ⟨_, e1⟩ ⟨_, e2⟩
 have e := e1.symm.trans e2
 exact Prod.ext (Z8y (congrArg (fun q : Res => pC ((pT (pA q.1)).getD 0 .junk)) e)) (Z6I (congrArg (fun q : Res => pC ((pT (pA q.1)).getD 1 .junk)) e))
abbrev Z2K  : (Bool) → Res → Prop := fun r q => ∃ (ex : List Row), q = ((bv r), ex)
theorem Za5  : ∀ a b q, Z2K  a q → Z2K  b q → a = b := by
 rintro a b q ⟨_, e1⟩ ⟨_, e2⟩
 have e := e1.symm.trans e2
 exact congrArg (fun q : Res => pB (pA q.1)) e
abbrev Z1A  : (Bool) → Res → Prop := fun r q => ∃ (ex : List Row), q = ((bv r), ex)
theorem Z6L  : ∀ a b q, Z1A  a q → Z1A  b q → a = b := by
 rintro a b q ⟨_, e1⟩ ⟨_, e2⟩
 have e := e1.symm.trans e2
 exact congrArg (fun q : Res => pB (pA q.1)) e
abbrev Z1q  : (Bool) → Res → Prop := fun r q => ∃ (ex : List Row), q = ((bv r), ex)
theorem Z6x  : ∀ a b q, Z1q  a q → Z1q  b q → a = b := by
 rintro a b q ⟨_, e1⟩ ⟨_, e2⟩
 have e := e1.symm.trans e2
 exact congrArg (fun q : Res => pB (pA q.1)) e
abbrev Z1c  : (Bool) → Res → Prop := fun r q => ∃ (ex : List Row), q = ((bv r), ex)
theorem Z8B  : ∀ a b q, Z1c  a q → Z1c  b q → a = b := by
 rintro a b q ⟨_, e1⟩ ⟨_, e2⟩
 have e := e1.symm.trans e2
 exact congrArg (fun q : Res => pB (pA q.1)) e
noncomputable def Z56 (x0 : ByteArray) : Option (Bool) := pick fun r => RRun (Z1c) (EE 4 [(.p (.v (.string x0)))] []) r
theorem Z8q (x0 : ByteArray) : Sim (Z1c) (Z56 x0) (EE 4 [(.p (.v (.string x0)))] []) := fun _ h => pick_to h
noncomputable def Z51  : Option (Bool) := pick fun r => RRun (Z2K) (EE 15 [] []) r
theorem Z9N  : Sim (Z2K) (Z51) (EE 15 [] []) := fun _ h => pick_to h
noncomputable def Z3E (x0 : ByteArray) : Option (ZC × Zi) := pick fun r => RRun (Z2d) (EE 16 [(.p (.v (.string x0)))] []) r
theorem Z47 (x0 : ByteArray) : Sim (Z2d) (Z3E x0) (EE 16 [(.p (.v (.string x0)))] []) := fun _ h => pick_to h
noncomputable def Z13 (x1 : ByteArray) (zl : List Int) (zp : Int) : Option (Bool × Int) := pick fun r => ∀ (z6 : Int) (zd : Int) (zh : List Zr) (z1 : Int) (z2 : Int) (zn : Own) (zb : Own) (zu : okApp zb = true), RRun (Z3h zl z6 zd zh z1 z2 zn zb) (EE 27 [(.ptr 0 0), (.p (.v (.string x1)))] [(Zj (Zk.mk zl zp z6 zd zh (Zi.mk z1 z2)) zn zb)]) r
theorem Z18 (x1 : ByteArray) (zl : List Int) (zp : Int) (z6 : Int) (zd : Int) (zh : List Zr) (z1 : Int) (z2 : Int) (zn : Own) (zb : Own) (zu : okApp zb = true) : Sim (Z3h zl z6 zd zh z1 z2 zn zb) (Z13 x1 zl zp) (EE 27 [(.ptr 0 0), (.p (.v (.string x1)))] [(Zj (Zk.mk zl zp z6 zd zh (Zi.mk z1 z2)) zn zb)]) := fun _ h => pick_to h z6 zd zh z1 z2 zn zb zu
noncomputable def Z2J (zl : List Int) (zp : Int) (z6 : Int) (zd : Int) (zh : List Zr) (z1 : Int) (z2 : Int) : Option (Z3 × Int × Int × Int × (List Zr) × Int × Int) := pick fun r => ∀ (zn : Own) (zb : Own) (zu : okApp zb = true), RRun (Z2k zl zn) (EE 28 [(.ptr 0 0)] [(Zj (Zk.mk zl zp z6 zd zh (Zi.mk z1 z2)) zn zb)]) r
theorem Z85 (zl : List Int) (zp : Int) (z6 : Int) (zd : Int) (zh : List Zr) (z1 : Int) (z2 : Int) (zn : Own) (zb : Own) (zu : okApp zb = true) : Sim (Z2k zl zn) (Z2J zl zp z6 zd zh z1 z2) (EE 28 [(.ptr 0 0)] [(Zj (Zk.mk zl zp z6 zd zh (Zi.mk z1 z2)) zn zb)]) := fun _ h => pick_to h zn zb zu
noncomputable def Z4d (zl : List Int) (zp : Int) (z6 : Int) (zd : Int) (zh : List Zr) (z1 : Int) (z2 : Int) : Option (Z3 × Int × Int × Int × (List Zr) × Int × Int) := pick fun r => ∀ (zn : Own) (zb : Own) (zu : okApp zb = true), RRun (Z27 zl zn) (EE 35 [(.ptr 0 0)] [(Zj (Zk.mk zl zp z6 zd zh (Zi.mk z1 z2)) zn zb)]) r
theorem Z89 (zl : List Int) (zp : Int) (z6 : Int) (zd : Int) (zh : List Zr) (z1 : Int) (z2 : Int) (zn : Own) (zb : Own) (zu : okApp zb = true) : Sim (Z27 zl zn) (Z4d zl zp z6 zd zh z1 z2) (EE 35 [(.ptr 0 0)] [(Zj (Zk.mk zl zp z6 zd zh (Zi.mk z1 z2)) zn zb)]) := fun _ h => pick_to h zn zb zu
noncomputable def Z3t (x3 : List Z3) (zl : List Int) (zp : Int) (z6 : Int) (zd : Int) (zh : List Zr) (z1 : Int) (z2 : Int) : Option (Z3 × Int × Int × Int × (List Zr) × Int × Int) := pick fun r => ∀ (b1 : Z3) (ox3 : Own) (zn : Own) (zb : Own) (zB : Own) (zy : Own) (hox3 : okApp ox3 = true) (zu : okApp zb = true) (zQ : okApp zB = true) (zK : okApp zy = true), RRun (Z27 zl zn) (Zbh 1 (.ptr 0 0) (.ptr 1 0) (.p (.lst ox3 (x3.map ZI))) [(Zj (Zk.mk zl zp z6 zd zh (Zi.mk z1 z2)) zn zb), (Zq b1 zB zy)]) r
theorem Z6Y (x3 : List Z3) (zl : List Int) (zp : Int) (z6 : Int) (zd : Int) (zh : List Zr) (z1 : Int) (z2 : Int) (b1 : Z3) (ox3 : Own) (zn : Own) (zb : Own) (zB : Own) (zy : Own) (hox3 : okApp ox3 = true) (zu : okApp zb = true) (zQ : okApp zB = true) (zK : okApp zy = true) : Sim (Z27 zl zn) (Z3t x3 zl zp z6 zd zh z1 z2) (Zbh 1 (.ptr 0 0) (.ptr 1 0) (.p (.lst ox3 (x3.map ZI))) [(Zj (Zk.mk zl zp z6 zd zh (Zi.mk z1 z2)) zn zb), (Zq b1 zB zy)]) := fun _ h => pick_to h b1 ox3 zn zb zB zy hox3 zu zQ zK
noncomputable def Z1C (b0 : Zk) : Option (Int) := pick fun r => ∀ (zn : Own) (zb : Own) (zu : okApp zb = true), RRun (Z3Y b0 zn zb) (EE 41 [(.ptr 0 0)] [(Zj b0 zn zb)]) r
theorem Z1G (b0 : Zk) (zn : Own) (zb : Own) (zu : okApp zb = true) : Sim (Z3Y b0 zn zb) (Z1C b0) (EE 41 [(.ptr 0 0)] [(Zj b0 zn zb)]) := fun _ h => pick_to h zn zb zu
noncomputable def Z7D (x0 : List Int) (x1 : Int) : Option (Int × Int) := pick fun r => ∀ (ox0 : Own), RRun (Z4X) (EE 45 [(.p (.lst ox0 (x0.map (eI .u8)))), (iv x1)] []) r
theorem Zbq (x0 : List Int) (x1 : Int) (ox0 : Own) : Sim (Z4X) (Z7D x0 x1) (EE 45 [(.p (.lst ox0 (x0.map (eI .u8)))), (iv x1)] []) := fun _ h => pick_to h ox0
noncomputable def Z5s (x0 : List Int) : Option (Int × Int) := pick fun r => ∀ (ox0 : Own), RRun (Z4r) (EE 53 [(.p (.lst ox0 (x0.map (eI .u8))))] []) r
theorem Z8V (x0 : List Int) (ox0 : Own) : Sim (Z4r) (Z5s x0) (EE 53 [(.p (.lst ox0 (x0.map (eI .u8))))] []) := fun _ h => pick_to h ox0
noncomputable def Z67 (x0 : Int) (x1 : List Z3) : Option (Z3) := pick fun r => ∀ (ox1 : Own), RRun (Z5w) (EE 36 [(iv x0), (.p (.lst ox1 (x1.map ZI)))] []) r
theorem Z9s (x0 : Int) (x1 : List Z3) (ox1 : Own) : Sim (Z5w) (Z67 x0 x1) (EE 36 [(iv x0), (.p (.lst ox1 (x1.map ZI)))] []) := fun _ h => pick_to h ox1
noncomputable def Z5G (zl : List Int) (zp : Int) (z6 : Int) (zd : Int) (zh : List Zr) (z1 : Int) (z2 : Int) : Option (Z3 × Bool × Int × Int × Int × (List Zr) × Int × Int) := pick fun r => ∀ (zn : Own) (zb : Own) (zu : okApp zb = true), RRun (Z3W zl zn) (EE 42 [(.ptr 0 0)] [(Zj (Zk.mk zl zp z6 zd zh (Zi.mk z1 z2)) zn zb)]) r
theorem ZaL (zl : List Int) (zp : Int) (z6 : Int) (zd : Int) (zh : List Zr) (z1 : Int) (z2 : Int) (zn : Own) (zb : Own) (zu : okApp zb = true) : Sim (Z3W zl zn) (Z5G zl zp z6 zd zh z1 z2) (EE 42 [(.ptr 0 0)] [(Zj (Zk.mk zl zp z6 zd zh (Zi.mk z1 z2)) zn zb)]) := fun _ h => pick_to h zn zb zu
noncomputable def Z20 (zl : List Int) (zp : Int) : Option (Int × Int) := pick fun r => ∀ (z6 : Int) (zd : Int) (zh : List Zr) (z1 : Int) (z2 : Int) (zn : Own) (zb : Own) (zu : okApp zb = true), RRun (Z4K zl z6 zd zh z1 z2 zn zb) (EE 46 [(.ptr 0 0)] [(Zj (Zk.mk zl zp z6 zd zh (Zi.mk z1 z2)) zn zb)]) r
theorem Z2l (zl : List Int) (zp : Int) (z6 : Int) (zd : Int) (zh : List Zr) (z1 : Int) (z2 : Int) (zn : Own) (zb : Own) (zu : okApp zb = true) : Sim (Z4K zl z6 zd zh z1 z2 zn zb) (Z20 zl zp) (EE 46 [(.ptr 0 0)] [(Zj (Zk.mk zl zp z6 zd zh (Zi.mk z1 z2)) zn zb)]) := fun _ h => pick_to h z6 zd zh z1 z2 zn zb zu
noncomputable def Z1w (x0 : Int) : Option (Z7) := pick fun r => RRun (Z7J) (EE 48 [(iv x0)] []) r
theorem Z1p (x0 : Int) : Sim (Z7J) (Z1w x0) (EE 48 [(iv x0)] []) := fun _ h => pick_to h
noncomputable def Z2z (x0 : Bool) (x1 : List Z7) : Option (Z3) := pick fun r => ∀ (ox1 : Own), RRun (Z6u) (EE 47 [(bv x0), (.p (.lst ox1 (x1.map Zs)))] []) r
theorem Z2I (x0 : Bool) (x1 : List Z7) (ox1 : Own) : Sim (Z6u) (Z2z x0 x1) (EE 47 [(bv x0), (.p (.lst ox1 (x1.map Zs)))] []) := fun _ h => pick_to h ox1
noncomputable def Z8n (x0 : List Z7) : Option ((List Z7) × Int) := pick fun r => ∀ (ox0 : Own), RRun (Z69) (EE 54 [(.p (.lst ox0 (x0.map Zs)))] []) r
theorem Zcu (x0 : List Z7) (ox0 : Own) : Sim (Z69) (Z8n x0) (EE 54 [(.p (.lst ox0 (x0.map Zs)))] []) := fun _ h => pick_to h ox0
noncomputable def Z3e (x0 : List Z7) : Option (Bool) := pick fun r => ∀ (ox0 : Own), RRun (Z2G) (EE 65 [(.p (.lst ox0 (x0.map Zs))), (.clo 66 [] [])] []) r
theorem Z7y (x0 : List Z7) (ox0 : Own) : Sim (Z2G) (Z3e x0) (EE 65 [(.p (.lst ox0 (x0.map Zs))), (.clo 66 [] [])] []) := fun _ h => pick_to h ox0
noncomputable def Z3H (x0 : List Z7) : Option (Int) := pick fun r => ∀ (ox0 : Own), RRun (Z1l) (EE 73 [(.p (.lst ox0 (x0.map Zs))), (.clo 66 [] [])] []) r
theorem Z8c (x0 : List Z7) (ox0 : Own) : Sim (Z1l) (Z3H x0) (EE 73 [(.p (.lst ox0 (x0.map Zs))), (.clo 66 [] [])] []) := fun _ h => pick_to h ox0
noncomputable def Z2B (x0 : List Z7) (x7 : Int) (x8 : Int) : Option (Int) := pick fun r => ∀ (ox0 : Own), RRun (Z1l) (Zbf 0 (.p (.lst ox0 (x0.map Zs))) (.clo 66 [] []) (iv x7) (iv x8) []) r
theorem Z5k (x0 : List Z7) (x7 : Int) (x8 : Int) (ox0 : Own) : Sim (Z1l) (Z2B x0 x7 x8) (Zbf 0 (.p (.lst ox0 (x0.map Zs))) (.clo 66 [] []) (iv x7) (iv x8) []) := fun _ h => pick_to h ox0
noncomputable def Z75 (x0 : Z7) : Option (Bool) := pick fun r => RRun (Z6h) (EE 66 [(.p (.agg (ZG x0)))] []) r
theorem Zcf (x0 : Z7) : Sim (Z6h) (Z75 x0) (EE 66 [(.p (.agg (ZG x0)))] []) := fun _ h => pick_to h
noncomputable def Z4J (x0 : Z7) : Option (Bool) := pick fun r => RRun (Z4L) (EE 67 [(.p (.agg (ZG x0)))] []) r
theorem Z7H (x0 : Z7) : Sim (Z4L) (Z4J x0) (EE 67 [(.p (.agg (ZG x0)))] []) := fun _ h => pick_to h
noncomputable def Z7e (x0 : List Z7) : Option ((List Z7)) := pick fun r => ∀ (ox0 : Own), RRun (Z79) (EE 68 [(.p (.lst ox0 (x0.map Zs)))] []) r
theorem Z9t (x0 : List Z7) (ox0 : Own) : Sim (Z79) (Z7e x0) (EE 68 [(.p (.lst ox0 (x0.map Zs)))] []) := fun _ h => pick_to h ox0
noncomputable def Z5O (x0 : List Z7) : Option ((List Z7) × Int) := pick fun r => ∀ (ox0 : Own), RRun (Z5g) (EE 55 [(.p (.lst ox0 (x0.map Zs)))] []) r
theorem Z98 (x0 : List Z7) (ox0 : Own) : Sim (Z5g) (Z5O x0) (EE 55 [(.p (.lst ox0 (x0.map Zs)))] []) := fun _ h => pick_to h ox0
noncomputable def Z4j (x0 : List Z7) : Option (Bool) := pick fun r => ∀ (ox0 : Own), RRun (Z1N) (EE 69 [(.p (.lst ox0 (x0.map Zs)))] []) r
theorem Z6a (x0 : List Z7) (ox0 : Own) : Sim (Z1N) (Z4j x0) (EE 69 [(.p (.lst ox0 (x0.map Zs)))] []) := fun _ h => pick_to h ox0
noncomputable def Z4c (x3 : Int) (x6 : List Z7) (x7 : Int) (x8 : Int) : Option (Bool) := pick fun r => ∀ (ox6 : Own), RRun (Z1N) (ZaW 0 (iv x3) (.p (.lst ox6 (x6.map Zs))) (iv x7) (iv x8) []) r
theorem Z6Z (x3 : Int) (x6 : List Z7) (x7 : Int) (x8 : Int) (ox6 : Own) : Sim (Z1N) (Z4c x3 x6 x7 x8) (ZaW 0 (iv x3) (.p (.lst ox6 (x6.map Zs))) (iv x7) (iv x8) []) := fun _ h => pick_to h ox6
noncomputable def Z6w (x0 : List Z7) : Option ((List Z7)) := pick fun r => ∀ (ox0 : Own), RRun (Z2c) (EE 70 [(.p (.lst ox0 (x0.map Zs)))] []) r
theorem ZbV (x0 : List Z7) (ox0 : Own) : Sim (Z2c) (Z6w x0) (EE 70 [(.p (.lst ox0 (x0.map Zs)))] []) := fun _ h => pick_to h ox0
noncomputable def Z57 (x3 : List Z7) (x4 : Int) (x7 : List Z7) (x8 : Int) (x9 : Int) : Option ((List Z7)) := pick fun r => ∀ (ox3 : Own) (ox7 : Own) (hox3 : okApp ox3 = true), RRun (Z2c) (ZaP 0 (.p (.lst ox3 (x3.map Zs))) (iv x4) (.p (.lst ox7 (x7.map Zs))) (iv x8) (iv x9) []) r
theorem Z88 (x3 : List Z7) (x4 : Int) (x7 : List Z7) (x8 : Int) (x9 : Int) (ox3 : Own) (ox7 : Own) (hox3 : okApp ox3 = true) : Sim (Z2c) (Z57 x3 x4 x7 x8 x9) (ZaP 0 (.p (.lst ox3 (x3.map Zs))) (iv x4) (.p (.lst ox7 (x7.map Zs))) (iv x8) (iv x9) []) := fun _ h => pick_to h ox3 ox7 hox3
noncomputable def Z2Q (x1 : Int) (zl : List Int) (zp : Int) (z6 : Int) (zd : Int) (zh : List Zr) (z1 : Int) (z2 : Int) : Option (Z3 × Int × (List Zr) × Int × Int) := pick fun r => ∀ (zn : Own) (zb : Own) (zu : okApp zb = true), RRun (Z2x zl z6 zd zn) (EE 49 [(.ptr 0 0), (iv x1)] [(Zj (Zk.mk zl zp z6 zd zh (Zi.mk z1 z2)) zn zb)]) r
theorem Zab (x1 : Int) (zl : List Int) (zp : Int) (z6 : Int) (zd : Int) (zh : List Zr) (z1 : Int) (z2 : Int) (zn : Own) (zb : Own) (zu : okApp zb = true) : Sim (Z2x zl z6 zd zn) (Z2Q x1 zl zp z6 zd zh z1 z2) (EE 49 [(.ptr 0 0), (iv x1)] [(Zj (Zk.mk zl zp z6 zd zh (Zi.mk z1 z2)) zn zb)]) := fun _ h => pick_to h zn zb zu
noncomputable def ZT (x1 : Int) (x2 : Int) (zl : List Int) (z1 : Int) (z2 : Int) : Option (Int × Int × Int) := pick fun r => ∀ (zp : Int) (z6 : Int) (zd : Int) (zh : List Zr) (zn : Own) (zb : Own) (zu : okApp zb = true), RRun (Z3Z zl z6 zd zh zn zb) (EE 29 [(.ptr 0 0), (iv x1), (iv x2)] [(Zj (Zk.mk zl zp z6 zd zh (Zi.mk z1 z2)) zn zb)]) r
theorem ZW (x1 : Int) (x2 : Int) (zl : List Int) (zp : Int) (z6 : Int) (zd : Int) (zh : List Zr) (z1 : Int) (z2 : Int) (zn : Own) (zb : Own) (zu : okApp zb = true) : Sim (Z3Z zl z6 zd zh zn zb) (ZT x1 x2 zl z1 z2) (EE 29 [(.ptr 0 0), (iv x1), (iv x2)] [(Zj (Zk.mk zl zp z6 zd zh (Zi.mk z1 z2)) zn zb)]) := fun _ h => pick_to h zp z6 zd zh zn zb zu
noncomputable def Z4G (x0 : Int) : Option ((Own × (List Z7))) := pick fun r => RRun (Z4F) (EE 56 [(iv x0)] []) r
theorem Z6l (x0 : Int) : Sim (Z4F) (Z4G x0) (EE 56 [(iv x0)] []) := fun _ h => pick_to h
noncomputable def Z4B (x1 : Int) (x2 : Int) (zl : List Int) (zp : Int) (z6 : Int) (zd : Int) (zh : List Zr) (z1 : Int) (z2 : Int) : Option (Int × Int × Int × Int) := pick fun r => ∀ (zn : Own) (zb : Own) (zu : okApp zb = true), RRun (Z30 zl z6 zd zh zn zb) (EE 57 [(.ptr 0 0), (iv x1), (iv x2)] [(Zj (Zk.mk zl zp z6 zd zh (Zi.mk z1 z2)) zn zb)]) r
theorem Z7r (x1 : Int) (x2 : Int) (zl : List Int) (zp : Int) (z6 : Int) (zd : Int) (zh : List Zr) (z1 : Int) (z2 : Int) (zn : Own) (zb : Own) (zu : okApp zb = true) : Sim (Z30 zl z6 zd zh zn zb) (Z4B x1 x2 zl zp z6 zd zh z1 z2) (EE 57 [(.ptr 0 0), (iv x1), (iv x2)] [(Zj (Zk.mk zl zp z6 zd zh (Zi.mk z1 z2)) zn zb)]) := fun _ h => pick_to h zn zb zu
noncomputable def Z7G (x0 : Int) : Option (Int) := pick fun r => RRun (Z4W) (EE 71 [(iv x0)] []) r
theorem Zba (x0 : Int) : Sim (Z4W) (Z7G x0) (EE 71 [(iv x0)] []) := fun _ h => pick_to h
noncomputable def Z5N (x0 : List Z7) (x1 : Int) : Option (Bool) := pick fun r => ∀ (ox0 : Own), RRun (Z5P) (EE 19 [(.p (.lst ox0 (x0.map Zs))), (iv x1)] []) r
theorem ZbP (x0 : List Z7) (x1 : Int) (ox0 : Own) : Sim (Z5P) (Z5N x0 x1) (EE 19 [(.p (.lst ox0 (x0.map Zs))), (iv x1)] []) := fun _ h => pick_to h ox0
noncomputable def Z39 (x0 : List Z7) (zZ : Int) : Option (Bool) := pick fun r => ∀ (ox0 : Own), RRun (Z2D zZ) (EE 30 [(.p (.lst ox0 (x0.map Zs))), (.clo 31 [] [(.ptr 0 0)])] [[(iv zZ)]]) r
theorem Z7A (x0 : List Z7) (zZ : Int) (ox0 : Own) : Sim (Z2D zZ) (Z39 x0 zZ) (EE 30 [(.p (.lst ox0 (x0.map Zs))), (.clo 31 [] [(.ptr 0 0)])] [[(iv zZ)]]) := fun _ h => pick_to h ox0
noncomputable def Z3J (x0 : List Z7) (zZ : Int) : Option (Int) := pick fun r => ∀ (ox0 : Own), RRun (Z1n zZ) (EE 37 [(.p (.lst ox0 (x0.map Zs))), (.clo 31 [] [(.ptr 0 0)])] [[(iv zZ)]]) r
theorem Z8e (x0 : List Z7) (zZ : Int) (ox0 : Own) : Sim (Z1n zZ) (Z3J x0 zZ) (EE 37 [(.p (.lst ox0 (x0.map Zs))), (.clo 31 [] [(.ptr 0 0)])] [[(iv zZ)]]) := fun _ h => pick_to h ox0
noncomputable def Z2C (x0 : List Z7) (x7 : Int) (x8 : Int) (zZ : Int) : Option (Int) := pick fun r => ∀ (ox0 : Own), RRun (Z1n zZ) (ZaR 1 (.p (.lst ox0 (x0.map Zs))) (.clo 31 [] [(.ptr 0 0)]) (iv x7) (iv x8) [[(iv zZ)]]) r
theorem Z5j (x0 : List Z7) (x7 : Int) (x8 : Int) (zZ : Int) (ox0 : Own) : Sim (Z1n zZ) (Z2C x0 x7 x8 zZ) (ZaR 1 (.p (.lst ox0 (x0.map Zs))) (.clo 31 [] [(.ptr 0 0)]) (iv x7) (iv x8) [[(iv zZ)]]) := fun _ h => pick_to h ox0
noncomputable def Z60 (x0 : Z7) (zZ : Int) : Option (Bool) := pick fun r => RRun (Z5l zZ) (EE 31 [(.p (.agg (ZG x0))), (.ptr 0 0)] [[(iv zZ)]]) r
theorem Zbu (x0 : Z7) (zZ : Int) : Sim (Z5l zZ) (Z60 x0 zZ) (EE 31 [(.p (.agg (ZG x0))), (.ptr 0 0)] [[(iv zZ)]]) := fun _ h => pick_to h
noncomputable def Z5p (x1 : Int) (zl : List Int) (zp : Int) (z6 : Int) (zd : Int) (zh : List Zr) (z1 : Int) (z2 : Int) : Option (Z3 × Int × Int × Int) := pick fun r => ∀ (zn : Own) (zb : Own) (zu : okApp zb = true), RRun (Z16 zl z6 zd zh zn zb) (EE 50 [(.ptr 0 0), (iv x1)] [(Zj (Zk.mk zl zp z6 zd zh (Zi.mk z1 z2)) zn zb)]) r
theorem Zac (x1 : Int) (zl : List Int) (zp : Int) (z6 : Int) (zd : Int) (zh : List Zr) (z1 : Int) (z2 : Int) (zn : Own) (zb : Own) (zu : okApp zb = true) : Sim (Z16 zl z6 zd zh zn zb) (Z5p x1 zl zp z6 zd zh z1 z2) (EE 50 [(.ptr 0 0), (iv x1)] [(Zj (Zk.mk zl zp z6 zd zh (Zi.mk z1 z2)) zn zb)]) := fun _ h => pick_to h zn zb zu
noncomputable def Z2H (x1 : Int) (x5 : Bool) (x8 : Int) (zl : List Int) (zp : Int) (z6 : Int) (zd : Int) (zh : List Zr) (z1 : Int) (z2 : Int) (z10 : List Z7) : Option (Z3 × Int × Int × Int) := pick fun r => ∀ (b1 : Z3) (zn : Own) (zb : Own) (zB : Own) (zy : Own) (z1a : Own) (zu : okApp zb = true) (zQ : okApp zB = true) (zK : okApp zy = true), RRun (Z16 zl z6 zd zh zn zb) (Zbm 1 (.ptr 0 0) (iv x1) (.ptr 1 0) (bv x5) (.ptr 2 0) (.clo 58 [] [(.ptr 2 0)]) (iv x8) [(Zj (Zk.mk zl zp z6 zd zh (Zi.mk z1 z2)) zn zb), (Zq b1 zB zy), [(.p (.lst z1a (z10.map Zs)))]]) r
theorem Z6q (x1 : Int) (x5 : Bool) (x8 : Int) (zl : List Int) (zp : Int) (z6 : Int) (zd : Int) (zh : List Zr) (z1 : Int) (z2 : Int) (b1 : Z3) (z10 : List Z7) (zn : Own) (zb : Own) (zB : Own) (zy : Own) (z1a : Own) (zu : okApp zb = true) (zQ : okApp zB = true) (zK : okApp zy = true) : Sim (Z16 zl z6 zd zh zn zb) (Z2H x1 x5 x8 zl zp z6 zd zh z1 z2 z10) (Zbm 1 (.ptr 0 0) (iv x1) (.ptr 1 0) (bv x5) (.ptr 2 0) (.clo 58 [] [(.ptr 2 0)]) (iv x8) [(Zj (Zk.mk zl zp z6 zd zh (Zi.mk z1 z2)) zn zb), (Zq b1 zB zy), [(.p (.lst z1a (z10.map Zs)))]]) := fun _ h => pick_to h b1 zn zb zB zy z1a zu zQ zK
noncomputable def Z3s (zl : List Int) (zp : Int) (z6 : Int) (zd : Int) (zh : List Zr) (z1 : Int) (z2 : Int) : Option (Int × (Own × (List Z7)) × Bool × Int × Int × Int) := pick fun r => ∀ (zn : Own) (zb : Own) (zu : okApp zb = true), RRun (Z2w zl z6 zd zh zn zb) (EE 60 [(.ptr 0 0)] [(Zj (Zk.mk zl zp z6 zd zh (Zi.mk z1 z2)) zn zb)]) r
theorem Z6R (zl : List Int) (zp : Int) (z6 : Int) (zd : Int) (zh : List Zr) (z1 : Int) (z2 : Int) (zn : Own) (zb : Own) (zu : okApp zb = true) : Sim (Z2w zl z6 zd zh zn zb) (Z3s zl zp z6 zd zh z1 z2) (EE 60 [(.ptr 0 0)] [(Zj (Zk.mk zl zp z6 zd zh (Zi.mk z1 z2)) zn zb)]) := fun _ h => pick_to h zn zb zu
noncomputable def Z41 (x0 : List Z7) (zZ : List Z7) : Option ((List Z7)) := pick fun r => ∀ (ox0 : Own) (z91 : Own), RRun (Z40) (EE 58 [(.p (.lst ox0 (x0.map Zs))), (.ptr 0 0)] [[(.p (.lst z91 (zZ.map Zs)))]]) r
theorem Z6D (x0 : List Z7) (zZ : List Z7) (ox0 : Own) (z91 : Own) : Sim (Z40) (Z41 x0 zZ) (EE 58 [(.p (.lst ox0 (x0.map Zs))), (.ptr 0 0)] [[(.p (.lst z91 (zZ.map Zs)))]]) := fun _ h => pick_to h ox0 z91
noncomputable def Z77 (x0 : List Z7) (x1 : List Z7) : Option ((List Z7) × Int) := pick fun r => ∀ (ox0 : Own) (ox1 : Own), RRun (Z4Q) (EE 59 [(.p (.lst ox0 (x0.map Zs))), (.p (.lst ox1 (x1.map Zs)))] []) r
theorem Zch (x0 : List Z7) (x1 : List Z7) (ox0 : Own) (ox1 : Own) : Sim (Z4Q) (Z77 x0 x1) (EE 59 [(.p (.lst ox0 (x0.map Zs))), (.p (.lst ox1 (x1.map Zs)))] []) := fun _ h => pick_to h ox0 ox1
noncomputable def Z6i (x0 : List (List Z7)) : Option ((List Z7)) := pick fun r => ∀ (ox0 : Own), RRun (Z58) (EE 72 [(.p (.lst ox0 (x0.map (eL Zs))))] []) r
theorem Z9Z (x0 : List (List Z7)) (ox0 : Own) : Sim (Z58) (Z6i x0) (EE 72 [(.p (.lst ox0 (x0.map (eL Zs))))] []) := fun _ h => pick_to h ox0
noncomputable def Z2Y (x1 : Int) (zl : List Int) (zp : Int) (z6 : Int) (zd : Int) (zh : List Zr) (z1 : Int) (z2 : Int) : Option (Z3 × Bool × Int × Int × Int × (List Zr) × Int × Int) := pick fun r => ∀ (zn : Own) (zb : Own) (zu : okApp zb = true), RRun (Z25 zl zn) (EE 51 [(.ptr 0 0), (iv x1)] [(Zj (Zk.mk zl zp z6 zd zh (Zi.mk z1 z2)) zn zb)]) r
theorem Zai (x1 : Int) (zl : List Int) (zp : Int) (z6 : Int) (zd : Int) (zh : List Zr) (z1 : Int) (z2 : Int) (zn : Own) (zb : Own) (zu : okApp zb = true) : Sim (Z25 zl zn) (Z2Y x1 zl zp z6 zd zh z1 z2) (EE 51 [(.ptr 0 0), (iv x1)] [(Zj (Zk.mk zl zp z6 zd zh (Zi.mk z1 z2)) zn zb)]) := fun _ h => pick_to h zn zb zu
noncomputable def Z7P  : Option ((List ByteArray)) := pick fun r => RRun (Z6o) (EE 62 [] []) r
theorem Zcj  : Sim (Z6o) (Z7P) (EE 62 [] []) := fun _ h => pick_to h
noncomputable def Z3x (x0 : List ByteArray) (zl : List Int) (zp : Int) : Option (Int × Int) := pick fun r => ∀ (z6 : Int) (zd : Int) (zh : List Zr) (z1 : Int) (z2 : Int) (ox0 : Own) (zn : Own) (zb : Own) (zu : okApp zb = true), RRun (Z1h zl z6 zd zh z1 z2 zn zb) (EE 61 [(.p (.lst ox0 (x0.map eS))), (.clo 27 [(.ptr 0 0)] [])] [(Zj (Zk.mk zl zp z6 zd zh (Zi.mk z1 z2)) zn zb)]) r
theorem Z7W (x0 : List ByteArray) (zl : List Int) (zp : Int) (z6 : Int) (zd : Int) (zh : List Zr) (z1 : Int) (z2 : Int) (ox0 : Own) (zn : Own) (zb : Own) (zu : okApp zb = true) : Sim (Z1h zl z6 zd zh z1 z2 zn zb) (Z3x x0 zl zp) (EE 61 [(.p (.lst ox0 (x0.map eS))), (.clo 27 [(.ptr 0 0)] [])] [(Zj (Zk.mk zl zp z6 zd zh (Zi.mk z1 z2)) zn zb)]) := fun _ h => pick_to h z6 zd zh z1 z2 ox0 zn zb zu
noncomputable def Z1r (x0 : List ByteArray) (x7 : Int) (x8 : Int) (zl : List Int) (zp : Int) : Option (Int × Int) := pick fun r => ∀ (z6 : Int) (zd : Int) (zh : List Zr) (z1 : Int) (z2 : Int) (ox0 : Own) (zn : Own) (zb : Own) (zu : okApp zb = true), RRun (Z1h zl z6 zd zh z1 z2 zn zb) (Zbi 1 (.p (.lst ox0 (x0.map eS))) (.clo 27 [(.ptr 0 0)] []) (iv x7) (iv x8) [(Zj (Zk.mk zl zp z6 zd zh (Zi.mk z1 z2)) zn zb)]) r
theorem Z5e (x0 : List ByteArray) (x7 : Int) (x8 : Int) (zl : List Int) (zp : Int) (z6 : Int) (zd : Int) (zh : List Zr) (z1 : Int) (z2 : Int) (ox0 : Own) (zn : Own) (zb : Own) (zu : okApp zb = true) : Sim (Z1h zl z6 zd zh z1 z2 zn zb) (Z1r x0 x7 x8 zl zp) (Zbi 1 (.p (.lst ox0 (x0.map eS))) (.clo 27 [(.ptr 0 0)] []) (iv x7) (iv x8) [(Zj (Zk.mk zl zp z6 zd zh (Zi.mk z1 z2)) zn zb)]) := fun _ h => pick_to h z6 zd zh z1 z2 ox0 zn zb zu
noncomputable def Z4f (x1 : Z3) (x2 : Bool) (zl : List Int) (zp : Int) (z6 : Int) (zd : Int) (zh : List Zr) (z1 : Int) (z2 : Int) : Option (Z3 × Int × Int × Int) := pick fun r => ∀ (z1s : Own) (z1f : Own) (zn : Own) (zb : Own) (zu : okApp zb = true), RRun (Z2v zl z6 zd zh zn zb) (EE 43 [(.ptr 0 0), (.p (.agg (ZE x1 z1s z1f))), (bv x2)] [(Zj (Zk.mk zl zp z6 zd zh (Zi.mk z1 z2)) zn zb)]) r
theorem Za9 (x1 : Z3) (x2 : Bool) (zl : List Int) (zp : Int) (z6 : Int) (zd : Int) (zh : List Zr) (z1 : Int) (z2 : Int) (z1s : Own) (z1f : Own) (zn : Own) (zb : Own) (zu : okApp zb = true) : Sim (Z2v zl z6 zd zh zn zb) (Z4f x1 x2 zl zp z6 zd zh z1 z2) (EE 43 [(.ptr 0 0), (.p (.agg (ZE x1 z1s z1f))), (bv x2)] [(Zj (Zk.mk zl zp z6 zd zh (Zi.mk z1 z2)) zn zb)]) := fun _ h => pick_to h z1s z1f zn zb zu
noncomputable def Z4b (x1 : Int) (zl : List Int) (zp : Int) (z6 : Int) (zd : Int) (zh : List Zr) (z1 : Int) (z2 : Int) : Option (Int × Int × Int × Int × Int) := pick fun r => ∀ (zn : Own) (zb : Own) (zu : okApp zb = true), RRun (Z1L zl z6 zd zh zn zb) (EE 52 [(.ptr 0 0), (iv x1)] [(Zj (Zk.mk zl zp z6 zd zh (Zi.mk z1 z2)) zn zb)]) r
theorem Za4 (x1 : Int) (zl : List Int) (zp : Int) (z6 : Int) (zd : Int) (zh : List Zr) (z1 : Int) (z2 : Int) (zn : Own) (zb : Own) (zu : okApp zb = true) : Sim (Z1L zl z6 zd zh zn zb) (Z4b x1 zl zp z6 zd zh z1 z2) (EE 52 [(.ptr 0 0), (iv x1)] [(Zj (Zk.mk zl zp z6 zd zh (Zi.mk z1 z2)) zn zb)]) := fun _ h => pick_to h zn zb zu
noncomputable def Z3r (zl : List Int) (zp : Int) (z6 : Int) (zd : Int) (zh : List Zr) (z1 : Int) (z2 : Int) : Option (Int × Int) := pick fun r => ∀ (zn : Own) (zb : Own) (zu : okApp zb = true), RRun (Z1Y zl z6 zd zh z1 z2 zn zb) (EE 63 [(.ptr 0 0)] [(Zj (Zk.mk zl zp z6 zd zh (Zi.mk z1 z2)) zn zb)]) r
theorem Z6P (zl : List Int) (zp : Int) (z6 : Int) (zd : Int) (zh : List Zr) (z1 : Int) (z2 : Int) (zn : Own) (zb : Own) (zu : okApp zb = true) : Sim (Z1Y zl z6 zd zh z1 z2 zn zb) (Z3r zl zp z6 zd zh z1 z2) (EE 63 [(.ptr 0 0)] [(Zj (Zk.mk zl zp z6 zd zh (Zi.mk z1 z2)) zn zb)]) := fun _ h => pick_to h zn zb zu
noncomputable def Z2q (x3 : Int) (x4 : Int) (zl : List Int) (zp : Int) (z6 : Int) (zd : Int) (zh : List Zr) (z1 : Int) (z2 : Int) : Option (Int × Int) := pick fun r => ∀ (zn : Own) (zb : Own) (zu : okApp zb = true), RRun (Z1Y zl z6 zd zh z1 z2 zn zb) (Zb1 1 (.ptr 0 0) (iv x3) (iv x4) [(Zj (Zk.mk zl zp z6 zd zh (Zi.mk z1 z2)) zn zb)]) r
theorem Z6j (x3 : Int) (x4 : Int) (zl : List Int) (zp : Int) (z6 : Int) (zd : Int) (zh : List Zr) (z1 : Int) (z2 : Int) (zn : Own) (zb : Own) (zu : okApp zb = true) : Sim (Z1Y zl z6 zd zh z1 z2 zn zb) (Z2q x3 x4 zl zp z6 zd zh z1 z2) (Zb1 1 (.ptr 0 0) (iv x3) (iv x4) [(Zj (Zk.mk zl zp z6 zd zh (Zi.mk z1 z2)) zn zb)]) := fun _ h => pick_to h zn zb zu
noncomputable def Z3u (x3 : List Z3) (zl : List Int) (zp : Int) (z6 : Int) (zd : Int) (zh : List Zr) (z1 : Int) (z2 : Int) : Option (Z3 × Int × Int × Int × (List Zr) × Int × Int) := pick fun r => ∀ (b1 : Z3) (ox3 : Own) (zn : Own) (zb : Own) (zB : Own) (zy : Own) (hox3 : okApp ox3 = true) (zu : okApp zb = true) (zQ : okApp zB = true) (zK : okApp zy = true), RRun (Z2k zl zn) (Zbg 1 (.ptr 0 0) (.ptr 1 0) (.p (.lst ox3 (x3.map ZI))) [(Zj (Zk.mk zl zp z6 zd zh (Zi.mk z1 z2)) zn zb), (Zq b1 zB zy)]) r
theorem Z6N (x3 : List Z3) (zl : List Int) (zp : Int) (z6 : Int) (zd : Int) (zh : List Zr) (z1 : Int) (z2 : Int) (b1 : Z3) (ox3 : Own) (zn : Own) (zb : Own) (zB : Own) (zy : Own) (hox3 : okApp ox3 = true) (zu : okApp zb = true) (zQ : okApp zB = true) (zK : okApp zy = true) : Sim (Z2k zl zn) (Z3u x3 zl zp z6 zd zh z1 z2) (Zbg 1 (.ptr 0 0) (.ptr 1 0) (.p (.lst ox3 (x3.map ZI))) [(Zj (Zk.mk zl zp z6 zd zh (Zi.mk z1 z2)) zn zb), (Zq b1 zB zy)]) := fun _ h => pick_to h b1 ox3 zn zb zB zy hox3 zu zQ zK
noncomputable def Z4O (x50 : List Zr) (x51 : Int) (x52 : Int) (z1P : List Int) (zR : Int) (zJ : Int) (zS : Int) (zN : Int) (zU : Int) (zV : Int) (zL : Int) (zP : Int) (zO : List Z7) (zM : List Z3) (z11 : Bool) : Option (ZC × Zi) := pick fun r => ∀ (b0 : ZC) (b1 : Zi) (z1J : Int) (z1x : Int) (z1b : List Zr) (z1o : Int) (ox50 : Own) (zH : Own) (zF : Own) (z2b : Own) (z15 : Own) (zY : Own) (zX : Own) (z1t : okApp zH = true) (z1k : okApp zF = true) (z2n : okApp z15 = true), RRun (Z2d) (Zb6 0 (.ptr 0 0) (.ptr 1 0) (.ptr 2 0) (.ptr 3 0) (.p (.lst ox50 (x50.map Z1y))) (iv x51) (iv x52) [(Zv b0 zH zF), (ZD b1), (Zj (Zk.mk z1P z1J zR z1x z1b (Zi.mk zJ zS)) z2b z15), (Zv (ZC.mk (Z3.mk zN zU zV zL zP zO zM) z1o z11) zY zX)]) r
theorem Z8I (x50 : List Zr) (x51 : Int) (x52 : Int) (b0 : ZC) (b1 : Zi) (z1P : List Int) (z1J : Int) (zR : Int) (z1x : Int) (z1b : List Zr) (zJ : Int) (zS : Int) (zN : Int) (zU : Int) (zV : Int) (zL : Int) (zP : Int) (zO : List Z7) (zM : List Z3) (z1o : Int) (z11 : Bool) (ox50 : Own) (zH : Own) (zF : Own) (z2b : Own) (z15 : Own) (zY : Own) (zX : Own) (z1t : okApp zH = true) (z1k : okApp zF = true) (z2n : okApp z15 = true) : Sim (Z2d) (Z4O x50 x51 x52 z1P zR zJ zS zN zU zV zL zP zO zM z11) (Zb6 0 (.ptr 0 0) (.ptr 1 0) (.ptr 2 0) (.ptr 3 0) (.p (.lst ox50 (x50.map Z1y))) (iv x51) (iv x52) [(Zv b0 zH zF), (ZD b1), (Zj (Zk.mk z1P z1J zR z1x z1b (Zi.mk zJ zS)) z2b z15), (Zv (ZC.mk (Z3.mk zN zU zV zL zP zO zM) z1o z11) zY zX)]) := fun _ h => pick_to h b0 b1 z1J z1x z1b z1o ox50 zH zF z2b z15 zY zX z1t z1k z2n
noncomputable def Z1Z (x0 : Z3) (x1 : Z3) : Option (Bool) := pick fun r => ∀ (z5v : Own) (z4u : Own) (z1s : Own) (z1f : Own), RRun (Z1q) (EE 17 [(.p (.agg (ZE x0 z5v z4u))), (.p (.agg (ZE x1 z1s z1f)))] []) r
theorem Z5i (x0 : Z3) (x1 : Z3) (z5v : Own) (z4u : Own) (z1s : Own) (z1f : Own) : Sim (Z1q) (Z1Z x0 x1) (EE 17 [(.p (.agg (ZE x0 z5v z4u))), (.p (.agg (ZE x1 z1s z1f)))] []) := fun _ h => pick_to h z5v z4u z1s z1f
noncomputable def Z4V (x0 : List Z7) (x1 : List Z7) : Option (Bool) := pick fun r => ∀ (ox0 : Own) (ox1 : Own), RRun (Z1A) (EE 22 [(.p (.lst ox0 (x0.map Zs))), (.p (.lst ox1 (x1.map Zs)))] []) r
theorem Z9P (x0 : List Z7) (x1 : List Z7) (ox0 : Own) (ox1 : Own) : Sim (Z1A) (Z4V x0 x1) (EE 22 [(.p (.lst ox0 (x0.map Zs))), (.p (.lst ox1 (x1.map Zs)))] []) := fun _ h => pick_to h ox0 ox1
noncomputable def Z3m (x1 : List Z7) (x12 : List Z7) (x13 : Int) (x14 : Int) : Option (Bool) := pick fun r => ∀ (ox1 : Own) (ox12 : Own), RRun (Z1A) (Zbk 0 (.p (.lst ox1 (x1.map Zs))) (.p (.lst ox12 (x12.map Zs))) (iv x13) (iv x14) []) r
theorem Z65 (x1 : List Z7) (x12 : List Z7) (x13 : Int) (x14 : Int) (ox1 : Own) (ox12 : Own) : Sim (Z1A) (Z3m x1 x12 x13 x14) (Zbk 0 (.p (.lst ox1 (x1.map Zs))) (.p (.lst ox12 (x12.map Zs))) (iv x13) (iv x14) []) := fun _ h => pick_to h ox1 ox12
noncomputable def Z33 (x58 : List Z3) (x59 : Int) (x60 : Int) (b1 : Z3) : Option (Bool) := pick fun r => ∀ (b0 : Z3) (ox58 : Own) (z2h : Own) (z1K : Own) (zB : Own) (zy : Own), RRun (Z1q) (Zb8 0 (.ptr 1 0) (.p (.lst ox58 (x58.map ZI))) (iv x59) (iv x60) [(Zq b0 z2h z1K), (Zq b1 zB zy)]) r
theorem Z5V (x58 : List Z3) (x59 : Int) (x60 : Int) (b0 : Z3) (b1 : Z3) (ox58 : Own) (z2h : Own) (z1K : Own) (zB : Own) (zy : Own) : Sim (Z1q) (Z33 x58 x59 x60 b1) (Zb8 0 (.ptr 1 0) (.p (.lst ox58 (x58.map ZI))) (iv x59) (iv x60) [(Zq b0 z2h z1K), (Zq b1 zB zy)]) := fun _ h => pick_to h b0 ox58 z2h z1K zB zy
end Go.Proofs.YtadodmjdkphddaaDoor.N2
end
