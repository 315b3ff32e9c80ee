/- The functions, read typed: their types, and what they stand for. No condition. -/
import Derived.Test.YtadodmjdkphddaaDoorSim
import Derived.Test.YtadodmjdkphddaaDoorEqs

section
set_option linter.unusedSimpArgs false
set_option linter.unusedVariables false
namespace Go.Proofs.YtadodmjdkphddaaDoor.N2
open Go Go.Abs
set_option linter.unusedVariables false
set_option maxRecDepth 100000
structure Z8 where
 Lo : Int
 Hi : Int
 deriving Inhabited
def Z5d (a : Z8) : List PV := [(eI .i64) a.Lo, (eI .i64) a.Hi]
def Zv (a : Z8) : PV := .agg (Z5d a)
def ZE (a : Z8) : List PV := [(eI .i64) a.Lo, (eI .i64) a.Hi]
def Z1B (a : Z8) : Row := [.p ((eI .i64) a.Lo), .p ((eI .i64) a.Hi)]
theorem Za7 {a b : Z8} (h : Z5d a = Z5d b) : a = b := by
 have h0 : a.Lo = b.Lo := eI_inj _ _ (congrArg (fun l => l.getD 0 .junk) h)
 have h1 : a.Hi = b.Hi := eI_inj _ _ (congrArg (fun l => l.getD 1 .junk) h)
 cases a; cases b
 cases h0
 cases h1
 rfl
theorem Z2s (a b : Z8) (h : Zv a = Zv b) : a = b := Za7 (congrArg pC h)
structure Z3 where
 Kind : Int
 Lo : Int
 Hi : Int
 Mode : Int
 Ref : Int
 Set : (List Z8)
 Kids : (List Z3)
instance : Inhabited Z3 := ⟨⟨default, default, default, default, default, default, default⟩⟩
mutual
def ZD : Z3 → PV
 | ⟨Kind_, Lo_, Hi_, Mode_, Ref_, Set_, Kids_⟩ => .agg [(eI .i64) Kind_, (eI .i64) Lo_, (eI .i64) Hi_, (eI .i64) Mode_, (eI .i64) Ref_, (eL Zv) Set_, .lst .sh (Z3Y Kids_)]
def Z3Y : List Z3 → List PV
 | [] => []
 | x :: r => ZD x :: Z3Y r
end
theorem Zao : ∀ l, Z3Y l = l.map ZD
 | [] => rfl
 | x :: r => by rw [Z3Y, Zao r]; rfl
def Z1T (a : Z3) : List PV := [(eI .i64) a.Kind, (eI .i64) a.Lo, (eI .i64) a.Hi, (eI .i64) a.Mode, (eI .i64) a.Ref, (eL Zv) a.Set, (eL ZD) a.Kids]
theorem Z3a (a : Z3) : ZD a = .agg (Z1T a) := by
 cases a; rw [ZD, Zao]; rfl
theorem Z40 (a : Z3) : pcells (ZD a) = Z1T a := by rw [Z3a]; rfl
theorem ZbS (a : Z3) : (pcells (ZD a)).length = 7 := by rw [Z3a]; rfl
def Zz (a : Z3) (o0 o1 : Own) : List PV := [(eI .i64) a.Kind, (eI .i64) a.Lo, (eI .i64) a.Hi, (eI .i64) a.Mode, (eI .i64) a.Ref, .lst o0 (a.Set.map Zv), .lst o1 (a.Kids.map ZD)]
def Zo (a : Z3) (o0 o1 : Own) : Row := [.p ((eI .i64) a.Kind), .p ((eI .i64) a.Lo), .p ((eI .i64) a.Hi), .p ((eI .i64) a.Mode), .p ((eI .i64) a.Ref), .p (.lst o0 (a.Set.map Zv)), .p (.lst o1 (a.Kids.map ZD))]
mutual
theorem Zap : ∀ a b : Z3, ZD a = ZD b → a = b
 | ⟨Kind_, Lo_, Hi_, Mode_, Ref_, Set_, Kids_⟩, ⟨Kind_2, Lo_2, Hi_2, Mode_2, Ref_2, Set_2, Kids_2⟩, h => by
  rw [ZD, ZD] at h
  have h0 : Kind_ = Kind_2 := eI_inj _ _ (congrArg (fun l => (pC l).getD 0 .junk) h)
  have h1 : Lo_ = Lo_2 := eI_inj _ _ (congrArg (fun l => (pC l).getD 1 .junk) h)
  have h2 : Hi_ = Hi_2 := eI_inj _ _ (congrArg (fun l => (pC l).getD 2 .junk) h)
  have h3 : Mode_ = Mode_2 := eI_inj _ _ (congrArg (fun l => (pC l).getD 3 .junk) h)
  have h4 : Ref_ = Ref_2 := eI_inj _ _ (congrArg (fun l => (pC l).getD 4 .junk) h)
  have h5 : Set_ = Set_2 := (eL_inj Z2s) _ _ (congrArg (fun l => (pC l).getD 5 .junk) h)
  have h6 : Kids_ = Kids_2 := Za5 Kids_ Kids_2 (congrArg (fun l => pL ((pC l).getD 6 .junk)) h)
  subst h0
  subst h1
  subst h2
  subst h3
  subst h4
  subst h5
  subst h6
  rfl
theorem Za5 : ∀ a b : List Z3, Z3Y a = Z3Y b → a = b
 | [], [], _ => rfl
 | [], _ :: _, h => by simp [Z3Y] at h
 | _ :: _, [], h => by simp [Z3Y] at h
 | x :: r, y :: t, h => by
  simp only [Z3Y, List.cons.injEq] at h
  rw [Zap x y h.1, Za5 r t h.2]
end
theorem Z2G {a b : Z3} (h : Z1T a = Z1T b) : a = b := Zap a b (by rw [Z3a, Z3a, h])
structure ZC where
 Root : Z3
 Groups : Int
 Fold : Bool
 deriving Inhabited
def Z8T (a : ZC) : List PV := [(eI .i64) a.Root.Kind, (eI .i64) a.Root.Lo, (eI .i64) a.Root.Hi, (eI .i64) a.Root.Mode, (eI .i64) a.Root.Ref, (eL Zv) a.Root.Set, (eL ZD) a.Root.Kids, (eI .i64) a.Groups, eB a.Fold]
def Zb0 (a : ZC) : PV := .agg (Z8T a)
def Z1w (a : ZC) (o0 o1 : Own) : List PV := [(eI .i64) a.Root.Kind, (eI .i64) a.Root.Lo, (eI .i64) a.Root.Hi, (eI .i64) a.Root.Mode, (eI .i64) a.Root.Ref, .lst o0 (a.Root.Set.map Zv), .lst o1 (a.Root.Kids.map ZD), (eI .i64) a.Groups, eB a.Fold]
def ZA (a : ZC) (o0 o1 : Own) : Row := [.p ((eI .i64) a.Root.Kind), .p ((eI .i64) a.Root.Lo), .p ((eI .i64) a.Root.Hi), .p ((eI .i64) a.Root.Mode), .p ((eI .i64) a.Root.Ref), .p (.lst o0 (a.Root.Set.map Zv)), .p (.lst o1 (a.Root.Kids.map ZD)), .p ((eI .i64) a.Groups), .p (eB a.Fold)]
theorem Z9q {a b : ZC} (h : Z8T a = Z8T b) : a = b := by
 have h0 : a.Root = b.Root := Z2G (congrArg (fun l => (l.drop 0).take 7) h)
 have h1 : a.Groups = b.Groups := eI_inj _ _ (congrArg (fun l => l.getD 7 .junk) h)
 have h2 : a.Fold = b.Fold := eB_inj _ _ (congrArg (fun l => l.getD 8 .junk) h)
 cases a; cases b
 cases h0
 cases h1
 cases h2
 rfl
theorem ZhG (a b : ZC) (h : Zb0 a = Zb0 b) : a = b := Z9q (congrArg pC h)
structure Zj where
 Code : Int
 At : Int
 deriving Inhabited
def Z9C (a : Zj) : List PV := [(eI .i64) a.Code, (eI .i64) a.At]
def Zca (a : Zj) : PV := .agg (Z9C a)
def Z2f (a : Zj) : List PV := [(eI .i64) a.Code, (eI .i64) a.At]
def ZG (a : Zj) : Row := [.p ((eI .i64) a.Code), .p ((eI .i64) a.At)]
theorem Z7x {a b : Zj} (h : Z9C a = Z9C b) : a = b := by
 have h0 : a.Code = b.Code := eI_inj _ _ (congrArg (fun l => l.getD 0 .junk) h)
 have h1 : a.At = b.At := eI_inj _ _ (congrArg (fun l => l.getD 1 .junk) h)
 cases a; cases b
 cases h0
 cases h1
 rfl
theorem ZiM (a b : Zj) (h : Zca a = Zca b) : a = b := Z7x (congrArg pC h)
structure Zq where
 group : Int
 at_ : Int
 deriving Inhabited
def Z71 (a : Zq) : List PV := [(eI .i64) a.group, (eI .i64) a.at_]
def Z1D (a : Zq) : PV := .agg (Z71 a)
def Z8P (a : Zq) : List PV := [(eI .i64) a.group, (eI .i64) a.at_]
def Z8M (a : Zq) : Row := [.p ((eI .i64) a.group), .p ((eI .i64) a.at_)]
theorem ZcO {a b : Zq} (h : Z71 a = Z71 b) : a = b := by
 have h0 : a.group = b.group := eI_inj _ _ (congrArg (fun l => l.getD 0 .junk) h)
 have h1 : a.at_ = b.at_ := eI_inj _ _ (congrArg (fun l => l.getD 1 .junk) h)
 cases a; cases b
 cases h0
 cases h1
 rfl
theorem Z3S (a b : Zq) (h : Z1D a = Z1D b) : a = b := ZcO (congrArg pC h)
structure Zk where
 b : (List Int)
 at_ : Int
 groups : Int
 deep : Int
 refs : (List Zq)
 fault : Zj
 deriving Inhabited
def Z9k (a : Zk) : List PV := [(eL (eI .u8)) a.b, (eI .i64) a.at_, (eI .i64) a.groups, (eI .i64) a.deep, (eL Z1D) a.refs, (eI .i64) a.fault.Code, (eI .i64) a.fault.At]
def Zbw (a : Zk) : PV := .agg (Z9k a)
def Zex (a : Zk) (o0 o1 : Own) : List PV := [.lst o0 (a.b.map (eI .u8)), (eI .i64) a.at_, (eI .i64) a.groups, (eI .i64) a.deep, .lst o1 (a.refs.map Z1D), (eI .i64) a.fault.Code, (eI .i64) a.fault.At]
def Zi (a : Zk) (o0 o1 : Own) : Row := [.p (.lst o0 (a.b.map (eI .u8))), .p ((eI .i64) a.at_), .p ((eI .i64) a.groups), .p ((eI .i64) a.deep), .p (.lst o1 (a.refs.map Z1D)), .p ((eI .i64) a.fault.Code), .p ((eI .i64) a.fault.At)]
theorem Zd0 {a b : Zk} (h : Z9k a = Z9k b) : a = b := by
 have h0 : a.b = b.b := (eL_inj eI_inj) _ _ (congrArg (fun l => l.getD 0 .junk) h)
 have h1 : a.at_ = b.at_ := eI_inj _ _ (congrArg (fun l => l.getD 1 .junk) h)
 have h2 : a.groups = b.groups := eI_inj _ _ (congrArg (fun l => l.getD 2 .junk) h)
 have h3 : a.deep = b.deep := eI_inj _ _ (congrArg (fun l => l.getD 3 .junk) h)
 have h4 : a.refs = b.refs := (eL_inj Z3S) _ _ (congrArg (fun l => l.getD 4 .junk) h)
 have h5 : a.fault = b.fault := Z7x (congrArg (fun l => (l.drop 5).take 2) h)
 cases a; cases b
 cases h0
 cases h1
 cases h2
 cases h3
 cases h4
 cases h5
 rfl
theorem ZhQ (a b : Zk) (h : Zbw a = Zbw b) : a = b := Zd0 (congrArg pC h)
end Go.Proofs.YtadodmjdkphddaaDoor.N2
end
section
set_option linter.unusedSimpArgs false
set_option linter.unusedVariables false
namespace Go.Proofs.YtadodmjdkphddaaDoor.N2
open Go Go.Abs
set_option linter.unusedVariables false
set_option maxRecDepth 100000
abbrev Z3p (zl : List Int) (z7 : Int) (zd : Int) (zh : List Zq) (z2 : Int) (z6 : Int) (zn : Own) (zb : Own) : (Bool × Int) → Res → Prop := fun r q => ∃ (ex : List Row), q = ((bv r.1), [(Zi (Zk.mk zl r.2 z7 zd zh (Zj.mk z2 z6)) zn zb)] ++ ex)
theorem Zcb (zl : List Int) (z7 : Int) (zd : Int) (zh : List Zq) (z2 : Int) (z6 : Int) (zn : Own) (zb : Own) : ∀ a b q, Z3p zl z7 zd zh z2 z6 zn zb a q → Z3p zl z7 zd zh z2 z6 zn zb b q → a = b := by
 rintro a b q ⟨_, e1⟩ ⟨_, e2⟩
 have e := e1.symm.trans e2
 exact Prod.ext (congrArg (fun q : Res => pB (pA q.1)) e) (congrArg (fun q : Res => pI (pA (cellAt q 0 1))) e)
abbrev Z4G  : (Int × Int) → Res → Prop := fun r q => ∃ (ex : List Row), q = ((.p (.tup [(.v (.int .i32 r.1)), (.v (.int .i64 r.2))])), ex)
theorem Zae  : ∀ a b q, Z4G  a q → Z4G  b q → a = b := by
 rintro a b q ⟨_, e1⟩ ⟨_, e2⟩
 have e := e1.symm.trans e2
 exact Prod.ext (congrArg (fun q : Res => pI ((pT (pA q.1)).getD 0 .junk)) e) (congrArg (fun q : Res => pI ((pT (pA q.1)).getD 1 .junk)) e)
abbrev Z5g  : (Int × Int) → Res → Prop := fun r q => ∃ (ex : List Row), q = ((.p (.tup [(.v (.int .i64 r.1)), (.v (.int .i64 r.2))])), ex)
theorem Zfe  : ∀ a b q, Z5g  a q → Z5g  b q → a = b := by
 rintro a b q ⟨_, e1⟩ ⟨_, e2⟩
 have e := e1.symm.trans e2
 exact Prod.ext (congrArg (fun q : Res => pI ((pT (pA q.1)).getD 0 .junk)) e) (congrArg (fun q : Res => pI ((pT (pA q.1)).getD 1 .junk)) e)
abbrev Z4g (b0 : Zk) (zn : Own) (zb : Own) : (Int) → Res → Prop := fun r q => ∃ (ex : List Row), q = ((iv r), [(Zi b0 zn zb)] ++ ex)
theorem ZbX (b0 : Zk) (zn : Own) (zb : Own) : ∀ a b q, Z4g b0 zn zb a q → Z4g b0 zn zb b q → a = b := by
 rintro a b q ⟨_, e1⟩ ⟨_, e2⟩
 have e := e1.symm.trans e2
 exact congrArg (fun q : Res => pI (pA q.1)) e
abbrev Z5T  : (Z3) → Res → Prop := fun r q => ∃ (ex : List Row), q = ((.p (.agg (Zz r .sh .sh))), ex)
theorem ZdX  : ∀ a b q, Z5T  a q → Z5T  b q → a = b := by
 rintro a b q ⟨_, e1⟩ ⟨_, e2⟩
 have e := e1.symm.trans e2
 exact Z2G (congrArg (fun q : Res => pC (pA q.1)) e)
abbrev Z54 (zl : List Int) (z7 : Int) (zd : Int) (zh : List Zq) (z2 : Int) (z6 : Int) (zn : Own) (zb : Own) : (Int × Int) → Res → Prop := fun r q => ∃ (ex : List Row), q = ((iv r.1), [(Zi (Zk.mk zl r.2 z7 zd zh (Zj.mk z2 z6)) zn zb)] ++ ex)
theorem Zc0 (zl : List Int) (z7 : Int) (zd : Int) (zh : List Zq) (z2 : Int) (z6 : Int) (zn : Own) (zb : Own) : ∀ a b q, Z54 zl z7 zd zh z2 z6 zn zb a q → Z54 zl z7 zd zh z2 z6 zn zb b q → a = b := by
 rintro a b q ⟨_, e1⟩ ⟨_, e2⟩
 have e := e1.symm.trans e2
 exact Prod.ext (congrArg (fun q : Res => pI (pA q.1)) e) (congrArg (fun q : Res => pI (pA (cellAt q 0 1))) e)
abbrev Z8A  : (Z8) → Res → Prop := fun r q => ∃ (ex : List Row), q = ((.p (.agg (ZE r))), ex)
theorem Zff  : ∀ a b q, Z8A  a q → Z8A  b q → a = b := by
 rintro a b q ⟨_, e1⟩ ⟨_, e2⟩
 have e := e1.symm.trans e2
 exact Za7 (congrArg (fun q : Res => pC (pA q.1)) e)
abbrev Z53  : (Bool) → Res → Prop := fun r q => ∃ (ex : List Row), q = ((bv r), ex)
theorem Zco  : ∀ a b q, Z53  a q → Z53  b q → a = b := by
 rintro a b q ⟨_, e1⟩ ⟨_, e2⟩
 have e := e1.symm.trans e2
 exact congrArg (fun q : Res => pB (pA q.1)) e
abbrev Z6Q  : (Bool) → Res → Prop := fun r q => ∃ (ex : List Row), q = ((bv r), ex)
theorem ZdN  : ∀ a b q, Z6Q  a q → Z6Q  b q → a = b := by
 rintro a b q ⟨_, e1⟩ ⟨_, e2⟩
 have e := e1.symm.trans e2
 exact congrArg (fun q : Res => pB (pA q.1)) e
abbrev Z1q  : (Int) → Res → Prop := fun r q => ∃ (ex : List Row), q = ((iv r), ex)
theorem Z6j  : ∀ a b q, Z1q  a q → Z1q  b q → a = b := by
 rintro a b q ⟨_, e1⟩ ⟨_, e2⟩
 have e := e1.symm.trans e2
 exact congrArg (fun q : Res => pI (pA q.1)) e
abbrev Z2M  : (Bool) → Res → Prop := fun r q => ∃ (ex : List Row), q = ((bv r), ex)
theorem Z8n  : ∀ a b q, Z2M  a q → Z2M  b q → a = b := by
 rintro a b q ⟨_, e1⟩ ⟨_, e2⟩
 have e := e1.symm.trans e2
 exact congrArg (fun q : Res => pB (pA q.1)) e
abbrev Z81  : ((List Z8)) → Res → Prop := fun r q => ∃ (ex : List Row), q = ((.p (.lst .sh (r.map Zv))), ex)
theorem ZdW  : ∀ a b q, Z81  a q → Z81  b q → a = b := by
 rintro a b q ⟨_, e1⟩ ⟨_, e2⟩
 have e := e1.symm.trans e2
 exact lmap_inj Z2s (congrArg (fun q : Res => pL (pA q.1)) e)
abbrev Z6P  : ((List Z8) × Int) → Res → Prop := fun r q => ∃ (ex : List Row), q = ((.p (.tup [(.lst .sh (r.1.map Zv)), (.v (.int .i64 r.2))])), ex)
theorem ZeJ  : ∀ a b q, Z6P  a q → Z6P  b q → a = b := by
 rintro a b q ⟨_, e1⟩ ⟨_, e2⟩
 have e := e1.symm.trans e2
 exact Prod.ext (lmap_inj Z2s (congrArg (fun q : Res => pL ((pT (pA q.1)).getD 0 .junk)) e)) (congrArg (fun q : Res => pI ((pT (pA q.1)).getD 1 .junk)) e)
abbrev Z1O  : (Bool) → Res → Prop := fun r q => ∃ (ex : List Row), q = ((bv r), ex)
theorem Z9l  : ∀ a b q, Z1O  a q → Z1O  b q → a = b := by
 rintro a b q ⟨_, e1⟩ ⟨_, e2⟩
 have e := e1.symm.trans e2
 exact congrArg (fun q : Res => pB (pA q.1)) e
abbrev Z2g  : ((List Z8)) → Res → Prop := fun r q => ∃ (ex : List Row), q = ((.p (.lst .sh (r.map Zv))), ex)
theorem Zam  : ∀ a b q, Z2g  a q → Z2g  b q → a = b := by
 rintro a b q ⟨_, e1⟩ ⟨_, e2⟩
 have e := e1.symm.trans e2
 exact lmap_inj Z2s (congrArg (fun q : Res => pL (pA q.1)) e)
abbrev Z5B  : ((List Z8) × Int) → Res → Prop := fun r q => ∃ (ex : List Row), q = ((.p (.tup [(.lst .sh (r.1.map Zv)), (.v (.int .i64 r.2))])), ex)
theorem ZdA  : ∀ a b q, Z5B  a q → Z5B  b q → a = b := by
 rintro a b q ⟨_, e1⟩ ⟨_, e2⟩
 have e := e1.symm.trans e2
 exact Prod.ext (lmap_inj Z2s (congrArg (fun q : Res => pL ((pT (pA q.1)).getD 0 .junk)) e)) (congrArg (fun q : Res => pI ((pT (pA q.1)).getD 1 .junk)) e)
abbrev Z7c  : (Z3) → Res → Prop := fun r q => ∃ (ex : List Row), q = ((.p (.agg (Zz r .sh .sh))), ex)
theorem Zfc  : ∀ a b q, Z7c  a q → Z7c  b q → a = b := by
 rintro a b q ⟨_, e1⟩ ⟨_, e2⟩
 have e := e1.symm.trans e2
 exact Z2G (congrArg (fun q : Res => pC (pA q.1)) e)
abbrev Z4h (zl : List Int) (z7 : Int) (zd : Int) (zh : List Zq) (zn : Own) (zb : Own) : (Int × Int × Int) → Res → Prop := fun r q => ∃ (ex : List Row), q = ((.p (.tup [])), [(Zi (Zk.mk zl r.1 z7 zd zh (Zj.mk r.2.1 r.2.2)) zn zb)] ++ ex)
theorem Zcu (zl : List Int) (z7 : Int) (zd : Int) (zh : List Zq) (zn : Own) (zb : Own) : ∀ a b q, Z4h zl z7 zd zh zn zb a q → Z4h zl z7 zd zh zn zb b q → a = b := by
 rintro a b q ⟨_, e1⟩ ⟨_, e2⟩
 have e := e1.symm.trans e2
 exact Prod.ext (congrArg (fun q : Res => pI (pA (cellAt q 0 1))) e) (Prod.ext (congrArg (fun q : Res => pI (pA (cellAt q 0 5))) e) (congrArg (fun q : Res => pI (pA (cellAt q 0 6))) e))
abbrev Z4Z  : ((Own × (List Z8))) → Res → Prop := fun r q => ∃ (ex : List Row), q = ((.p (.lst r.1 (r.2.map Zv))), ex)
theorem ZcQ  : ∀ a b q, Z4Z  a q → Z4Z  b q → a = b := by
 rintro a b q ⟨_, e1⟩ ⟨_, e2⟩
 have e := e1.symm.trans e2
 exact Prod.ext (congrArg (fun q : Res => pOwn (pA q.1)) e) (lmap_inj Z2s (congrArg (fun q : Res => pL (pA q.1)) e))
abbrev Z5h  : (Int) → Res → Prop := fun r q => ∃ (ex : List Row), q = ((iv r), ex)
theorem Zfb  : ∀ a b q, Z5h  a q → Z5h  b q → a = b := by
 rintro a b q ⟨_, e1⟩ ⟨_, e2⟩
 have e := e1.symm.trans e2
 exact congrArg (fun q : Res => pI (pA q.1)) e
abbrev Z5G (zZ : Int) : (Bool) → Res → Prop := fun r q => ∃ (ex : List Row), q = ((bv r), [[(iv zZ)]] ++ ex)
theorem ZcY (zZ : Int) : ∀ a b q, Z5G zZ a q → Z5G zZ b q → a = b := by
 rintro a b q ⟨_, e1⟩ ⟨_, e2⟩
 have e := e1.symm.trans e2
 exact congrArg (fun q : Res => pB (pA q.1)) e
abbrev Z1o (zZ : Int) : (Int) → Res → Prop := fun r q => ∃ (ex : List Row), q = ((iv r), [[(iv zZ)]] ++ ex)
theorem Z6i (zZ : Int) : ∀ a b q, Z1o zZ a q → Z1o zZ b q → a = b := by
 rintro a b q ⟨_, e1⟩ ⟨_, e2⟩
 have e := e1.symm.trans e2
 exact congrArg (fun q : Res => pI (pA q.1)) e
abbrev Z2L (zZ : Int) : (Bool) → Res → Prop := fun r q => ∃ (ex : List Row), q = ((bv r), [[(iv zZ)]] ++ ex)
theorem Z8x (zZ : Int) : ∀ a b q, Z2L zZ a q → Z2L zZ b q → a = b := by
 rintro a b q ⟨_, e1⟩ ⟨_, e2⟩
 have e := e1.symm.trans e2
 exact congrArg (fun q : Res => pB (pA q.1)) e
abbrev Z6q  : (Bool) → Res → Prop := fun r q => ∃ (ex : List Row), q = ((bv r), ex)
theorem ZdC  : ∀ a b q, Z6q  a q → Z6q  b q → a = b := by
 rintro a b q ⟨_, e1⟩ ⟨_, e2⟩
 have e := e1.symm.trans e2
 exact congrArg (fun q : Res => pB (pA q.1)) e
abbrev Z3c (zl : List Int) (z7 : Int) (zd : Int) (zh : List Zq) (zn : Own) (zb : Own) : (Int × Int × Int × Int) → Res → Prop := fun r q => ∃ (ex : List Row), q = ((iv r.1), [(Zi (Zk.mk zl r.2.1 z7 zd zh (Zj.mk r.2.2.1 r.2.2.2)) zn zb)] ++ ex)
theorem ZbK (zl : List Int) (z7 : Int) (zd : Int) (zh : List Zq) (zn : Own) (zb : Own) : ∀ a b q, Z3c zl z7 zd zh zn zb a q → Z3c zl z7 zd zh zn zb b q → a = b := by
 rintro a b q ⟨_, e1⟩ ⟨_, e2⟩
 have e := e1.symm.trans e2
 exact Prod.ext (congrArg (fun q : Res => pI (pA q.1)) e) (Prod.ext (congrArg (fun q : Res => pI (pA (cellAt q 0 1))) e) (Prod.ext (congrArg (fun q : Res => pI (pA (cellAt q 0 5))) e) (congrArg (fun q : Res => pI (pA (cellAt q 0 6))) e)))
abbrev Z2C (zl : List Int) (z7 : Int) (zd : Int) (zn : Own) : (Z3 × Int × (List Zq) × Int × Int) → Res → Prop := fun r q => ∃ (p0_4 : Own) (ex : List Row), okApp p0_4 = true ∧ q = ((.p (.agg (Zz r.1 .sh .sh))), [(Zi (Zk.mk zl r.2.1 z7 zd r.2.2.1 (Zj.mk r.2.2.2.1 r.2.2.2.2)) zn p0_4)] ++ ex)
theorem Zbm (zl : List Int) (z7 : Int) (zd : Int) (zn : Own) : ∀ a b q, Z2C zl z7 zd zn a q → Z2C zl z7 zd zn b q → a = b := by
 rintro a b q ⟨_, _, _, e1⟩ ⟨_, _, _, e2⟩
 have e := e1.symm.trans e2
 exact Prod.ext (Z2G (congrArg (fun q : Res => pC (pA q.1)) e)) (Prod.ext (congrArg (fun q : Res => pI (pA (cellAt q 0 1))) e) (Prod.ext (lmap_inj Z3S (congrArg (fun q : Res => pL (pA (cellAt q 0 4))) e)) (Prod.ext (congrArg (fun q : Res => pI (pA (cellAt q 0 5))) e) (congrArg (fun q : Res => pI (pA (cellAt q 0 6))) e))))
abbrev Z2D (zl : List Int) (z7 : Int) (zd : Int) (zh : List Zq) (zn : Own) (zb : Own) : (Int × (Own × (List Z8)) × Bool × Int × Int × Int) → Res → Prop := fun r q => ∃ (ex : List Row), q = ((.p (.tup [(.v (.int .i64 r.1)), (.lst r.2.1.1 (r.2.1.2.map Zv)), (.v (.bool r.2.2.1))])), [(Zi (Zk.mk zl r.2.2.2.1 z7 zd zh (Zj.mk r.2.2.2.2.1 r.2.2.2.2.2)) zn zb)] ++ ex)
theorem Zbf (zl : List Int) (z7 : Int) (zd : Int) (zh : List Zq) (zn : Own) (zb : Own) : ∀ a b q, Z2D zl z7 zd zh zn zb a q → Z2D zl z7 zd zh zn zb b q → a = b := by
 rintro a b q ⟨_, e1⟩ ⟨_, e2⟩
 have e := e1.symm.trans e2
 exact Prod.ext (congrArg (fun q : Res => pI ((pT (pA q.1)).getD 0 .junk)) e) (Prod.ext (Prod.ext (congrArg (fun q : Res => pOwn ((pT (pA q.1)).getD 1 .junk)) e) (lmap_inj Z2s (congrArg (fun q : Res => pL ((pT (pA q.1)).getD 1 .junk)) e))) (Prod.ext (congrArg (fun q : Res => pB ((pT (pA q.1)).getD 2 .junk)) e) (Prod.ext (congrArg (fun q : Res => pI (pA (cellAt q 0 1))) e) (Prod.ext (congrArg (fun q : Res => pI (pA (cellAt q 0 5))) e) (congrArg (fun q : Res => pI (pA (cellAt q 0 6))) e)))))
abbrev Z5w  : ((List Z8)) → Res → Prop := fun r q => ∃ (ex : List Row), q = ((.p (.lst .sh (r.map Zv))), ex)
theorem Zbi  : ∀ a b q, Z5w  a q → Z5w  b q → a = b := by
 rintro a b q ⟨_, e1⟩ ⟨_, e2⟩
 have e := e1.symm.trans e2
 exact lmap_inj Z2s (congrArg (fun q : Res => pL (pA q.1)) e)
abbrev Z5b  : ((List Z8) × Int) → Res → Prop := fun r q => ∃ (ex : List Row), q = ((.p (.tup [(.lst .sh (r.1.map Zv)), (.v (.int .i64 r.2))])), ex)
theorem ZdY  : ∀ a b q, Z5b  a q → Z5b  b q → a = b := by
 rintro a b q ⟨_, e1⟩ ⟨_, e2⟩
 have e := e1.symm.trans e2
 exact Prod.ext (lmap_inj Z2s (congrArg (fun q : Res => pL ((pT (pA q.1)).getD 0 .junk)) e)) (congrArg (fun q : Res => pI ((pT (pA q.1)).getD 1 .junk)) e)
abbrev Z4k  : ((List Z8)) → Res → Prop := fun r q => ∃ (p0_0 : Own) (ex : List Row), q = ((.p (.tup [])), [[(.p (.lst p0_0 (r.map Zv)))]] ++ ex)
theorem ZaW  : ∀ a b q, Z4k  a q → Z4k  b q → a = b := by
 rintro a b q ⟨_, _, e1⟩ ⟨_, _, e2⟩
 have e := e1.symm.trans e2
 exact lmap_inj Z2s (congrArg (fun q : Res => pL (pA (cellAt q 0 0))) e)
abbrev Z1a (zl : List Int) (z7 : Int) (zd : Int) (zh : List Zq) (zn : Own) (zb : Own) : (Z3 × Int × Int × Int) → Res → Prop := fun r q => ∃ (ex : List Row), q = ((.p (.agg (Zz r.1 .sh .sh))), [(Zi (Zk.mk zl r.2.1 z7 zd zh (Zj.mk r.2.2.1 r.2.2.2)) zn zb)] ++ ex)
theorem Z8t (zl : List Int) (z7 : Int) (zd : Int) (zh : List Zq) (zn : Own) (zb : Own) : ∀ a b q, Z1a zl z7 zd zh zn zb a q → Z1a zl z7 zd zh zn zb b q → a = b := by
 rintro a b q ⟨_, e1⟩ ⟨_, e2⟩
 have e := e1.symm.trans e2
 exact Prod.ext (Z2G (congrArg (fun q : Res => pC (pA q.1)) e)) (Prod.ext (congrArg (fun q : Res => pI (pA (cellAt q 0 1))) e) (Prod.ext (congrArg (fun q : Res => pI (pA (cellAt q 0 5))) e) (congrArg (fun q : Res => pI (pA (cellAt q 0 6))) e)))
abbrev Z74  : ((List ByteArray)) → Res → Prop := fun r q => ∃ (ex : List Row), q = ((.p (.lst .sh (r.map eS))), ex)
theorem Zeu  : ∀ a b q, Z74  a q → Z74  b q → a = b := by
 rintro a b q ⟨_, e1⟩ ⟨_, e2⟩
 have e := e1.symm.trans e2
 exact lmap_inj eS_inj (congrArg (fun q : Res => pL (pA q.1)) e)
abbrev Z1l (zl : List Int) (z7 : Int) (zd : Int) (zh : List Zq) (z2 : Int) (z6 : Int) (zn : Own) (zb : Own) : (Int × Int) → Res → Prop := fun r q => ∃ (ex : List Row), q = ((iv r.1), [(Zi (Zk.mk zl r.2 z7 zd zh (Zj.mk z2 z6)) zn zb)] ++ ex)
theorem Z6d (zl : List Int) (z7 : Int) (zd : Int) (zh : List Zq) (z2 : Int) (z6 : Int) (zn : Own) (zb : Own) : ∀ a b q, Z1l zl z7 zd zh z2 z6 zn zb a q → Z1l zl z7 zd zh z2 z6 zn zb b q → a = b := by
 rintro a b q ⟨_, e1⟩ ⟨_, e2⟩
 have e := e1.symm.trans e2
 exact Prod.ext (congrArg (fun q : Res => pI (pA q.1)) e) (congrArg (fun q : Res => pI (pA (cellAt q 0 1))) e)
abbrev Z2a (zl : List Int) (zn : Own) : (Z3 × Bool × Int × Int × Int × (List Zq) × Int × Int) → Res → Prop := fun r q => ∃ (p0_4 : Own) (ex : List Row), okApp p0_4 = true ∧ q = ((.p (.tup [(.agg (Zz r.1 .sh .sh)), (.v (.bool r.2.1))])), [(Zi (Zk.mk zl r.2.2.1 r.2.2.2.1 r.2.2.2.2.1 r.2.2.2.2.2.1 (Zj.mk r.2.2.2.2.2.2.1 r.2.2.2.2.2.2.2)) zn p0_4)] ++ ex)
theorem ZbF (zl : List Int) (zn : Own) : ∀ a b q, Z2a zl zn a q → Z2a zl zn b q → a = b := by
 rintro a b q ⟨_, _, _, e1⟩ ⟨_, _, _, e2⟩
 have e := e1.symm.trans e2
 exact Prod.ext (Z2G (congrArg (fun q : Res => pC ((pT (pA q.1)).getD 0 .junk)) e)) (Prod.ext (congrArg (fun q : Res => pB ((pT (pA q.1)).getD 1 .junk)) e) (Prod.ext (congrArg (fun q : Res => pI (pA (cellAt q 0 1))) e) (Prod.ext (congrArg (fun q : Res => pI (pA (cellAt q 0 2))) e) (Prod.ext (congrArg (fun q : Res => pI (pA (cellAt q 0 3))) e) (Prod.ext (lmap_inj Z3S (congrArg (fun q : Res => pL (pA (cellAt q 0 4))) e)) (Prod.ext (congrArg (fun q : Res => pI (pA (cellAt q 0 5))) e) (congrArg (fun q : Res => pI (pA (cellAt q 0 6))) e)))))))
abbrev Z4e (zl : List Int) (zn : Own) : (Z3 × Bool × Int × Int × Int × (List Zq) × Int × Int) → Res → Prop := fun r q => ∃ (p0_4 : Own) (ex : List Row), okApp p0_4 = true ∧ q = ((.p (.tup [(.agg (Zz r.1 .sh .sh)), (.v (.bool r.2.1))])), [(Zi (Zk.mk zl r.2.2.1 r.2.2.2.1 r.2.2.2.2.1 r.2.2.2.2.2.1 (Zj.mk r.2.2.2.2.2.2.1 r.2.2.2.2.2.2.2)) zn p0_4)] ++ ex)
theorem Zcf (zl : List Int) (zn : Own) : ∀ a b q, Z4e zl zn a q → Z4e zl zn b q → a = b := by
 rintro a b q ⟨_, _, _, e1⟩ ⟨_, _, _, e2⟩
 have e := e1.symm.trans e2
 exact Prod.ext (Z2G (congrArg (fun q : Res => pC ((pT (pA q.1)).getD 0 .junk)) e)) (Prod.ext (congrArg (fun q : Res => pB ((pT (pA q.1)).getD 1 .junk)) e) (Prod.ext (congrArg (fun q : Res => pI (pA (cellAt q 0 1))) e) (Prod.ext (congrArg (fun q : Res => pI (pA (cellAt q 0 2))) e) (Prod.ext (congrArg (fun q : Res => pI (pA (cellAt q 0 3))) e) (Prod.ext (lmap_inj Z3S (congrArg (fun q : Res => pL (pA (cellAt q 0 4))) e)) (Prod.ext (congrArg (fun q : Res => pI (pA (cellAt q 0 5))) e) (congrArg (fun q : Res => pI (pA (cellAt q 0 6))) e)))))))
abbrev Z20 (zl : List Int) (z7 : Int) (zd : Int) (zh : List Zq) (z2 : Int) (z6 : Int) (zn : Own) (zb : Own) : (Int × Int) → Res → Prop := fun r q => ∃ (ex : List Row), q = ((iv r.1), [(Zi (Zk.mk zl r.2 z7 zd zh (Zj.mk z2 z6)) zn zb)] ++ ex)
theorem Z89 (zl : List Int) (z7 : Int) (zd : Int) (zh : List Zq) (z2 : Int) (z6 : Int) (zn : Own) (zb : Own) : ∀ a b q, Z20 zl z7 zd zh z2 z6 zn zb a q → Z20 zl z7 zd zh z2 z6 zn zb b q → a = b := by
 rintro a b q ⟨_, e1⟩ ⟨_, e2⟩
 have e := e1.symm.trans e2
 exact Prod.ext (congrArg (fun q : Res => pI (pA q.1)) e) (congrArg (fun q : Res => pI (pA (cellAt q 0 1))) e)
abbrev Z1P (zl : List Int) (z7 : Int) (zd : Int) (zh : List Zq) (zn : Own) (zb : Own) : (Int × Int × Int × Int × Int) → Res → Prop := fun r q => ∃ (ex : List Row), q = ((.p (.tup [(.v (.int .i64 r.1)), (.v (.int .i64 r.2.1))])), [(Zi (Zk.mk zl r.2.2.1 z7 zd zh (Zj.mk r.2.2.2.1 r.2.2.2.2)) zn zb)] ++ ex)
theorem Zbl (zl : List Int) (z7 : Int) (zd : Int) (zh : List Zq) (zn : Own) (zb : Own) : ∀ a b q, Z1P zl z7 zd zh zn zb a q → Z1P zl z7 zd zh zn zb b q → a = b := by
 rintro a b q ⟨_, e1⟩ ⟨_, e2⟩
 have e := e1.symm.trans e2
 exact Prod.ext (congrArg (fun q : Res => pI ((pT (pA q.1)).getD 0 .junk)) e) (Prod.ext (congrArg (fun q : Res => pI ((pT (pA q.1)).getD 1 .junk)) e) (Prod.ext (congrArg (fun q : Res => pI (pA (cellAt q 0 1))) e) (Prod.ext (congrArg (fun q : Res => pI (pA (cellAt q 0 5))) e) (congrArg (fun q : Res => pI (pA (cellAt q 0 6))) e))))
abbrev Z2B (zl : List Int) (z7 : Int) (zd : Int) (zh : List Zq) (zn : Own) (zb : Own) : (Z3 × Int × Int × Int) → Res → Prop := fun r q => ∃ (ex : List Row), q = ((.p (.agg (Zz r.1 .sh .sh))), [(Zi (Zk.mk zl r.2.1 z7 zd zh (Zj.mk r.2.2.1 r.2.2.2)) zn zb)] ++ ex)
theorem Zbc (zl : List Int) (z7 : Int) (zd : Int) (zh : List Zq) (zn : Own) (zb : Own) : ∀ a b q, Z2B zl z7 zd zh zn zb a q → Z2B zl z7 zd zh zn zb b q → a = b := by
 rintro a b q ⟨_, e1⟩ ⟨_, e2⟩
 have e := e1.symm.trans e2
 exact Prod.ext (Z2G (congrArg (fun q : Res => pC (pA q.1)) e)) (Prod.ext (congrArg (fun q : Res => pI (pA (cellAt q 0 1))) e) (Prod.ext (congrArg (fun q : Res => pI (pA (cellAt q 0 5))) e) (congrArg (fun q : Res => pI (pA (cellAt q 0 6))) e)))
abbrev Z2c (zl : List Int) (zn : Own) : (Z3 × Int × Int × Int × (List Zq) × Int × Int) → Res → Prop := fun r q => ∃ (p0_4 : Own) (ex : List Row), okApp p0_4 = true ∧ q = ((.p (.agg (Zz r.1 .sh .sh))), [(Zi (Zk.mk zl r.2.1 r.2.2.1 r.2.2.2.1 r.2.2.2.2.1 (Zj.mk r.2.2.2.2.2.1 r.2.2.2.2.2.2)) zn p0_4)] ++ ex)
theorem Z9o (zl : List Int) (zn : Own) : ∀ a b q, Z2c zl zn a q → Z2c zl zn b q → a = b := by
 rintro a b q ⟨_, _, _, e1⟩ ⟨_, _, _, e2⟩
 have e := e1.symm.trans e2
 exact Prod.ext (Z2G (congrArg (fun q : Res => pC (pA q.1)) e)) (Prod.ext (congrArg (fun q : Res => pI (pA (cellAt q 0 1))) e) (Prod.ext (congrArg (fun q : Res => pI (pA (cellAt q 0 2))) e) (Prod.ext (congrArg (fun q : Res => pI (pA (cellAt q 0 3))) e) (Prod.ext (lmap_inj Z3S (congrArg (fun q : Res => pL (pA (cellAt q 0 4))) e)) (Prod.ext (congrArg (fun q : Res => pI (pA (cellAt q 0 5))) e) (congrArg (fun q : Res => pI (pA (cellAt q 0 6))) e))))))
abbrev Z2q (zl : List Int) (zn : Own) : (Z3 × Int × Int × Int × (List Zq) × Int × Int) → Res → Prop := fun r q => ∃ (p0_4 : Own) (ex : List Row), okApp p0_4 = true ∧ q = ((.p (.agg (Zz r.1 .sh .sh))), [(Zi (Zk.mk zl r.2.1 r.2.2.1 r.2.2.2.1 r.2.2.2.2.1 (Zj.mk r.2.2.2.2.2.1 r.2.2.2.2.2.2)) zn p0_4)] ++ ex)
theorem Z9u (zl : List Int) (zn : Own) : ∀ a b q, Z2q zl zn a q → Z2q zl zn b q → a = b := by
 rintro a b q ⟨_, _, _, e1⟩ ⟨_, _, _, e2⟩
 have e := e1.symm.trans e2
 exact Prod.ext (Z2G (congrArg (fun q : Res => pC (pA q.1)) e)) (Prod.ext (congrArg (fun q : Res => pI (pA (cellAt q 0 1))) e) (Prod.ext (congrArg (fun q : Res => pI (pA (cellAt q 0 2))) e) (Prod.ext (congrArg (fun q : Res => pI (pA (cellAt q 0 3))) e) (Prod.ext (lmap_inj Z3S (congrArg (fun q : Res => pL (pA (cellAt q 0 4))) e)) (Prod.ext (congrArg (fun q : Res => pI (pA (cellAt q 0 5))) e) (congrArg (fun q : Res => pI (pA (cellAt q 0 6))) e))))))
abbrev Z2l  : (ZC × Zj) → Res → Prop := fun r q => ∃ (ex : List Row), q = ((.p (.tup [(.agg (Z1w r.1 .sh .sh)), (.agg (Z2f r.2))])), ex)
theorem Zbr  : ∀ a b q, Z2l  a q → Z2l  b q → a = b := by
 rintro a b q ⟨_, e1⟩ ⟨_, e2⟩
 have e := e1.symm.trans e2
 exact Prod.ext (Z9q (congrArg (fun q : Res => pC ((pT (pA q.1)).getD 0 .junk)) e)) (Z7x (congrArg (fun q : Res => pC ((pT (pA q.1)).getD 1 .junk)) e))
abbrev Z6H  : (Int) → Res → Prop := fun r q => ∃ (ex : List Row), q = ((iv r), ex)
theorem Zf9  : ∀ a b q, Z6H  a q → Z6H  b q → a = b := by
 rintro a b q ⟨_, e1⟩ ⟨_, e2⟩
 have e := e1.symm.trans e2
 exact congrArg (fun q : Res => pI (pA q.1)) e
abbrev Z4m  : (Int) → Res → Prop := fun r q => ∃ (ex : List Row), q = ((iv r), ex)
theorem Ze0  : ∀ a b q, Z4m  a q → Z4m  b q → a = b := by
 rintro a b q ⟨_, e1⟩ ⟨_, e2⟩
 have e := e1.symm.trans e2
 exact congrArg (fun q : Res => pI (pA q.1)) e
abbrev Z6u  : (Int) → Res → Prop := fun r q => ∃ (ex : List Row), q = ((iv r), ex)
theorem Zfd  : ∀ a b q, Z6u  a q → Z6u  b q → a = b := by
 rintro a b q ⟨_, e1⟩ ⟨_, e2⟩
 have e := e1.symm.trans e2
 exact congrArg (fun q : Res => pI (pA q.1)) e
abbrev Z1Z  : (Int × Int) → Res → Prop := fun r q => ∃ (ex : List Row), q = ((.p (.tup [(.v (.int .i64 r.1)), (.v (.int .i64 r.2))])), ex)
theorem Z9r  : ∀ a b q, Z1Z  a q → Z1Z  b q → a = b := by
 rintro a b q ⟨_, e1⟩ ⟨_, e2⟩
 have e := e1.symm.trans e2
 exact Prod.ext (congrArg (fun q : Res => pI ((pT (pA q.1)).getD 0 .junk)) e) (congrArg (fun q : Res => pI ((pT (pA q.1)).getD 1 .junk)) e)
abbrev Z3f  : (Int) → Res → Prop := fun r q => ∃ (ex : List Row), q = ((iv r), ex)
theorem Zct  : ∀ a b q, Z3f  a q → Z3f  b q → a = b := by
 rintro a b q ⟨_, e1⟩ ⟨_, e2⟩
 have e := e1.symm.trans e2
 exact congrArg (fun q : Res => pI (pA q.1)) e
abbrev Z5D  : (Bool) → Res → Prop := fun r q => ∃ (ex : List Row), q = ((bv r), ex)
theorem ZcW  : ∀ a b q, Z5D  a q → Z5D  b q → a = b := by
 rintro a b q ⟨_, e1⟩ ⟨_, e2⟩
 have e := e1.symm.trans e2
 exact congrArg (fun q : Res => pB (pA q.1)) e
abbrev Z1s  : (Int) → Res → Prop := fun r q => ∃ (ex : List Row), q = ((iv r), ex)
theorem Z6x  : ∀ a b q, Z1s  a q → Z1s  b q → a = b := by
 rintro a b q ⟨_, e1⟩ ⟨_, e2⟩
 have e := e1.symm.trans e2
 exact congrArg (fun q : Res => pI (pA q.1)) e
abbrev Z2T  : (Bool) → Res → Prop := fun r q => ∃ (ex : List Row), q = ((bv r), ex)
theorem Z8Y  : ∀ a b q, Z2T  a q → Z2T  b q → a = b := by
 rintro a b q ⟨_, e1⟩ ⟨_, e2⟩
 have e := e1.symm.trans e2
 exact congrArg (fun q : Res => pB (pA q.1)) e
abbrev Z4b  : (Bool) → Res → Prop := fun r q => ∃ (ex : List Row), q = ((bv r), ex)
theorem ZdB  : ∀ a b q, Z4b  a q → Z4b  b q → a = b := by
 rintro a b q ⟨_, e1⟩ ⟨_, e2⟩
 have e := e1.symm.trans e2
 exact congrArg (fun q : Res => pB (pA q.1)) e
abbrev Z6h  : (Int) → Res → Prop := fun r q => ∃ (ex : List Row), q = ((iv r), ex)
theorem Zeg  : ∀ a b q, Z6h  a q → Z6h  b q → a = b := by
 rintro a b q ⟨_, e1⟩ ⟨_, e2⟩
 have e := e1.symm.trans e2
 exact congrArg (fun q : Res => pI (pA q.1)) e
abbrev Z4i  : (Bool) → Res → Prop := fun r q => ∃ (ex : List Row), q = ((bv r), ex)
theorem Zb1  : ∀ a b q, Z4i  a q → Z4i  b q → a = b := by
 rintro a b q ⟨_, e1⟩ ⟨_, e2⟩
 have e := e1.symm.trans e2
 exact congrArg (fun q : Res => pB (pA q.1)) e
abbrev Z18  : (Bool) → Res → Prop := fun r q => ∃ (ex : List Row), q = ((bv r), ex)
theorem Z6W  : ∀ a b q, Z18  a q → Z18  b q → a = b := by
 rintro a b q ⟨_, e1⟩ ⟨_, e2⟩
 have e := e1.symm.trans e2
 exact congrArg (fun q : Res => pB (pA q.1)) e
noncomputable def Z5P (x0 : List Int) : Option (Bool) := pick fun r => ∀ (ox0 : Own), RRun (Z18) (EE 12 [(.p (.lst ox0 (x0.map (eI .i64))))] []) r
theorem Z9I (x0 : List Int) (ox0 : Own) : Sim (Z18) (Z5P x0) (EE 12 [(.p (.lst ox0 (x0.map (eI .i64))))] []) := fun _ h => pick_to h ox0
noncomputable def Z5j  : Option (Bool) := pick fun r => RRun (Z4i) (EE 23 [] []) r
theorem ZaC  : Sim (Z4i) (Z5j) (EE 23 [] []) := fun _ h => pick_to h
noncomputable def Z6g (x0 : ByteArray) : Option (ZC × Zj) := pick fun r => RRun (Z2l) (EE 16 [(.p (.v (.string x0)))] []) r
theorem Z8Z (x0 : ByteArray) : Sim (Z2l) (Z6g x0) (EE 16 [(.p (.v (.string x0)))] []) := fun _ h => pick_to h
noncomputable def Z16 (x1 : ByteArray) (zl : List Int) (zp : Int) : Option (Bool × Int) := pick fun r => ∀ (z7 : Int) (zd : Int) (zh : List Zq) (z2 : Int) (z6 : Int) (zn : Own) (zb : Own) (zu : okApp zb = true), RRun (Z3p zl z7 zd zh z2 z6 zn zb) (EE 27 [(.ptr 0 0), (.p (.v (.string x1)))] [(Zi (Zk.mk zl zp z7 zd zh (Zj.mk z2 z6)) zn zb)]) r
theorem Z1c (x1 : ByteArray) (zl : List Int) (zp : Int) (z7 : Int) (zd : Int) (zh : List Zq) (z2 : Int) (z6 : Int) (zn : Own) (zb : Own) (zu : okApp zb = true) : Sim (Z3p zl z7 zd zh z2 z6 zn zb) (Z16 x1 zl zp) (EE 27 [(.ptr 0 0), (.p (.v (.string x1)))] [(Zi (Zk.mk zl zp z7 zd zh (Zj.mk z2 z6)) zn zb)]) := fun _ h => pick_to h z7 zd zh z2 z6 zn zb zu
noncomputable def Z2U (zl : List Int) (zp : Int) (z7 : Int) (zd : Int) (zh : List Zq) (z2 : Int) (z6 : Int) : Option (Z3 × Int × Int × Int × (List Zq) × Int × Int) := pick fun r => ∀ (zn : Own) (zb : Own) (zu : okApp zb = true), RRun (Z2q zl zn) (EE 28 [(.ptr 0 0)] [(Zi (Zk.mk zl zp z7 zd zh (Zj.mk z2 z6)) zn zb)]) r
theorem Z92 (zl : List Int) (zp : Int) (z7 : Int) (zd : Int) (zh : List Zq) (z2 : Int) (z6 : Int) (zn : Own) (zb : Own) (zu : okApp zb = true) : Sim (Z2q zl zn) (Z2U zl zp z7 zd zh z2 z6) (EE 28 [(.ptr 0 0)] [(Zi (Zk.mk zl zp z7 zd zh (Zj.mk z2 z6)) zn zb)]) := fun _ h => pick_to h zn zb zu
noncomputable def Z4B (zl : List Int) (zp : Int) (z7 : Int) (zd : Int) (zh : List Zq) (z2 : Int) (z6 : Int) : Option (Z3 × Int × Int × Int × (List Zq) × Int × Int) := pick fun r => ∀ (zn : Own) (zb : Own) (zu : okApp zb = true), RRun (Z2c zl zn) (EE 35 [(.ptr 0 0)] [(Zi (Zk.mk zl zp z7 zd zh (Zj.mk z2 z6)) zn zb)]) r
theorem Z90 (zl : List Int) (zp : Int) (z7 : Int) (zd : Int) (zh : List Zq) (z2 : Int) (z6 : Int) (zn : Own) (zb : Own) (zu : okApp zb = true) : Sim (Z2c zl zn) (Z4B zl zp z7 zd zh z2 z6) (EE 35 [(.ptr 0 0)] [(Zi (Zk.mk zl zp z7 zd zh (Zj.mk z2 z6)) zn zb)]) := fun _ h => pick_to h zn zb zu
noncomputable def Z3y (x3 : List Z3) (zl : List Int) (zp : Int) (z7 : Int) (zd : Int) (zh : List Zq) (z2 : Int) (z6 : Int) : Option (Z3 × Int × Int × Int × (List Zq) × Int × Int) := pick fun r => ∀ (b1 : Z3) (ox3 : Own) (zn : Own) (zb : Own) (zB : Own) (zy : Own) (hox3 : okApp ox3 = true) (zu : okApp zb = true) (zP : okApp zB = true) (zI : okApp zy = true), RRun (Z2c zl zn) (Zcq 1 (.ptr 0 0) (.ptr 1 0) (.p (.lst ox3 (x3.map ZD))) [(Zi (Zk.mk zl zp z7 zd zh (Zj.mk z2 z6)) zn zb), (Zo b1 zB zy)]) r
theorem Z7A (x3 : List Z3) (zl : List Int) (zp : Int) (z7 : Int) (zd : Int) (zh : List Zq) (z2 : Int) (z6 : Int) (b1 : Z3) (ox3 : Own) (zn : Own) (zb : Own) (zB : Own) (zy : Own) (hox3 : okApp ox3 = true) (zu : okApp zb = true) (zP : okApp zB = true) (zI : okApp zy = true) : Sim (Z2c zl zn) (Z3y x3 zl zp z7 zd zh z2 z6) (Zcq 1 (.ptr 0 0) (.ptr 1 0) (.p (.lst ox3 (x3.map ZD))) [(Zi (Zk.mk zl zp z7 zd zh (Zj.mk z2 z6)) zn zb), (Zo b1 zB zy)]) := fun _ h => pick_to h b1 ox3 zn zb zB zy hox3 zu zP zI
noncomputable def Z1F (b0 : Zk) : Option (Int) := pick fun r => ∀ (zn : Own) (zb : Own) (zu : okApp zb = true), RRun (Z4g b0 zn zb) (EE 41 [(.ptr 0 0)] [(Zi b0 zn zb)]) r
theorem Z1K (b0 : Zk) (zn : Own) (zb : Own) (zu : okApp zb = true) : Sim (Z4g b0 zn zb) (Z1F b0) (EE 41 [(.ptr 0 0)] [(Zi b0 zn zb)]) := fun _ h => pick_to h zn zb zu
noncomputable def Z8y (x0 : List Int) (x1 : Int) : Option (Int × Int) := pick fun r => ∀ (ox0 : Own), RRun (Z5g) (EE 45 [(.p (.lst ox0 (x0.map (eI .u8)))), (iv x1)] []) r
theorem Zc3 (x0 : List Int) (x1 : Int) (ox0 : Own) : Sim (Z5g) (Z8y x0 x1) (EE 45 [(.p (.lst ox0 (x0.map (eI .u8)))), (iv x1)] []) := fun _ h => pick_to h ox0
noncomputable def Z5L (x0 : List Int) : Option (Int × Int) := pick fun r => ∀ (ox0 : Own), RRun (Z4G) (EE 53 [(.p (.lst ox0 (x0.map (eI .u8))))] []) r
theorem Z9N (x0 : List Int) (ox0 : Own) : Sim (Z4G) (Z5L x0) (EE 53 [(.p (.lst ox0 (x0.map (eI .u8))))] []) := fun _ h => pick_to h ox0
noncomputable def Z6G (x0 : Int) (x1 : List Z3) : Option (Z3) := pick fun r => ∀ (ox1 : Own), RRun (Z5T) (EE 36 [(iv x0), (.p (.lst ox1 (x1.map ZD)))] []) r
theorem Zal (x0 : Int) (x1 : List Z3) (ox1 : Own) : Sim (Z5T) (Z6G x0 x1) (EE 36 [(iv x0), (.p (.lst ox1 (x1.map ZD)))] []) := fun _ h => pick_to h ox1
noncomputable def Z64 (zl : List Int) (zp : Int) (z7 : Int) (zd : Int) (zh : List Zq) (z2 : Int) (z6 : Int) : Option (Z3 × Bool × Int × Int × Int × (List Zq) × Int × Int) := pick fun r => ∀ (zn : Own) (zb : Own) (zu : okApp zb = true), RRun (Z4e zl zn) (EE 42 [(.ptr 0 0)] [(Zi (Zk.mk zl zp z7 zd zh (Zj.mk z2 z6)) zn zb)]) r
theorem ZbO (zl : List Int) (zp : Int) (z7 : Int) (zd : Int) (zh : List Zq) (z2 : Int) (z6 : Int) (zn : Own) (zb : Own) (zu : okApp zb = true) : Sim (Z4e zl zn) (Z64 zl zp z7 zd zh z2 z6) (EE 42 [(.ptr 0 0)] [(Zi (Zk.mk zl zp z7 zd zh (Zj.mk z2 z6)) zn zb)]) := fun _ h => pick_to h zn zb zu
noncomputable def Z24 (zl : List Int) (zp : Int) : Option (Int × Int) := pick fun r => ∀ (z7 : Int) (zd : Int) (zh : List Zq) (z2 : Int) (z6 : Int) (zn : Own) (zb : Own) (zu : okApp zb = true), RRun (Z54 zl z7 zd zh z2 z6 zn zb) (EE 46 [(.ptr 0 0)] [(Zi (Zk.mk zl zp z7 zd zh (Zj.mk z2 z6)) zn zb)]) r
theorem Z2p (zl : List Int) (zp : Int) (z7 : Int) (zd : Int) (zh : List Zq) (z2 : Int) (z6 : Int) (zn : Own) (zb : Own) (zu : okApp zb = true) : Sim (Z54 zl z7 zd zh z2 z6 zn zb) (Z24 zl zp) (EE 46 [(.ptr 0 0)] [(Zi (Zk.mk zl zp z7 zd zh (Zj.mk z2 z6)) zn zb)]) := fun _ h => pick_to h z7 zd zh z2 z6 zn zb zu
noncomputable def Z1A (x0 : Int) : Option (Z8) := pick fun r => RRun (Z8A) (EE 48 [(iv x0)] []) r
theorem Z1u (x0 : Int) : Sim (Z8A) (Z1A x0) (EE 48 [(iv x0)] []) := fun _ h => pick_to h
noncomputable def Z2F (x0 : Bool) (x1 : List Z8) : Option (Z3) := pick fun r => ∀ (ox1 : Own), RRun (Z7c) (EE 47 [(bv x0), (.p (.lst ox1 (x1.map Zv)))] []) r
theorem Z2O (x0 : Bool) (x1 : List Z8) (ox1 : Own) : Sim (Z7c) (Z2F x0 x1) (EE 47 [(bv x0), (.p (.lst ox1 (x1.map Zv)))] []) := fun _ h => pick_to h ox1
noncomputable def Z9s (x0 : List Z8) : Option ((List Z8) × Int) := pick fun r => ∀ (ox0 : Own), RRun (Z6P) (EE 54 [(.p (.lst ox0 (x0.map Zv)))] []) r
theorem Ze1 (x0 : List Z8) (ox0 : Own) : Sim (Z6P) (Z9s x0) (EE 54 [(.p (.lst ox0 (x0.map Zv)))] []) := fun _ h => pick_to h ox0
noncomputable def Z3g (x0 : List Z8) : Option (Bool) := pick fun r => ∀ (ox0 : Own), RRun (Z2M) (EE 65 [(.p (.lst ox0 (x0.map Zv))), (.clo 66 [] [])] []) r
theorem Z8f (x0 : List Z8) (ox0 : Own) : Sim (Z2M) (Z3g x0) (EE 65 [(.p (.lst ox0 (x0.map Zv))), (.clo 66 [] [])] []) := fun _ h => pick_to h ox0
noncomputable def Z43 (x0 : List Z8) : Option (Int) := pick fun r => ∀ (ox0 : Own), RRun (Z1q) (EE 73 [(.p (.lst ox0 (x0.map Zv))), (.clo 66 [] [])] []) r
theorem Z9e (x0 : List Z8) (ox0 : Own) : Sim (Z1q) (Z43 x0) (EE 73 [(.p (.lst ox0 (x0.map Zv))), (.clo 66 [] [])] []) := fun _ h => pick_to h ox0
noncomputable def Z2K (x0 : List Z8) (x7 : Int) (x8 : Int) : Option (Int) := pick fun r => ∀ (ox0 : Own), RRun (Z1q) (Zcl 0 (.p (.lst ox0 (x0.map Zv))) (.clo 66 [] []) (iv x7) (iv x8) []) r
theorem Z5H (x0 : List Z8) (x7 : Int) (x8 : Int) (ox0 : Own) : Sim (Z1q) (Z2K x0 x7 x8) (Zcl 0 (.p (.lst ox0 (x0.map Zv))) (.clo 66 [] []) (iv x7) (iv x8) []) := fun _ h => pick_to h ox0
noncomputable def Z80 (x0 : Z8) : Option (Bool) := pick fun r => RRun (Z6Q) (EE 66 [(.p (.agg (ZE x0)))] []) r
theorem ZdD (x0 : Z8) : Sim (Z6Q) (Z80 x0) (EE 66 [(.p (.agg (ZE x0)))] []) := fun _ h => pick_to h
noncomputable def Z56 (x0 : Z8) : Option (Bool) := pick fun r => RRun (Z53) (EE 67 [(.p (.agg (ZE x0)))] []) r
theorem Z8D (x0 : Z8) : Sim (Z53) (Z56 x0) (EE 67 [(.p (.agg (ZE x0)))] []) := fun _ h => pick_to h
noncomputable def Z84 (x0 : List Z8) : Option ((List Z8)) := pick fun r => ∀ (ox0 : Own), RRun (Z81) (EE 68 [(.p (.lst ox0 (x0.map Zv)))] []) r
theorem Zan (x0 : List Z8) (ox0 : Own) : Sim (Z81) (Z84 x0) (EE 68 [(.p (.lst ox0 (x0.map Zv)))] []) := fun _ h => pick_to h ox0
noncomputable def Z6p (x0 : List Z8) : Option ((List Z8) × Int) := pick fun r => ∀ (ox0 : Own), RRun (Z5B) (EE 55 [(.p (.lst ox0 (x0.map Zv)))] []) r
theorem Za8 (x0 : List Z8) (ox0 : Own) : Sim (Z5B) (Z6p x0) (EE 55 [(.p (.lst ox0 (x0.map Zv)))] []) := fun _ h => pick_to h ox0
noncomputable def Z4A (x0 : List Z8) : Option (Bool) := pick fun r => ∀ (ox0 : Own), RRun (Z1O) (EE 69 [(.p (.lst ox0 (x0.map Zv)))] []) r
theorem Z6L (x0 : List Z8) (ox0 : Own) : Sim (Z1O) (Z4A x0) (EE 69 [(.p (.lst ox0 (x0.map Zv)))] []) := fun _ h => pick_to h ox0
noncomputable def Z4w (x3 : Int) (x6 : List Z8) (x7 : Int) (x8 : Int) : Option (Bool) := pick fun r => ∀ (ox6 : Own), RRun (Z1O) (ZbU 0 (iv x3) (.p (.lst ox6 (x6.map Zv))) (iv x7) (iv x8) []) r
theorem Z7I (x3 : Int) (x6 : List Z8) (x7 : Int) (x8 : Int) (ox6 : Own) : Sim (Z1O) (Z4w x3 x6 x7 x8) (ZbU 0 (iv x3) (.p (.lst ox6 (x6.map Zv))) (iv x7) (iv x8) []) := fun _ h => pick_to h ox6
noncomputable def Z7n (x0 : List Z8) : Option ((List Z8)) := pick fun r => ∀ (ox0 : Own), RRun (Z2g) (EE 70 [(.p (.lst ox0 (x0.map Zv)))] []) r
theorem Zd8 (x0 : List Z8) (ox0 : Own) : Sim (Z2g) (Z7n x0) (EE 70 [(.p (.lst ox0 (x0.map Zv)))] []) := fun _ h => pick_to h ox0
noncomputable def Z5r (x3 : List Z8) (x4 : Int) (x7 : List Z8) (x8 : Int) (x9 : Int) : Option ((List Z8)) := pick fun r => ∀ (ox3 : Own) (ox7 : Own) (hox3 : okApp ox3 = true), RRun (Z2g) (Zcw 0 (.p (.lst ox3 (x3.map Zv))) (iv x4) (.p (.lst ox7 (x7.map Zv))) (iv x8) (iv x9) []) r
theorem Z9a (x3 : List Z8) (x4 : Int) (x7 : List Z8) (x8 : Int) (x9 : Int) (ox3 : Own) (ox7 : Own) (hox3 : okApp ox3 = true) : Sim (Z2g) (Z5r x3 x4 x7 x8 x9) (Zcw 0 (.p (.lst ox3 (x3.map Zv))) (iv x4) (.p (.lst ox7 (x7.map Zv))) (iv x8) (iv x9) []) := fun _ h => pick_to h ox3 ox7 hox3
noncomputable def Z35 (x1 : Int) (zl : List Int) (zp : Int) (z7 : Int) (zd : Int) (zh : List Zq) (z2 : Int) (z6 : Int) : Option (Z3 × Int × (List Zq) × Int × Int) := pick fun r => ∀ (zn : Own) (zb : Own) (zu : okApp zb = true), RRun (Z2C zl z7 zd zn) (EE 49 [(.ptr 0 0), (iv x1)] [(Zi (Zk.mk zl zp z7 zd zh (Zj.mk z2 z6)) zn zb)]) r
theorem Zb4 (x1 : Int) (zl : List Int) (zp : Int) (z7 : Int) (zd : Int) (zh : List Zq) (z2 : Int) (z6 : Int) (zn : Own) (zb : Own) (zu : okApp zb = true) : Sim (Z2C zl z7 zd zn) (Z35 x1 zl zp z7 zd zh z2 z6) (EE 49 [(.ptr 0 0), (iv x1)] [(Zi (Zk.mk zl zp z7 zd zh (Zj.mk z2 z6)) zn zb)]) := fun _ h => pick_to h zn zb zu
noncomputable def ZS (x1 : Int) (x2 : Int) (zl : List Int) (z2 : Int) (z6 : Int) : Option (Int × Int × Int) := pick fun r => ∀ (zp : Int) (z7 : Int) (zd : Int) (zh : List Zq) (zn : Own) (zb : Own) (zu : okApp zb = true), RRun (Z4h zl z7 zd zh zn zb) (EE 29 [(.ptr 0 0), (iv x1), (iv x2)] [(Zi (Zk.mk zl zp z7 zd zh (Zj.mk z2 z6)) zn zb)]) r
theorem ZV (x1 : Int) (x2 : Int) (zl : List Int) (zp : Int) (z7 : Int) (zd : Int) (zh : List Zq) (z2 : Int) (z6 : Int) (zn : Own) (zb : Own) (zu : okApp zb = true) : Sim (Z4h zl z7 zd zh zn zb) (ZS x1 x2 zl z2 z6) (EE 29 [(.ptr 0 0), (iv x1), (iv x2)] [(Zi (Zk.mk zl zp z7 zd zh (Zj.mk z2 z6)) zn zb)]) := fun _ h => pick_to h zp z7 zd zh zn zb zu
noncomputable def Z50 (x0 : Int) : Option ((Own × (List Z8))) := pick fun r => RRun (Z4Z) (EE 56 [(iv x0)] []) r
theorem Z72 (x0 : Int) : Sim (Z4Z) (Z50 x0) (EE 56 [(iv x0)] []) := fun _ h => pick_to h
noncomputable def Z4T (x1 : Int) (x2 : Int) (zl : List Int) (zp : Int) (z7 : Int) (zd : Int) (zh : List Zq) (z2 : Int) (z6 : Int) : Option (Int × Int × Int × Int) := pick fun r => ∀ (zn : Own) (zb : Own) (zu : okApp zb = true), RRun (Z3c zl z7 zd zh zn zb) (EE 57 [(.ptr 0 0), (iv x1), (iv x2)] [(Zi (Zk.mk zl zp z7 zd zh (Zj.mk z2 z6)) zn zb)]) r
theorem Z8b (x1 : Int) (x2 : Int) (zl : List Int) (zp : Int) (z7 : Int) (zd : Int) (zh : List Zq) (z2 : Int) (z6 : Int) (zn : Own) (zb : Own) (zu : okApp zb = true) : Sim (Z3c zl z7 zd zh zn zb) (Z4T x1 x2 zl zp z7 zd zh z2 z6) (EE 57 [(.ptr 0 0), (iv x1), (iv x2)] [(Zi (Zk.mk zl zp z7 zd zh (Zj.mk z2 z6)) zn zb)]) := fun _ h => pick_to h zn zb zu
noncomputable def Z8C (x0 : Int) : Option (Int) := pick fun r => RRun (Z5h) (EE 71 [(iv x0)] []) r
theorem ZbV (x0 : Int) : Sim (Z5h) (Z8C x0) (EE 71 [(iv x0)] []) := fun _ h => pick_to h
noncomputable def Z6o (x0 : List Z8) (x1 : Int) : Option (Bool) := pick fun r => ∀ (ox0 : Own), RRun (Z6q) (EE 19 [(.p (.lst ox0 (x0.map Zv))), (iv x1)] []) r
theorem Zdb (x0 : List Z8) (x1 : Int) (ox0 : Own) : Sim (Z6q) (Z6o x0 x1) (EE 19 [(.p (.lst ox0 (x0.map Zv))), (iv x1)] []) := fun _ h => pick_to h ox0
noncomputable def Z3k (x0 : List Z8) (zZ : Int) : Option (Bool) := pick fun r => ∀ (ox0 : Own), RRun (Z2L zZ) (EE 30 [(.p (.lst ox0 (x0.map Zv))), (.clo 31 [] [(.ptr 0 0)])] [[(iv zZ)]]) r
theorem Z8i (x0 : List Z8) (zZ : Int) (ox0 : Own) : Sim (Z2L zZ) (Z3k x0 zZ) (EE 30 [(.p (.lst ox0 (x0.map Zv))), (.clo 31 [] [(.ptr 0 0)])] [[(iv zZ)]]) := fun _ h => pick_to h ox0
noncomputable def Z42 (x0 : List Z8) (zZ : Int) : Option (Int) := pick fun r => ∀ (ox0 : Own), RRun (Z1o zZ) (EE 37 [(.p (.lst ox0 (x0.map Zv))), (.clo 31 [] [(.ptr 0 0)])] [[(iv zZ)]]) r
theorem Z9d (x0 : List Z8) (zZ : Int) (ox0 : Own) : Sim (Z1o zZ) (Z42 x0 zZ) (EE 37 [(.p (.lst ox0 (x0.map Zv))), (.clo 31 [] [(.ptr 0 0)])] [[(iv zZ)]]) := fun _ h => pick_to h ox0
noncomputable def Z2H (x0 : List Z8) (x7 : Int) (x8 : Int) (zZ : Int) : Option (Int) := pick fun r => ∀ (ox0 : Own), RRun (Z1o zZ) (Zc6 1 (.p (.lst ox0 (x0.map Zv))) (.clo 31 [] [(.ptr 0 0)]) (iv x7) (iv x8) [[(iv zZ)]]) r
theorem Z5F (x0 : List Z8) (x7 : Int) (x8 : Int) (zZ : Int) (ox0 : Own) : Sim (Z1o zZ) (Z2H x0 x7 x8 zZ) (Zc6 1 (.p (.lst ox0 (x0.map Zv))) (.clo 31 [] [(.ptr 0 0)]) (iv x7) (iv x8) [[(iv zZ)]]) := fun _ h => pick_to h ox0
noncomputable def Z6A (x0 : Z8) (zZ : Int) : Option (Bool) := pick fun r => RRun (Z5G zZ) (EE 31 [(.p (.agg (ZE x0))), (.ptr 0 0)] [[(iv zZ)]]) r
theorem ZcD (x0 : Z8) (zZ : Int) : Sim (Z5G zZ) (Z6A x0 zZ) (EE 31 [(.p (.agg (ZE x0))), (.ptr 0 0)] [[(iv zZ)]]) := fun _ h => pick_to h
noncomputable def Z5M (x1 : Int) (zl : List Int) (zp : Int) (z7 : Int) (zd : Int) (zh : List Zq) (z2 : Int) (z6 : Int) : Option (Z3 × Int × Int × Int) := pick fun r => ∀ (zn : Own) (zb : Own) (zu : okApp zb = true), RRun (Z1a zl z7 zd zh zn zb) (EE 50 [(.ptr 0 0), (iv x1)] [(Zi (Zk.mk zl zp z7 zd zh (Zj.mk z2 z6)) zn zb)]) r
theorem Zbo (x1 : Int) (zl : List Int) (zp : Int) (z7 : Int) (zd : Int) (zh : List Zq) (z2 : Int) (z6 : Int) (zn : Own) (zb : Own) (zu : okApp zb = true) : Sim (Z1a zl z7 zd zh zn zb) (Z5M x1 zl zp z7 zd zh z2 z6) (EE 50 [(.ptr 0 0), (iv x1)] [(Zi (Zk.mk zl zp z7 zd zh (Zj.mk z2 z6)) zn zb)]) := fun _ h => pick_to h zn zb zu
noncomputable def Z2N (x1 : Int) (x5 : Bool) (x8 : Int) (zl : List Int) (zp : Int) (z7 : Int) (zd : Int) (zh : List Zq) (z2 : Int) (z6 : Int) (z11 : List Z8) : Option (Z3 × Int × Int × Int) := pick fun r => ∀ (b1 : Z3) (zn : Own) (zb : Own) (zB : Own) (zy : Own) (z1g : Own) (zu : okApp zb = true) (zP : okApp zB = true) (zI : okApp zy = true), RRun (Z1a zl z7 zd zh zn zb) (Zcd 1 (.ptr 0 0) (iv x1) (.ptr 1 0) (bv x5) (.ptr 2 0) (.clo 58 [] [(.ptr 2 0)]) (iv x8) [(Zi (Zk.mk zl zp z7 zd zh (Zj.mk z2 z6)) zn zb), (Zo b1 zB zy), [(.p (.lst z1g (z11.map Zv)))]]) r
theorem Z7a (x1 : Int) (x5 : Bool) (x8 : Int) (zl : List Int) (zp : Int) (z7 : Int) (zd : Int) (zh : List Zq) (z2 : Int) (z6 : Int) (b1 : Z3) (z11 : List Z8) (zn : Own) (zb : Own) (zB : Own) (zy : Own) (z1g : Own) (zu : okApp zb = true) (zP : okApp zB = true) (zI : okApp zy = true) : Sim (Z1a zl z7 zd zh zn zb) (Z2N x1 x5 x8 zl zp z7 zd zh z2 z6 z11) (Zcd 1 (.ptr 0 0) (iv x1) (.ptr 1 0) (bv x5) (.ptr 2 0) (.clo 58 [] [(.ptr 2 0)]) (iv x8) [(Zi (Zk.mk zl zp z7 zd zh (Zj.mk z2 z6)) zn zb), (Zo b1 zB zy), [(.p (.lst z1g (z11.map Zv)))]]) := fun _ h => pick_to h b1 zn zb zB zy z1g zu zP zI
noncomputable def Z3w (zl : List Int) (zp : Int) (z7 : Int) (zd : Int) (zh : List Zq) (z2 : Int) (z6 : Int) : Option (Int × (Own × (List Z8)) × Bool × Int × Int × Int) := pick fun r => ∀ (zn : Own) (zb : Own) (zu : okApp zb = true), RRun (Z2D zl z7 zd zh zn zb) (EE 60 [(.ptr 0 0)] [(Zi (Zk.mk zl zp z7 zd zh (Zj.mk z2 z6)) zn zb)]) r
theorem Z7u (zl : List Int) (zp : Int) (z7 : Int) (zd : Int) (zh : List Zq) (z2 : Int) (z6 : Int) (zn : Own) (zb : Own) (zu : okApp zb = true) : Sim (Z2D zl z7 zd zh zn zb) (Z3w zl zp z7 zd zh z2 z6) (EE 60 [(.ptr 0 0)] [(Zi (Zk.mk zl zp z7 zd zh (Zj.mk z2 z6)) zn zb)]) := fun _ h => pick_to h zn zb zu
noncomputable def Z4j (x0 : List Z8) (zZ : List Z8) : Option ((List Z8)) := pick fun r => ∀ (ox0 : Own) (z9W : Own), RRun (Z4k) (EE 58 [(.p (.lst ox0 (x0.map Zv))), (.ptr 0 0)] [[(.p (.lst z9W (zZ.map Zv)))]]) r
theorem Z7k (x0 : List Z8) (zZ : List Z8) (ox0 : Own) (z9W : Own) : Sim (Z4k) (Z4j x0 zZ) (EE 58 [(.p (.lst ox0 (x0.map Zv))), (.ptr 0 0)] [[(.p (.lst z9W (zZ.map Zv)))]]) := fun _ h => pick_to h ox0 z9W
noncomputable def Z7Y (x0 : List Z8) (x1 : List Z8) : Option ((List Z8) × Int) := pick fun r => ∀ (ox0 : Own) (ox1 : Own), RRun (Z5b) (EE 59 [(.p (.lst ox0 (x0.map Zv))), (.p (.lst ox1 (x1.map Zv)))] []) r
theorem ZdE (x0 : List Z8) (x1 : List Z8) (ox0 : Own) (ox1 : Own) : Sim (Z5b) (Z7Y x0 x1) (EE 59 [(.p (.lst ox0 (x0.map Zv))), (.p (.lst ox1 (x1.map Zv)))] []) := fun _ h => pick_to h ox0 ox1
noncomputable def Z6U (x0 : List (List Z8)) : Option ((List Z8)) := pick fun r => ∀ (ox0 : Own), RRun (Z5w) (EE 72 [(.p (.lst ox0 (x0.map (eL Zv))))] []) r
theorem ZaU (x0 : List (List Z8)) (ox0 : Own) : Sim (Z5w) (Z6U x0) (EE 72 [(.p (.lst ox0 (x0.map (eL Zv))))] []) := fun _ h => pick_to h ox0
noncomputable def Z3b (x1 : Int) (zl : List Int) (zp : Int) (z7 : Int) (zd : Int) (zh : List Zq) (z2 : Int) (z6 : Int) : Option (Z3 × Bool × Int × Int × Int × (List Zq) × Int × Int) := pick fun r => ∀ (zn : Own) (zb : Own) (zu : okApp zb = true), RRun (Z2a zl zn) (EE 51 [(.ptr 0 0), (iv x1)] [(Zi (Zk.mk zl zp z7 zd zh (Zj.mk z2 z6)) zn zb)]) r
theorem Zbn (x1 : Int) (zl : List Int) (zp : Int) (z7 : Int) (zd : Int) (zh : List Zq) (z2 : Int) (z6 : Int) (zn : Own) (zb : Own) (zu : okApp zb = true) : Sim (Z2a zl zn) (Z3b x1 zl zp z7 zd zh z2 z6) (EE 51 [(.ptr 0 0), (iv x1)] [(Zi (Zk.mk zl zp z7 zd zh (Zj.mk z2 z6)) zn zb)]) := fun _ h => pick_to h zn zb zu
noncomputable def Z8H  : Option ((List ByteArray)) := pick fun r => RRun (Z74) (EE 62 [] []) r
theorem ZdV  : Sim (Z74) (Z8H) (EE 62 [] []) := fun _ h => pick_to h
noncomputable def Z3G (x0 : List ByteArray) (zl : List Int) (zp : Int) : Option (Int × Int) := pick fun r => ∀ (z7 : Int) (zd : Int) (zh : List Zq) (z2 : Int) (z6 : Int) (ox0 : Own) (zn : Own) (zb : Own) (zu : okApp zb = true), RRun (Z1l zl z7 zd zh z2 z6 zn zb) (EE 61 [(.p (.lst ox0 (x0.map eS))), (.clo 27 [(.ptr 0 0)] [])] [(Zi (Zk.mk zl zp z7 zd zh (Zj.mk z2 z6)) zn zb)]) r
theorem Z8W (x0 : List ByteArray) (zl : List Int) (zp : Int) (z7 : Int) (zd : Int) (zh : List Zq) (z2 : Int) (z6 : Int) (ox0 : Own) (zn : Own) (zb : Own) (zu : okApp zb = true) : Sim (Z1l zl z7 zd zh z2 z6 zn zb) (Z3G x0 zl zp) (EE 61 [(.p (.lst ox0 (x0.map eS))), (.clo 27 [(.ptr 0 0)] [])] [(Zi (Zk.mk zl zp z7 zd zh (Zj.mk z2 z6)) zn zb)]) := fun _ h => pick_to h z7 zd zh z2 z6 ox0 zn zb zu
noncomputable def Z1v (x0 : List ByteArray) (x7 : Int) (x8 : Int) (zl : List Int) (zp : Int) : Option (Int × Int) := pick fun r => ∀ (z7 : Int) (zd : Int) (zh : List Zq) (z2 : Int) (z6 : Int) (ox0 : Own) (zn : Own) (zb : Own) (zu : okApp zb = true), RRun (Z1l zl z7 zd zh z2 z6 zn zb) (Zcv 1 (.p (.lst ox0 (x0.map eS))) (.clo 27 [(.ptr 0 0)] []) (iv x7) (iv x8) [(Zi (Zk.mk zl zp z7 zd zh (Zj.mk z2 z6)) zn zb)]) r
theorem Z5z (x0 : List ByteArray) (x7 : Int) (x8 : Int) (zl : List Int) (zp : Int) (z7 : Int) (zd : Int) (zh : List Zq) (z2 : Int) (z6 : Int) (ox0 : Own) (zn : Own) (zb : Own) (zu : okApp zb = true) : Sim (Z1l zl z7 zd zh z2 z6 zn zb) (Z1v x0 x7 x8 zl zp) (Zcv 1 (.p (.lst ox0 (x0.map eS))) (.clo 27 [(.ptr 0 0)] []) (iv x7) (iv x8) [(Zi (Zk.mk zl zp z7 zd zh (Zj.mk z2 z6)) zn zb)]) := fun _ h => pick_to h z7 zd zh z2 z6 ox0 zn zb zu
noncomputable def Z4r (x1 : Z3) (x2 : Bool) (zl : List Int) (zp : Int) (z7 : Int) (zd : Int) (zh : List Zq) (z2 : Int) (z6 : Int) : Option (Z3 × Int × Int × Int) := pick fun r => ∀ (z29 : Own) (z1M : Own) (zn : Own) (zb : Own) (zu : okApp zb = true), RRun (Z2B zl z7 zd zh zn zb) (EE 43 [(.ptr 0 0), (.p (.agg (Zz x1 z29 z1M))), (bv x2)] [(Zi (Zk.mk zl zp z7 zd zh (Zj.mk z2 z6)) zn zb)]) r
theorem Zb7 (x1 : Z3) (x2 : Bool) (zl : List Int) (zp : Int) (z7 : Int) (zd : Int) (zh : List Zq) (z2 : Int) (z6 : Int) (z29 : Own) (z1M : Own) (zn : Own) (zb : Own) (zu : okApp zb = true) : Sim (Z2B zl z7 zd zh zn zb) (Z4r x1 x2 zl zp z7 zd zh z2 z6) (EE 43 [(.ptr 0 0), (.p (.agg (Zz x1 z29 z1M))), (bv x2)] [(Zi (Zk.mk zl zp z7 zd zh (Zj.mk z2 z6)) zn zb)]) := fun _ h => pick_to h z29 z1M zn zb zu
noncomputable def Z4x (x1 : Int) (zl : List Int) (zp : Int) (z7 : Int) (zd : Int) (zh : List Zq) (z2 : Int) (z6 : Int) : Option (Int × Int × Int × Int × Int) := pick fun r => ∀ (zn : Own) (zb : Own) (zu : okApp zb = true), RRun (Z1P zl z7 zd zh zn zb) (EE 52 [(.ptr 0 0), (iv x1)] [(Zi (Zk.mk zl zp z7 zd zh (Zj.mk z2 z6)) zn zb)]) r
theorem Zb5 (x1 : Int) (zl : List Int) (zp : Int) (z7 : Int) (zd : Int) (zh : List Zq) (z2 : Int) (z6 : Int) (zn : Own) (zb : Own) (zu : okApp zb = true) : Sim (Z1P zl z7 zd zh zn zb) (Z4x x1 zl zp z7 zd zh z2 z6) (EE 52 [(.ptr 0 0), (iv x1)] [(Zi (Zk.mk zl zp z7 zd zh (Zj.mk z2 z6)) zn zb)]) := fun _ h => pick_to h zn zb zu
noncomputable def Z3x (zl : List Int) (zp : Int) (z7 : Int) (zd : Int) (zh : List Zq) (z2 : Int) (z6 : Int) : Option (Int × Int) := pick fun r => ∀ (zn : Own) (zb : Own) (zu : okApp zb = true), RRun (Z20 zl z7 zd zh z2 z6 zn zb) (EE 63 [(.ptr 0 0)] [(Zi (Zk.mk zl zp z7 zd zh (Zj.mk z2 z6)) zn zb)]) r
theorem Z7r (zl : List Int) (zp : Int) (z7 : Int) (zd : Int) (zh : List Zq) (z2 : Int) (z6 : Int) (zn : Own) (zb : Own) (zu : okApp zb = true) : Sim (Z20 zl z7 zd zh z2 z6 zn zb) (Z3x zl zp z7 zd zh z2 z6) (EE 63 [(.ptr 0 0)] [(Zi (Zk.mk zl zp z7 zd zh (Zj.mk z2 z6)) zn zb)]) := fun _ h => pick_to h zn zb zu
noncomputable def Z2x (x3 : Int) (x4 : Int) (zl : List Int) (zp : Int) (z7 : Int) (zd : Int) (zh : List Zq) (z2 : Int) (z6 : Int) : Option (Int × Int) := pick fun r => ∀ (zn : Own) (zb : Own) (zu : okApp zb = true), RRun (Z20 zl z7 zd zh z2 z6 zn zb) (Zch 1 (.ptr 0 0) (iv x3) (iv x4) [(Zi (Zk.mk zl zp z7 zd zh (Zj.mk z2 z6)) zn zb)]) r
theorem Z6V (x3 : Int) (x4 : Int) (zl : List Int) (zp : Int) (z7 : Int) (zd : Int) (zh : List Zq) (z2 : Int) (z6 : Int) (zn : Own) (zb : Own) (zu : okApp zb = true) : Sim (Z20 zl z7 zd zh z2 z6 zn zb) (Z2x x3 x4 zl zp z7 zd zh z2 z6) (Zch 1 (.ptr 0 0) (iv x3) (iv x4) [(Zi (Zk.mk zl zp z7 zd zh (Zj.mk z2 z6)) zn zb)]) := fun _ h => pick_to h zn zb zu
noncomputable def Z3C (x3 : List Z3) (zl : List Int) (zp : Int) (z7 : Int) (zd : Int) (zh : List Zq) (z2 : Int) (z6 : Int) : Option (Z3 × Int × Int × Int × (List Zq) × Int × Int) := pick fun r => ∀ (b1 : Z3) (ox3 : Own) (zn : Own) (zb : Own) (zB : Own) (zy : Own) (hox3 : okApp ox3 = true) (zu : okApp zb = true) (zP : okApp zB = true) (zI : okApp zy = true), RRun (Z2q zl zn) (Zcr 1 (.ptr 0 0) (.ptr 1 0) (.p (.lst ox3 (x3.map ZD))) [(Zi (Zk.mk zl zp z7 zd zh (Zj.mk z2 z6)) zn zb), (Zo b1 zB zy)]) r
theorem Z7s (x3 : List Z3) (zl : List Int) (zp : Int) (z7 : Int) (zd : Int) (zh : List Zq) (z2 : Int) (z6 : Int) (b1 : Z3) (ox3 : Own) (zn : Own) (zb : Own) (zB : Own) (zy : Own) (hox3 : okApp ox3 = true) (zu : okApp zb = true) (zP : okApp zB = true) (zI : okApp zy = true) : Sim (Z2q zl zn) (Z3C x3 zl zp z7 zd zh z2 z6) (Zcr 1 (.ptr 0 0) (.ptr 1 0) (.p (.lst ox3 (x3.map ZD))) [(Zi (Zk.mk zl zp z7 zd zh (Zj.mk z2 z6)) zn zb), (Zo b1 zB zy)]) := fun _ h => pick_to h b1 ox3 zn zb zB zy hox3 zu zP zI
noncomputable def Z5e (x50 : List Zq) (x51 : Int) (x52 : Int) (z1S : List Int) (zQ : Int) (zH : Int) (zR : Int) (zK : Int) (zU : Int) (zT : Int) (zM : Int) (zN : Int) (zO : List Z8) (zL : List Z3) (z13 : Bool) : Option (ZC × Zj) := pick fun r => ∀ (b0 : ZC) (b1 : Zj) (z1L : Int) (z1C : Int) (z1i : List Zq) (z1t : Int) (ox50 : Own) (zJ : Own) (zF : Own) (z2i : Own) (z19 : Own) (z10 : Own) (zX : Own) (z1y : okApp zJ = true) (z1p : okApp zF = true) (z2r : okApp z19 = true), RRun (Z2l) (ZbR 0 (.ptr 0 0) (.ptr 1 0) (.ptr 2 0) (.ptr 3 0) (.p (.lst ox50 (x50.map Z1D))) (iv x51) (iv x52) [(ZA b0 zJ zF), (ZG b1), (Zi (Zk.mk z1S z1L zQ z1C z1i (Zj.mk zH zR)) z2i z19), (ZA (ZC.mk (Z3.mk zK zU zT zM zN zO zL) z1t z13) z10 zX)]) r
theorem Z9z (x50 : List Zq) (x51 : Int) (x52 : Int) (b0 : ZC) (b1 : Zj) (z1S : List Int) (z1L : Int) (zQ : Int) (z1C : Int) (z1i : List Zq) (zH : Int) (zR : Int) (zK : Int) (zU : Int) (zT : Int) (zM : Int) (zN : Int) (zO : List Z8) (zL : List Z3) (z1t : Int) (z13 : Bool) (ox50 : Own) (zJ : Own) (zF : Own) (z2i : Own) (z19 : Own) (z10 : Own) (zX : Own) (z1y : okApp zJ = true) (z1p : okApp zF = true) (z2r : okApp z19 = true) : Sim (Z2l) (Z5e x50 x51 x52 z1S zQ zH zR zK zU zT zM zN zO zL z13) (ZbR 0 (.ptr 0 0) (.ptr 1 0) (.ptr 2 0) (.ptr 3 0) (.p (.lst ox50 (x50.map Z1D))) (iv x51) (iv x52) [(ZA b0 zJ zF), (ZG b1), (Zi (Zk.mk z1S z1L zQ z1C z1i (Zj.mk zH zR)) z2i z19), (ZA (ZC.mk (Z3.mk zK zU zT zM zN zO zL) z1t z13) z10 zX)]) := fun _ h => pick_to h b0 b1 z1L z1C z1i z1t ox50 zJ zF z2i z19 z10 zX z1y z1p z2r
noncomputable def Z1r (x0 : Z3) : Option (Int × Int) := pick fun r => ∀ (z1d : Own) (zY : Own), RRun (Z1Z) (EE 24 [(.p (.agg (Zz x0 z1d zY)))] []) r
theorem Z3N (x0 : Z3) (z1d : Own) (zY : Own) : Sim (Z1Z) (Z1r x0) (EE 24 [(.p (.agg (Zz x0 z1d zY)))] []) := fun _ h => pick_to h z1d zY
noncomputable def Z58 (x2 : Int) (x3 : Int) (x23 : List Z3) (x24 : Int) (x25 : Int) : Option (Int × Int) := pick fun r => ∀ (ox23 : Own), RRun (Z1Z) (Zcj 0 (iv x2) (iv x3) (.p (.lst ox23 (x23.map ZD))) (iv x24) (iv x25) []) r
theorem Z9y (x2 : Int) (x3 : Int) (x23 : List Z3) (x24 : Int) (x25 : Int) (ox23 : Own) : Sim (Z1Z) (Z58 x2 x3 x23 x24 x25) (Zcj 0 (iv x2) (iv x3) (.p (.lst ox23 (x23.map ZD))) (iv x24) (iv x25) []) := fun _ h => pick_to h ox23
noncomputable def Z4a (x2 : Int) (x3 : Int) (x45 : List Z3) (x46 : Int) (x47 : Int) : Option (Int × Int) := pick fun r => ∀ (ox45 : Own), RRun (Z1Z) (ZaK 0 (iv x2) (iv x3) (.p (.lst ox45 (x45.map ZD))) (iv x46) (iv x47) []) r
theorem Z9p (x2 : Int) (x3 : Int) (x45 : List Z3) (x46 : Int) (x47 : Int) (ox45 : Own) : Sim (Z1Z) (Z4a x2 x3 x45 x46 x47) (ZaK 0 (iv x2) (iv x3) (.p (.lst ox45 (x45.map ZD))) (iv x46) (iv x47) []) := fun _ h => pick_to h ox45
noncomputable def Z6f (x0 : Int) (x1 : Int) : Option (Int) := pick fun r => RRun (Z4m) (EE 33 [(iv x0), (iv x1)] []) r
theorem ZdO (x0 : Int) (x1 : Int) : Sim (Z4m) (Z6f x0 x1) (EE 33 [(iv x0), (iv x1)] []) := fun _ h => pick_to h
noncomputable def Z7E (x0 : Int) : Option (Int) := pick fun r => RRun (Z6H) (EE 38 [(iv x0)] []) r
theorem Zbv (x0 : Int) : Sim (Z6H) (Z7E x0) (EE 38 [(iv x0)] []) := fun _ h => pick_to h
noncomputable def Z9T (x0 : Int) (x1 : Int) : Option (Int) := pick fun r => RRun (Z6u) (EE 32 [(iv x0), (iv x1)] []) r
theorem Zf1 (x0 : Int) (x1 : Int) : Sim (Z6u) (Z9T x0 x1) (EE 32 [(iv x0), (iv x1)] []) := fun _ h => pick_to h
noncomputable def Z2e (x0 : Z3) : Option (Int) := pick fun r => ∀ (z1d : Own) (zY : Own), RRun (Z3f) (EE 25 [(.p (.agg (Zz x0 z1d zY)))] []) r
theorem Z7i (x0 : Z3) (z1d : Own) (zY : Own) : Sim (Z3f) (Z2e x0) (EE 25 [(.p (.agg (Zz x0 z1d zY)))] []) := fun _ h => pick_to h z1d zY
noncomputable def Z3r (x3 : Int) (x8 : List Z3) (x9 : Int) (x10 : Int) (b0 : Z3) : Option (Int) := pick fun r => ∀ (ox8 : Own) (z1e : Own) (z12 : Own), RRun (Z3f) (Zc4 0 (.ptr 0 0) (iv x3) (.p (.lst ox8 (x8.map ZD))) (iv x9) (iv x10) [(Zo b0 z1e z12)]) r
theorem Za1 (x3 : Int) (x8 : List Z3) (x9 : Int) (x10 : Int) (b0 : Z3) (ox8 : Own) (z1e : Own) (z12 : Own) : Sim (Z3f) (Z3r x3 x8 x9 x10 b0) (Zc4 0 (.ptr 0 0) (iv x3) (.p (.lst ox8 (x8.map ZD))) (iv x9) (iv x10) [(Zo b0 z1e z12)]) := fun _ h => pick_to h ox8 z1e z12
noncomputable def Z75 (x0 : ZC) : Option (Int) := pick fun r => ∀ (z2y : Own) (z2k : Own), RRun (Z6h) (EE 26 [(.p (.agg (Z1w x0 z2y z2k)))] []) r
theorem Zb8 (x0 : ZC) (z2y : Own) (z2k : Own) : Sim (Z6h) (Z75 x0) (EE 26 [(.p (.agg (Z1w x0 z2y z2k)))] []) := fun _ h => pick_to h z2y z2k
noncomputable def Z2Q (x0 : Z3) : Option (Bool) := pick fun r => ∀ (z1d : Own) (zY : Own), RRun (Z4b) (EE 34 [(.p (.agg (Zz x0 z1d zY)))] []) r
theorem Z9Z (x0 : Z3) (z1d : Own) (zY : Own) : Sim (Z4b) (Z2Q x0) (EE 34 [(.p (.agg (Zz x0 z1d zY)))] []) := fun _ h => pick_to h z1d zY
noncomputable def Z3v (x0 : List Z3) : Option (Bool) := pick fun r => ∀ (ox0 : Own), RRun (Z2T) (EE 39 [(.p (.lst ox0 (x0.map ZD))), (.clo 40 [] [])] []) r
theorem Z8o (x0 : List Z3) (ox0 : Own) : Sim (Z2T) (Z3v x0) (EE 39 [(.p (.lst ox0 (x0.map ZD))), (.clo 40 [] [])] []) := fun _ h => pick_to h ox0
noncomputable def Z4c (x0 : List Z3) : Option (Int) := pick fun r => ∀ (ox0 : Own), RRun (Z1s) (EE 44 [(.p (.lst ox0 (x0.map ZD))), (.clo 40 [] [])] []) r
theorem Z9t (x0 : List Z3) (ox0 : Own) : Sim (Z1s) (Z4c x0) (EE 44 [(.p (.lst ox0 (x0.map ZD))), (.clo 40 [] [])] []) := fun _ h => pick_to h ox0
noncomputable def Z2R (x0 : List Z3) (x7 : Int) (x8 : Int) : Option (Int) := pick fun r => ∀ (ox0 : Own), RRun (Z1s) (Zc2 0 (.p (.lst ox0 (x0.map ZD))) (.clo 40 [] []) (iv x7) (iv x8) []) r
theorem Z5S (x0 : List Z3) (x7 : Int) (x8 : Int) (ox0 : Own) : Sim (Z1s) (Z2R x0 x7 x8) (Zc2 0 (.p (.lst ox0 (x0.map ZD))) (.clo 40 [] []) (iv x7) (iv x8) []) := fun _ h => pick_to h ox0
noncomputable def Z6B (x0 : Z3) : Option (Bool) := pick fun r => ∀ (z1d : Own) (zY : Own), RRun (Z5D) (EE 40 [(.p (.agg (Zz x0 z1d zY)))] []) r
theorem ZcE (x0 : Z3) (z1d : Own) (zY : Own) : Sim (Z5D) (Z6B x0) (EE 40 [(.p (.agg (Zz x0 z1d zY)))] []) := fun _ h => pick_to h z1d zY
noncomputable def Z38 (x3 : ByteArray) (x4 : Int) (x17 : List Int) (x18 : Int) (x19 : Int) : Option (Bool) := pick fun r => ∀ (ox17 : Own), RRun (Z18) (ZbQ 0 (.p (.v (.string x3))) (iv x4) (.p (.lst ox17 (x17.map (eI .i64)))) (iv x18) (iv x19) []) r
theorem Z6b (x3 : ByteArray) (x4 : Int) (x17 : List Int) (x18 : Int) (x19 : Int) (ox17 : Own) : Sim (Z18) (Z38 x3 x4 x17 x18 x19) (ZbQ 0 (.p (.v (.string x3))) (iv x4) (.p (.lst ox17 (x17.map (eI .i64)))) (iv x18) (iv x19) []) := fun _ h => pick_to h ox17
end Go.Proofs.YtadodmjdkphddaaDoor.N2
end
