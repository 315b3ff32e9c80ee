/- The functions, read typed: their types, and what they stand for. No condition. -/
import Derived.Test.YtadodmjdkphddaaDoorSim
import Derived.Test.YtadodmjdkphddaaDoorEqs

section
set_option linter.unusedSimpArgs false
set_option linter.unusedVariables false
namespace Go.Proofs.YtadodmjdkphddaaDoor.N2
open Go Go.Abs
set_option linter.unusedVariables false
set_option maxRecDepth 100000
structure Z7 where
 Lo : Int
 Hi : Int
 deriving Inhabited
def Z3J (a : Z7) : List PV := [(eI .i64) a.Lo, (eI .i64) a.Hi]
def Zs (a : Z7) : PV := .agg (Z3J a)
def ZF (a : Z7) : List PV := [(eI .i64) a.Lo, (eI .i64) a.Hi]
def Z1m (a : Z7) : Row := [.p ((eI .i64) a.Lo), .p ((eI .i64) a.Hi)]
theorem Z8Y {a b : Z7} (h : Z3J a = Z3J b) : a = b := by
 have h0 : a.Lo = b.Lo := eI_inj _ _ (congrArg (fun l => l.getD 0 .junk) h)
 have h1 : a.Hi = b.Hi := eI_inj _ _ (congrArg (fun l => l.getD 1 .junk) h)
 cases a; cases b
 cases h0
 cases h1
 rfl
theorem Z2j (a b : Z7) (h : Zs a = Zs b) : a = b := Z8Y (congrArg pC h)
structure Z3 where
 Kind : Int
 Lo : Int
 Hi : Int
 Mode : Int
 Ref : Int
 Set : (List Z7)
 Kids : (List Z3)
instance : Inhabited Z3 := ⟨⟨default, default, default, default, default, default, default⟩⟩
mutual
def ZK : Z3 → PV
 | ⟨Kind_, Lo_, Hi_, Mode_, Ref_, Set_, Kids_⟩ => .agg [(eI .i64) Kind_, (eI .i64) Lo_, (eI .i64) Hi_, (eI .i64) Mode_, (eI .i64) Ref_, (eL Zs) Set_, .lst .sh (Z3A Kids_)]
def Z3A : List Z3 → List PV
 | [] => []
 | x :: r => ZK x :: Z3A r
end
theorem Z9m : ∀ l, Z3A l = l.map ZK
 | [] => rfl
 | x :: r => by rw [Z3A, Z9m r]; rfl
def Z2m (a : Z3) : List PV := [(eI .i64) a.Kind, (eI .i64) a.Lo, (eI .i64) a.Hi, (eI .i64) a.Mode, (eI .i64) a.Ref, (eL Zs) a.Set, (eL ZK) a.Kids]
theorem Z2V (a : Z3) : ZK a = .agg (Z2m a) := by
 cases a; rw [ZK, Z9m]; rfl
theorem Z5Z (a : Z3) : pcells (ZK a) = Z2m a := by rw [Z2V]; rfl
theorem Zbd (a : Z3) : (pcells (ZK a)).length = 7 := by rw [Z2V]; rfl
def ZD (a : Z3) (o0 o1 : Own) : List PV := [(eI .i64) a.Kind, (eI .i64) a.Lo, (eI .i64) a.Hi, (eI .i64) a.Mode, (eI .i64) a.Ref, .lst o0 (a.Set.map Zs), .lst o1 (a.Kids.map ZK)]
def Zq (a : Z3) (o0 o1 : Own) : Row := [.p ((eI .i64) a.Kind), .p ((eI .i64) a.Lo), .p ((eI .i64) a.Hi), .p ((eI .i64) a.Mode), .p ((eI .i64) a.Ref), .p (.lst o0 (a.Set.map Zs)), .p (.lst o1 (a.Kids.map ZK))]
mutual
theorem Z9n : ∀ a b : Z3, ZK a = ZK b → a = b
 | ⟨Kind_, Lo_, Hi_, Mode_, Ref_, Set_, Kids_⟩, ⟨Kind_2, Lo_2, Hi_2, Mode_2, Ref_2, Set_2, Kids_2⟩, h => by
  rw [ZK, ZK] at h
  have h0 : Kind_ = Kind_2 := eI_inj _ _ (congrArg (fun l => (pC l).getD 0 .junk) h)
  have h1 : Lo_ = Lo_2 := eI_inj _ _ (congrArg (fun l => (pC l).getD 1 .junk) h)
  have h2 : Hi_ = Hi_2 := eI_inj _ _ (congrArg (fun l => (pC l).getD 2 .junk) h)
  have h3 : Mode_ = Mode_2 := eI_inj _ _ (congrArg (fun l => (pC l).getD 3 .junk) h)
  have h4 : Ref_ = Ref_2 := eI_inj _ _ (congrArg (fun l => (pC l).getD 4 .junk) h)
  have h5 : Set_ = Set_2 := (eL_inj Z2j) _ _ (congrArg (fun l => (pC l).getD 5 .junk) h)
  have h6 : Kids_ = Kids_2 := Z91 Kids_ Kids_2 (congrArg (fun l => pL ((pC l).getD 6 .junk)) h)
  subst h0
  subst h1
  subst h2
  subst h3
  subst h4
  subst h5
  subst h6
  rfl
theorem Z91 : ∀ a b : List Z3, Z3A a = Z3A b → a = b
 | [], [], _ => rfl
 | [], _ :: _, h => by simp [Z3A] at h
 | _ :: _, [], h => by simp [Z3A] at h
 | x :: r, y :: t, h => by
  simp only [Z3A, List.cons.injEq] at h
  rw [Z9n x y h.1, Z91 r t h.2]
end
theorem Z2v {a b : Z3} (h : Z2m a = Z2m b) : a = b := Z9n a b (by rw [Z2V, Z2V, h])
structure ZC where
 Root : Z3
 Groups : Int
 Fold : Bool
 deriving Inhabited
def Z7Q (a : ZC) : List PV := [(eI .i64) a.Root.Kind, (eI .i64) a.Root.Lo, (eI .i64) a.Root.Hi, (eI .i64) a.Root.Mode, (eI .i64) a.Root.Ref, (eL Zs) a.Root.Set, (eL ZK) a.Root.Kids, (eI .i64) a.Groups, eB a.Fold]
def Z9Q (a : ZC) : PV := .agg (Z7Q a)
def Z1l (a : ZC) (o0 o1 : Own) : List PV := [(eI .i64) a.Root.Kind, (eI .i64) a.Root.Lo, (eI .i64) a.Root.Hi, (eI .i64) a.Root.Mode, (eI .i64) a.Root.Ref, .lst o0 (a.Root.Set.map Zs), .lst o1 (a.Root.Kids.map ZK), (eI .i64) a.Groups, eB a.Fold]
def Zv (a : ZC) (o0 o1 : Own) : Row := [.p ((eI .i64) a.Root.Kind), .p ((eI .i64) a.Root.Lo), .p ((eI .i64) a.Root.Hi), .p ((eI .i64) a.Root.Mode), .p ((eI .i64) a.Root.Ref), .p (.lst o0 (a.Root.Set.map Zs)), .p (.lst o1 (a.Root.Kids.map ZK)), .p ((eI .i64) a.Groups), .p (eB a.Fold)]
theorem Z8i {a b : ZC} (h : Z7Q a = Z7Q b) : a = b := by
 have h0 : a.Root = b.Root := Z2v (congrArg (fun l => (l.drop 0).take 7) h)
 have h1 : a.Groups = b.Groups := eI_inj _ _ (congrArg (fun l => l.getD 7 .junk) h)
 have h2 : a.Fold = b.Fold := eB_inj _ _ (congrArg (fun l => l.getD 8 .junk) h)
 cases a; cases b
 cases h0
 cases h1
 cases h2
 rfl
theorem ZeZ (a b : ZC) (h : Z9Q a = Z9Q b) : a = b := Z8i (congrArg pC h)
structure Zj where
 Code : Int
 At : Int
 deriving Inhabited
def Z8H (a : Zj) : List PV := [(eI .i64) a.Code, (eI .i64) a.At]
def Zbg (a : Zj) : PV := .agg (Z8H a)
def Z12 (a : Zj) : List PV := [(eI .i64) a.Code, (eI .i64) a.At]
def ZE (a : Zj) : Row := [.p ((eI .i64) a.Code), .p ((eI .i64) a.At)]
theorem Z6U {a b : Zj} (h : Z8H a = Z8H b) : a = b := by
 have h0 : a.Code = b.Code := eI_inj _ _ (congrArg (fun l => l.getD 0 .junk) h)
 have h1 : a.At = b.At := eI_inj _ _ (congrArg (fun l => l.getD 1 .junk) h)
 cases a; cases b
 cases h0
 cases h1
 rfl
theorem ZgD (a b : Zj) (h : Zbg a = Zbg b) : a = b := Z6U (congrArg pC h)
structure Zr where
 group : Int
 at_ : Int
 deriving Inhabited
def Z6f (a : Zr) : List PV := [(eI .i64) a.group, (eI .i64) a.at_]
def Z1y (a : Zr) : PV := .agg (Z6f a)
def Z7R (a : Zr) : List PV := [(eI .i64) a.group, (eI .i64) a.at_]
def Z7P (a : Zr) : Row := [.p ((eI .i64) a.group), .p ((eI .i64) a.at_)]
theorem Zbp {a b : Zr} (h : Z6f a = Z6f b) : a = b := by
 have h0 : a.group = b.group := eI_inj _ _ (congrArg (fun l => l.getD 0 .junk) h)
 have h1 : a.at_ = b.at_ := eI_inj _ _ (congrArg (fun l => l.getD 1 .junk) h)
 cases a; cases b
 cases h0
 cases h1
 rfl
theorem Z3z (a b : Zr) (h : Z1y a = Z1y b) : a = b := Zbp (congrArg pC h)
structure Zk where
 b : (List Int)
 at_ : Int
 groups : Int
 deep : Int
 refs : (List Zr)
 fault : Zj
 deriving Inhabited
def Z8q (a : Zk) : List PV := [(eL (eI .u8)) a.b, (eI .i64) a.at_, (eI .i64) a.groups, (eI .i64) a.deep, (eL Z1y) a.refs, (eI .i64) a.fault.Code, (eI .i64) a.fault.At]
def Zam (a : Zk) : PV := .agg (Z8q a)
def Zcn (a : Zk) (o0 o1 : Own) : List PV := [.lst o0 (a.b.map (eI .u8)), (eI .i64) a.at_, (eI .i64) a.groups, (eI .i64) a.deep, .lst o1 (a.refs.map Z1y), (eI .i64) a.fault.Code, (eI .i64) a.fault.At]
def Zi (a : Zk) (o0 o1 : Own) : Row := [.p (.lst o0 (a.b.map (eI .u8))), .p ((eI .i64) a.at_), .p ((eI .i64) a.groups), .p ((eI .i64) a.deep), .p (.lst o1 (a.refs.map Z1y)), .p ((eI .i64) a.fault.Code), .p ((eI .i64) a.fault.At)]
theorem Zbz {a b : Zk} (h : Z8q a = Z8q b) : a = b := by
 have h0 : a.b = b.b := (eL_inj eI_inj) _ _ (congrArg (fun l => l.getD 0 .junk) h)
 have h1 : a.at_ = b.at_ := eI_inj _ _ (congrArg (fun l => l.getD 1 .junk) h)
 have h2 : a.groups = b.groups := eI_inj _ _ (congrArg (fun l => l.getD 2 .junk) h)
 have h3 : a.deep = b.deep := eI_inj _ _ (congrArg (fun l => l.getD 3 .junk) h)
 have h4 : a.refs = b.refs := (eL_inj Z3z) _ _ (congrArg (fun l => l.getD 4 .junk) h)
 have h5 : a.fault = b.fault := Z6U (congrArg (fun l => (l.drop 5).take 2) h)
 cases a; cases b
 cases h0
 cases h1
 cases h2
 cases h3
 cases h4
 cases h5
 rfl
theorem Zfn (a b : Zk) (h : Zam a = Zam b) : a = b := Zbz (congrArg pC h)
end Go.Proofs.YtadodmjdkphddaaDoor.N2
end
section
set_option linter.unusedSimpArgs false
set_option linter.unusedVariables false
namespace Go.Proofs.YtadodmjdkphddaaDoor.N2
open Go Go.Abs
set_option linter.unusedVariables false
set_option maxRecDepth 100000
abbrev Z3a (zl : List Int) (z6 : Int) (zd : Int) (zh : List Zr) (z1 : Int) (z2 : Int) (zn : Own) (zb : Own) : (Bool × Int) → Res → Prop := fun r q => ∃ (ex : List Row), q = ((bv r.1), [(Zi (Zk.mk zl r.2 z6 zd zh (Zj.mk z1 z2)) zn zb)] ++ ex)
theorem Zb5 (zl : List Int) (z6 : Int) (zd : Int) (zh : List Zr) (z1 : Int) (z2 : Int) (zn : Own) (zb : Own) : ∀ a b q, Z3a zl z6 zd zh z1 z2 zn zb a q → Z3a zl z6 zd zh z1 z2 zn zb b q → a = b := by
 rintro a b q ⟨_, e1⟩ ⟨_, e2⟩
 have e := e1.symm.trans e2
 exact Prod.ext (congrArg (fun q : Res => pB (pA q.1)) e) (congrArg (fun q : Res => pI (pA (cellAt q 0 1))) e)
abbrev Z4j  : (Int × Int) → Res → Prop := fun r q => ∃ (ex : List Row), q = ((.p (.tup [(.v (.int .i32 r.1)), (.v (.int .i64 r.2))])), ex)
theorem Z8Z  : ∀ a b q, Z4j  a q → Z4j  b q → a = b := by
 rintro a b q ⟨_, e1⟩ ⟨_, e2⟩
 have e := e1.symm.trans e2
 exact Prod.ext (congrArg (fun q : Res => pI ((pT (pA q.1)).getD 0 .junk)) e) (congrArg (fun q : Res => pI ((pT (pA q.1)).getD 1 .junk)) e)
abbrev Z4W  : (Int × Int) → Res → Prop := fun r q => ∃ (ex : List Row), q = ((.p (.tup [(.v (.int .i64 r.1)), (.v (.int .i64 r.2))])), ex)
theorem Zdc  : ∀ a b q, Z4W  a q → Z4W  b q → a = b := by
 rintro a b q ⟨_, e1⟩ ⟨_, e2⟩
 have e := e1.symm.trans e2
 exact Prod.ext (congrArg (fun q : Res => pI ((pT (pA q.1)).getD 0 .junk)) e) (congrArg (fun q : Res => pI ((pT (pA q.1)).getD 1 .junk)) e)
abbrev Z3O (b0 : Zk) (zn : Own) (zb : Own) : (Int) → Res → Prop := fun r q => ∃ (ex : List Row), q = ((iv r), [(Zi b0 zn zb)] ++ ex)
theorem ZaR (b0 : Zk) (zn : Own) (zb : Own) : ∀ a b q, Z3O b0 zn zb a q → Z3O b0 zn zb b q → a = b := by
 rintro a b q ⟨_, e1⟩ ⟨_, e2⟩
 have e := e1.symm.trans e2
 exact congrArg (fun q : Res => pI (pA q.1)) e
abbrev Z5o  : (Z3) → Res → Prop := fun r q => ∃ (ex : List Row), q = ((.p (.agg (ZD r .sh .sh))), ex)
theorem Zci  : ∀ a b q, Z5o  a q → Z5o  b q → a = b := by
 rintro a b q ⟨_, e1⟩ ⟨_, e2⟩
 have e := e1.symm.trans e2
 exact Z2v (congrArg (fun q : Res => pC (pA q.1)) e)
abbrev Z4E (zl : List Int) (z6 : Int) (zd : Int) (zh : List Zr) (z1 : Int) (z2 : Int) (zn : Own) (zb : Own) : (Int × Int) → Res → Prop := fun r q => ∃ (ex : List Row), q = ((iv r.1), [(Zi (Zk.mk zl r.2 z6 zd zh (Zj.mk z1 z2)) zn zb)] ++ ex)
theorem Zb1 (zl : List Int) (z6 : Int) (zd : Int) (zh : List Zr) (z1 : Int) (z2 : Int) (zn : Own) (zb : Own) : ∀ a b q, Z4E zl z6 zd zh z1 z2 zn zb a q → Z4E zl z6 zd zh z1 z2 zn zb b q → a = b := by
 rintro a b q ⟨_, e1⟩ ⟨_, e2⟩
 have e := e1.symm.trans e2
 exact Prod.ext (congrArg (fun q : Res => pI (pA q.1)) e) (congrArg (fun q : Res => pI (pA (cellAt q 0 1))) e)
abbrev Z7x  : (Z7) → Res → Prop := fun r q => ∃ (ex : List Row), q = ((.p (.agg (ZF r))), ex)
theorem Zdd  : ∀ a b q, Z7x  a q → Z7x  b q → a = b := by
 rintro a b q ⟨_, e1⟩ ⟨_, e2⟩
 have e := e1.symm.trans e2
 exact Z8Y (congrArg (fun q : Res => pC (pA q.1)) e)
abbrev Z4F  : (Bool) → Res → Prop := fun r q => ∃ (ex : List Row), q = ((bv r), ex)
theorem ZaV  : ∀ a b q, Z4F  a q → Z4F  b q → a = b := by
 rintro a b q ⟨_, e1⟩ ⟨_, e2⟩
 have e := e1.symm.trans e2
 exact congrArg (fun q : Res => pB (pA q.1)) e
abbrev Z5Y  : (Bool) → Res → Prop := fun r q => ∃ (ex : List Row), q = ((bv r), ex)
theorem Zch  : ∀ a b q, Z5Y  a q → Z5Y  b q → a = b := by
 rintro a b q ⟨_, e1⟩ ⟨_, e2⟩
 have e := e1.symm.trans e2
 exact congrArg (fun q : Res => pB (pA q.1)) e
abbrev Z1k  : (Int) → Res → Prop := fun r q => ∃ (ex : List Row), q = ((iv r), ex)
theorem Z5G  : ∀ a b q, Z1k  a q → Z1k  b q → a = b := by
 rintro a b q ⟨_, e1⟩ ⟨_, e2⟩
 have e := e1.symm.trans e2
 exact congrArg (fun q : Res => pI (pA q.1)) e
abbrev Z2B  : (Bool) → Res → Prop := fun r q => ∃ (ex : List Row), q = ((bv r), ex)
theorem Z7u  : ∀ a b q, Z2B  a q → Z2B  b q → a = b := by
 rintro a b q ⟨_, e1⟩ ⟨_, e2⟩
 have e := e1.symm.trans e2
 exact congrArg (fun q : Res => pB (pA q.1)) e
abbrev Z79  : ((List Z7)) → Res → Prop := fun r q => ∃ (ex : List Row), q = ((.p (.lst .sh (r.map Zs))), ex)
theorem Zca  : ∀ a b q, Z79  a q → Z79  b q → a = b := by
 rintro a b q ⟨_, e1⟩ ⟨_, e2⟩
 have e := e1.symm.trans e2
 exact lmap_inj Z2j (congrArg (fun q : Res => pL (pA q.1)) e)
abbrev Z63  : ((List Z7) × Int) → Res → Prop := fun r q => ∃ (ex : List Row), q = ((.p (.tup [(.lst .sh (r.1.map Zs)), (.v (.int .i64 r.2))])), ex)
theorem Zd0  : ∀ a b q, Z63  a q → Z63  b q → a = b := by
 rintro a b q ⟨_, e1⟩ ⟨_, e2⟩
 have e := e1.symm.trans e2
 exact Prod.ext (lmap_inj Z2j (congrArg (fun q : Res => pL ((pT (pA q.1)).getD 0 .junk)) e)) (congrArg (fun q : Res => pI ((pT (pA q.1)).getD 1 .junk)) e)
abbrev Z1L  : (Bool) → Res → Prop := fun r q => ∃ (ex : List Row), q = ((bv r), ex)
theorem Z8l  : ∀ a b q, Z1L  a q → Z1L  b q → a = b := by
 rintro a b q ⟨_, e1⟩ ⟨_, e2⟩
 have e := e1.symm.trans e2
 exact congrArg (fun q : Res => pB (pA q.1)) e
abbrev Z27  : ((List Z7)) → Res → Prop := fun r q => ∃ (ex : List Row), q = ((.p (.lst .sh (r.map Zs))), ex)
theorem Z9k  : ∀ a b q, Z27  a q → Z27  b q → a = b := by
 rintro a b q ⟨_, e1⟩ ⟨_, e2⟩
 have e := e1.symm.trans e2
 exact lmap_inj Z2j (congrArg (fun q : Res => pL (pA q.1)) e)
abbrev Z51  : ((List Z7) × Int) → Res → Prop := fun r q => ∃ (ex : List Row), q = ((.p (.tup [(.lst .sh (r.1.map Zs)), (.v (.int .i64 r.2))])), ex)
theorem Zc5  : ∀ a b q, Z51  a q → Z51  b q → a = b := by
 rintro a b q ⟨_, e1⟩ ⟨_, e2⟩
 have e := e1.symm.trans e2
 exact Prod.ext (lmap_inj Z2j (congrArg (fun q : Res => pL ((pT (pA q.1)).getD 0 .junk)) e)) (congrArg (fun q : Res => pI ((pT (pA q.1)).getD 1 .junk)) e)
abbrev Z6q  : (Z3) → Res → Prop := fun r q => ∃ (ex : List Row), q = ((.p (.agg (ZD r .sh .sh))), ex)
theorem Zde  : ∀ a b q, Z6q  a q → Z6q  b q → a = b := by
 rintro a b q ⟨_, e1⟩ ⟨_, e2⟩
 have e := e1.symm.trans e2
 exact Z2v (congrArg (fun q : Res => pC (pA q.1)) e)
abbrev Z3P (zl : List Int) (z6 : Int) (zd : Int) (zh : List Zr) (zn : Own) (zb : Own) : (Int × Int × Int) → Res → Prop := fun r q => ∃ (ex : List Row), q = ((.p (.tup [])), [(Zi (Zk.mk zl r.1 z6 zd zh (Zj.mk r.2.1 r.2.2)) zn zb)] ++ ex)
theorem ZaN (zl : List Int) (z6 : Int) (zd : Int) (zh : List Zr) (zn : Own) (zb : Own) : ∀ a b q, Z3P zl z6 zd zh zn zb a q → Z3P zl z6 zd zh zn zb b q → a = b := by
 rintro a b q ⟨_, e1⟩ ⟨_, e2⟩
 have e := e1.symm.trans e2
 exact Prod.ext (congrArg (fun q : Res => pI (pA (cellAt q 0 1))) e) (Prod.ext (congrArg (fun q : Res => pI (pA (cellAt q 0 5))) e) (congrArg (fun q : Res => pI (pA (cellAt q 0 6))) e))
abbrev Z4x  : ((Own × (List Z7))) → Res → Prop := fun r q => ∃ (ex : List Row), q = ((.p (.lst r.1 (r.2.map Zs))), ex)
theorem Zbu  : ∀ a b q, Z4x  a q → Z4x  b q → a = b := by
 rintro a b q ⟨_, e1⟩ ⟨_, e2⟩
 have e := e1.symm.trans e2
 exact Prod.ext (congrArg (fun q : Res => pOwn (pA q.1)) e) (lmap_inj Z2j (congrArg (fun q : Res => pL (pA q.1)) e))
abbrev Z4T  : (Int) → Res → Prop := fun r q => ∃ (ex : List Row), q = ((iv r), ex)
theorem Zdb  : ∀ a b q, Z4T  a q → Z4T  b q → a = b := by
 rintro a b q ⟨_, e1⟩ ⟨_, e2⟩
 have e := e1.symm.trans e2
 exact congrArg (fun q : Res => pI (pA q.1)) e
abbrev Z5d (zY : Int) : (Bool) → Res → Prop := fun r q => ∃ (ex : List Row), q = ((bv r), [[(iv zY)]] ++ ex)
theorem Zbv (zY : Int) : ∀ a b q, Z5d zY a q → Z5d zY b q → a = b := by
 rintro a b q ⟨_, e1⟩ ⟨_, e2⟩
 have e := e1.symm.trans e2
 exact congrArg (fun q : Res => pB (pA q.1)) e
abbrev Z1i (zY : Int) : (Int) → Res → Prop := fun r q => ∃ (ex : List Row), q = ((iv r), [[(iv zY)]] ++ ex)
theorem Z5F (zY : Int) : ∀ a b q, Z1i zY a q → Z1i zY b q → a = b := by
 rintro a b q ⟨_, e1⟩ ⟨_, e2⟩
 have e := e1.symm.trans e2
 exact congrArg (fun q : Res => pI (pA q.1)) e
abbrev Z2y (zY : Int) : (Bool) → Res → Prop := fun r q => ∃ (ex : List Row), q = ((bv r), [[(iv zY)]] ++ ex)
theorem Z7D (zY : Int) : ∀ a b q, Z2y zY a q → Z2y zY b q → a = b := by
 rintro a b q ⟨_, e1⟩ ⟨_, e2⟩
 have e := e1.symm.trans e2
 exact congrArg (fun q : Res => pB (pA q.1)) e
abbrev Z5J  : (Bool) → Res → Prop := fun r q => ∃ (ex : List Row), q = ((bv r), ex)
theorem Zc4  : ∀ a b q, Z5J  a q → Z5J  b q → a = b := by
 rintro a b q ⟨_, e1⟩ ⟨_, e2⟩
 have e := e1.symm.trans e2
 exact congrArg (fun q : Res => pB (pA q.1)) e
abbrev Z2X (zl : List Int) (z6 : Int) (zd : Int) (zh : List Zr) (zn : Own) (zb : Own) : (Int × Int × Int × Int) → Res → Prop := fun r q => ∃ (ex : List Row), q = ((iv r.1), [(Zi (Zk.mk zl r.2.1 z6 zd zh (Zj.mk r.2.2.1 r.2.2.2)) zn zb)] ++ ex)
theorem ZaF (zl : List Int) (z6 : Int) (zd : Int) (zh : List Zr) (zn : Own) (zb : Own) : ∀ a b q, Z2X zl z6 zd zh zn zb a q → Z2X zl z6 zd zh zn zb b q → a = b := by
 rintro a b q ⟨_, e1⟩ ⟨_, e2⟩
 have e := e1.symm.trans e2
 exact Prod.ext (congrArg (fun q : Res => pI (pA q.1)) e) (Prod.ext (congrArg (fun q : Res => pI (pA (cellAt q 0 1))) e) (Prod.ext (congrArg (fun q : Res => pI (pA (cellAt q 0 5))) e) (congrArg (fun q : Res => pI (pA (cellAt q 0 6))) e)))
abbrev Z2r (zl : List Int) (z6 : Int) (zd : Int) (zn : Own) : (Z3 × Int × (List Zr) × Int × Int) → Res → Prop := fun r q => ∃ (p0_4 : Own) (ex : List Row), okApp p0_4 = true ∧ q = ((.p (.agg (ZD r.1 .sh .sh))), [(Zi (Zk.mk zl r.2.1 z6 zd r.2.2.1 (Zj.mk r.2.2.2.1 r.2.2.2.2)) zn p0_4)] ++ ex)
theorem Zae (zl : List Int) (z6 : Int) (zd : Int) (zn : Own) : ∀ a b q, Z2r zl z6 zd zn a q → Z2r zl z6 zd zn b q → a = b := by
 rintro a b q ⟨_, _, _, e1⟩ ⟨_, _, _, e2⟩
 have e := e1.symm.trans e2
 exact Prod.ext (Z2v (congrArg (fun q : Res => pC (pA q.1)) e)) (Prod.ext (congrArg (fun q : Res => pI (pA (cellAt q 0 1))) e) (Prod.ext (lmap_inj Z3z (congrArg (fun q : Res => pL (pA (cellAt q 0 4))) e)) (Prod.ext (congrArg (fun q : Res => pI (pA (cellAt q 0 5))) e) (congrArg (fun q : Res => pI (pA (cellAt q 0 6))) e))))
abbrev Z2s (zl : List Int) (z6 : Int) (zd : Int) (zh : List Zr) (zn : Own) (zb : Own) : (Int × (Own × (List Z7)) × Bool × Int × Int × Int) → Res → Prop := fun r q => ∃ (ex : List Row), q = ((.p (.tup [(.v (.int .i64 r.1)), (.lst r.2.1.1 (r.2.1.2.map Zs)), (.v (.bool r.2.2.1))])), [(Zi (Zk.mk zl r.2.2.2.1 z6 zd zh (Zj.mk r.2.2.2.2.1 r.2.2.2.2.2)) zn zb)] ++ ex)
theorem Zag (zl : List Int) (z6 : Int) (zd : Int) (zh : List Zr) (zn : Own) (zb : Own) : ∀ a b q, Z2s zl z6 zd zh zn zb a q → Z2s zl z6 zd zh zn zb b q → a = b := by
 rintro a b q ⟨_, e1⟩ ⟨_, e2⟩
 have e := e1.symm.trans e2
 exact Prod.ext (congrArg (fun q : Res => pI ((pT (pA q.1)).getD 0 .junk)) e) (Prod.ext (Prod.ext (congrArg (fun q : Res => pOwn ((pT (pA q.1)).getD 1 .junk)) e) (lmap_inj Z2j (congrArg (fun q : Res => pL ((pT (pA q.1)).getD 1 .junk)) e))) (Prod.ext (congrArg (fun q : Res => pB ((pT (pA q.1)).getD 2 .junk)) e) (Prod.ext (congrArg (fun q : Res => pI (pA (cellAt q 0 1))) e) (Prod.ext (congrArg (fun q : Res => pI (pA (cellAt q 0 5))) e) (congrArg (fun q : Res => pI (pA (cellAt q 0 6))) e)))))
abbrev Z55  : ((List Z7)) → Res → Prop := fun r q => ∃ (ex : List Row), q = ((.p (.lst .sh (r.map Zs))), ex)
theorem Zai  : ∀ a b q, Z55  a q → Z55  b q → a = b := by
 rintro a b q ⟨_, e1⟩ ⟨_, e2⟩
 have e := e1.symm.trans e2
 exact lmap_inj Z2j (congrArg (fun q : Res => pL (pA q.1)) e)
abbrev Z4J  : ((List Z7) × Int) → Res → Prop := fun r q => ∃ (ex : List Row), q = ((.p (.tup [(.lst .sh (r.1.map Zs)), (.v (.int .i64 r.2))])), ex)
theorem Zcg  : ∀ a b q, Z4J  a q → Z4J  b q → a = b := by
 rintro a b q ⟨_, e1⟩ ⟨_, e2⟩
 have e := e1.symm.trans e2
 exact Prod.ext (lmap_inj Z2j (congrArg (fun q : Res => pL ((pT (pA q.1)).getD 0 .junk)) e)) (congrArg (fun q : Res => pI ((pT (pA q.1)).getD 1 .junk)) e)
abbrev Z3S  : ((List Z7)) → Res → Prop := fun r q => ∃ (p0_0 : Own) (ex : List Row), q = ((.p (.tup [])), [[(.p (.lst p0_0 (r.map Zs)))]] ++ ex)
theorem Z9S  : ∀ a b q, Z3S  a q → Z3S  b q → a = b := by
 rintro a b q ⟨_, _, e1⟩ ⟨_, _, e2⟩
 have e := e1.symm.trans e2
 exact lmap_inj Z2j (congrArg (fun q : Res => pL (pA (cellAt q 0 0))) e)
abbrev Z16 (zl : List Int) (z6 : Int) (zd : Int) (zh : List Zr) (zn : Own) (zb : Own) : (Z3 × Int × Int × Int) → Res → Prop := fun r q => ∃ (ex : List Row), q = ((.p (.agg (ZD r.1 .sh .sh))), [(Zi (Zk.mk zl r.2.1 z6 zd zh (Zj.mk r.2.2.1 r.2.2.2)) zn zb)] ++ ex)
theorem Z7A (zl : List Int) (z6 : Int) (zd : Int) (zh : List Zr) (zn : Own) (zb : Own) : ∀ a b q, Z16 zl z6 zd zh zn zb a q → Z16 zl z6 zd zh zn zb b q → a = b := by
 rintro a b q ⟨_, e1⟩ ⟨_, e2⟩
 have e := e1.symm.trans e2
 exact Prod.ext (Z2v (congrArg (fun q : Res => pC (pA q.1)) e)) (Prod.ext (congrArg (fun q : Res => pI (pA (cellAt q 0 1))) e) (Prod.ext (congrArg (fun q : Res => pI (pA (cellAt q 0 5))) e) (congrArg (fun q : Res => pI (pA (cellAt q 0 6))) e)))
abbrev Z6n  : ((List ByteArray)) → Res → Prop := fun r q => ∃ (ex : List Row), q = ((.p (.lst .sh (r.map eS))), ex)
theorem ZcJ  : ∀ a b q, Z6n  a q → Z6n  b q → a = b := by
 rintro a b q ⟨_, e1⟩ ⟨_, e2⟩
 have e := e1.symm.trans e2
 exact lmap_inj eS_inj (congrArg (fun q : Res => pL (pA q.1)) e)
abbrev Z1f (zl : List Int) (z6 : Int) (zd : Int) (zh : List Zr) (z1 : Int) (z2 : Int) (zn : Own) (zb : Own) : (Int × Int) → Res → Prop := fun r q => ∃ (ex : List Row), q = ((iv r.1), [(Zi (Zk.mk zl r.2 z6 zd zh (Zj.mk z1 z2)) zn zb)] ++ ex)
theorem Z5C (zl : List Int) (z6 : Int) (zd : Int) (zh : List Zr) (z1 : Int) (z2 : Int) (zn : Own) (zb : Own) : ∀ a b q, Z1f zl z6 zd zh z1 z2 zn zb a q → Z1f zl z6 zd zh z1 z2 zn zb b q → a = b := by
 rintro a b q ⟨_, e1⟩ ⟨_, e2⟩
 have e := e1.symm.trans e2
 exact Prod.ext (congrArg (fun q : Res => pI (pA q.1)) e) (congrArg (fun q : Res => pI (pA (cellAt q 0 1))) e)
abbrev Z22 (zl : List Int) (zn : Own) : (Z3 × Bool × Int × Int × Int × (List Zr) × Int × Int) → Res → Prop := fun r q => ∃ (p0_4 : Own) (ex : List Row), okApp p0_4 = true ∧ q = ((.p (.tup [(.agg (ZD r.1 .sh .sh)), (.v (.bool r.2.1))])), [(Zi (Zk.mk zl r.2.2.1 r.2.2.2.1 r.2.2.2.2.1 r.2.2.2.2.2.1 (Zj.mk r.2.2.2.2.2.2.1 r.2.2.2.2.2.2.2)) zn p0_4)] ++ ex)
theorem ZaC (zl : List Int) (zn : Own) : ∀ a b q, Z22 zl zn a q → Z22 zl zn b q → a = b := by
 rintro a b q ⟨_, _, _, e1⟩ ⟨_, _, _, e2⟩
 have e := e1.symm.trans e2
 exact Prod.ext (Z2v (congrArg (fun q : Res => pC ((pT (pA q.1)).getD 0 .junk)) e)) (Prod.ext (congrArg (fun q : Res => pB ((pT (pA q.1)).getD 1 .junk)) e) (Prod.ext (congrArg (fun q : Res => pI (pA (cellAt q 0 1))) e) (Prod.ext (congrArg (fun q : Res => pI (pA (cellAt q 0 2))) e) (Prod.ext (congrArg (fun q : Res => pI (pA (cellAt q 0 3))) e) (Prod.ext (lmap_inj Z3z (congrArg (fun q : Res => pL (pA (cellAt q 0 4))) e)) (Prod.ext (congrArg (fun q : Res => pI (pA (cellAt q 0 5))) e) (congrArg (fun q : Res => pI (pA (cellAt q 0 6))) e)))))))
abbrev Z3N (zl : List Int) (zn : Own) : (Z3 × Bool × Int × Int × Int × (List Zr) × Int × Int) → Res → Prop := fun r q => ∃ (p0_4 : Own) (ex : List Row), okApp p0_4 = true ∧ q = ((.p (.tup [(.agg (ZD r.1 .sh .sh)), (.v (.bool r.2.1))])), [(Zi (Zk.mk zl r.2.2.1 r.2.2.2.1 r.2.2.2.2.1 r.2.2.2.2.2.1 (Zj.mk r.2.2.2.2.2.2.1 r.2.2.2.2.2.2.2)) zn p0_4)] ++ ex)
theorem Zb3 (zl : List Int) (zn : Own) : ∀ a b q, Z3N zl zn a q → Z3N zl zn b q → a = b := by
 rintro a b q ⟨_, _, _, e1⟩ ⟨_, _, _, e2⟩
 have e := e1.symm.trans e2
 exact Prod.ext (Z2v (congrArg (fun q : Res => pC ((pT (pA q.1)).getD 0 .junk)) e)) (Prod.ext (congrArg (fun q : Res => pB ((pT (pA q.1)).getD 1 .junk)) e) (Prod.ext (congrArg (fun q : Res => pI (pA (cellAt q 0 1))) e) (Prod.ext (congrArg (fun q : Res => pI (pA (cellAt q 0 2))) e) (Prod.ext (congrArg (fun q : Res => pI (pA (cellAt q 0 3))) e) (Prod.ext (lmap_inj Z3z (congrArg (fun q : Res => pL (pA (cellAt q 0 4))) e)) (Prod.ext (congrArg (fun q : Res => pI (pA (cellAt q 0 5))) e) (congrArg (fun q : Res => pI (pA (cellAt q 0 6))) e)))))))
abbrev Z1V (zl : List Int) (z6 : Int) (zd : Int) (zh : List Zr) (z1 : Int) (z2 : Int) (zn : Own) (zb : Own) : (Int × Int) → Res → Prop := fun r q => ∃ (ex : List Row), q = ((iv r.1), [(Zi (Zk.mk zl r.2 z6 zd zh (Zj.mk z1 z2)) zn zb)] ++ ex)
theorem Z7j (zl : List Int) (z6 : Int) (zd : Int) (zh : List Zr) (z1 : Int) (z2 : Int) (zn : Own) (zb : Own) : ∀ a b q, Z1V zl z6 zd zh z1 z2 zn zb a q → Z1V zl z6 zd zh z1 z2 zn zb b q → a = b := by
 rintro a b q ⟨_, e1⟩ ⟨_, e2⟩
 have e := e1.symm.trans e2
 exact Prod.ext (congrArg (fun q : Res => pI (pA q.1)) e) (congrArg (fun q : Res => pI (pA (cellAt q 0 1))) e)
abbrev Z1K (zl : List Int) (z6 : Int) (zd : Int) (zh : List Zr) (zn : Own) (zb : Own) : (Int × Int × Int × Int × Int) → Res → Prop := fun r q => ∃ (ex : List Row), q = ((.p (.tup [(.v (.int .i64 r.1)), (.v (.int .i64 r.2.1))])), [(Zi (Zk.mk zl r.2.2.1 z6 zd zh (Zj.mk r.2.2.2.1 r.2.2.2.2)) zn zb)] ++ ex)
theorem Zad (zl : List Int) (z6 : Int) (zd : Int) (zh : List Zr) (zn : Own) (zb : Own) : ∀ a b q, Z1K zl z6 zd zh zn zb a q → Z1K zl z6 zd zh zn zb b q → a = b := by
 rintro a b q ⟨_, e1⟩ ⟨_, e2⟩
 have e := e1.symm.trans e2
 exact Prod.ext (congrArg (fun q : Res => pI ((pT (pA q.1)).getD 0 .junk)) e) (Prod.ext (congrArg (fun q : Res => pI ((pT (pA q.1)).getD 1 .junk)) e) (Prod.ext (congrArg (fun q : Res => pI (pA (cellAt q 0 1))) e) (Prod.ext (congrArg (fun q : Res => pI (pA (cellAt q 0 5))) e) (congrArg (fun q : Res => pI (pA (cellAt q 0 6))) e))))
abbrev Z2t (zl : List Int) (z6 : Int) (zd : Int) (zh : List Zr) (zn : Own) (zb : Own) : (Z3 × Int × Int × Int) → Res → Prop := fun r q => ∃ (ex : List Row), q = ((.p (.agg (ZD r.1 .sh .sh))), [(Zi (Zk.mk zl r.2.1 z6 zd zh (Zj.mk r.2.2.1 r.2.2.2)) zn zb)] ++ ex)
theorem Zac (zl : List Int) (z6 : Int) (zd : Int) (zh : List Zr) (zn : Own) (zb : Own) : ∀ a b q, Z2t zl z6 zd zh zn zb a q → Z2t zl z6 zd zh zn zb b q → a = b := by
 rintro a b q ⟨_, e1⟩ ⟨_, e2⟩
 have e := e1.symm.trans e2
 exact Prod.ext (Z2v (congrArg (fun q : Res => pC (pA q.1)) e)) (Prod.ext (congrArg (fun q : Res => pI (pA (cellAt q 0 1))) e) (Prod.ext (congrArg (fun q : Res => pI (pA (cellAt q 0 5))) e) (congrArg (fun q : Res => pI (pA (cellAt q 0 6))) e)))
abbrev Z24 (zl : List Int) (zn : Own) : (Z3 × Int × Int × Int × (List Zr) × Int × Int) → Res → Prop := fun r q => ∃ (p0_4 : Own) (ex : List Row), okApp p0_4 = true ∧ q = ((.p (.agg (ZD r.1 .sh .sh))), [(Zi (Zk.mk zl r.2.1 r.2.2.1 r.2.2.2.1 r.2.2.2.2.1 (Zj.mk r.2.2.2.2.2.1 r.2.2.2.2.2.2)) zn p0_4)] ++ ex)
theorem Z8o (zl : List Int) (zn : Own) : ∀ a b q, Z24 zl zn a q → Z24 zl zn b q → a = b := by
 rintro a b q ⟨_, _, _, e1⟩ ⟨_, _, _, e2⟩
 have e := e1.symm.trans e2
 exact Prod.ext (Z2v (congrArg (fun q : Res => pC (pA q.1)) e)) (Prod.ext (congrArg (fun q : Res => pI (pA (cellAt q 0 1))) e) (Prod.ext (congrArg (fun q : Res => pI (pA (cellAt q 0 2))) e) (Prod.ext (congrArg (fun q : Res => pI (pA (cellAt q 0 3))) e) (Prod.ext (lmap_inj Z3z (congrArg (fun q : Res => pL (pA (cellAt q 0 4))) e)) (Prod.ext (congrArg (fun q : Res => pI (pA (cellAt q 0 5))) e) (congrArg (fun q : Res => pI (pA (cellAt q 0 6))) e))))))
abbrev Z2g (zl : List Int) (zn : Own) : (Z3 × Int × Int × Int × (List Zr) × Int × Int) → Res → Prop := fun r q => ∃ (p0_4 : Own) (ex : List Row), okApp p0_4 = true ∧ q = ((.p (.agg (ZD r.1 .sh .sh))), [(Zi (Zk.mk zl r.2.1 r.2.2.1 r.2.2.2.1 r.2.2.2.2.1 (Zj.mk r.2.2.2.2.2.1 r.2.2.2.2.2.2)) zn p0_4)] ++ ex)
theorem Z8n (zl : List Int) (zn : Own) : ∀ a b q, Z2g zl zn a q → Z2g zl zn b q → a = b := by
 rintro a b q ⟨_, _, _, e1⟩ ⟨_, _, _, e2⟩
 have e := e1.symm.trans e2
 exact Prod.ext (Z2v (congrArg (fun q : Res => pC (pA q.1)) e)) (Prod.ext (congrArg (fun q : Res => pI (pA (cellAt q 0 1))) e) (Prod.ext (congrArg (fun q : Res => pI (pA (cellAt q 0 2))) e) (Prod.ext (congrArg (fun q : Res => pI (pA (cellAt q 0 3))) e) (Prod.ext (lmap_inj Z3z (congrArg (fun q : Res => pL (pA (cellAt q 0 4))) e)) (Prod.ext (congrArg (fun q : Res => pI (pA (cellAt q 0 5))) e) (congrArg (fun q : Res => pI (pA (cellAt q 0 6))) e))))))
abbrev Z29  : (ZC × Zj) → Res → Prop := fun r q => ∃ (ex : List Row), q = ((.p (.tup [(.agg (Z1l r.1 .sh .sh)), (.agg (Z12 r.2))])), ex)
theorem Zak  : ∀ a b q, Z29  a q → Z29  b q → a = b := by
 rintro a b q ⟨_, e1⟩ ⟨_, e2⟩
 have e := e1.symm.trans e2
 exact Prod.ext (Z8i (congrArg (fun q : Res => pC ((pT (pA q.1)).getD 0 .junk)) e)) (Z6U (congrArg (fun q : Res => pC ((pT (pA q.1)).getD 1 .junk)) e))
abbrev Z2G  : (Bool) → Res → Prop := fun r q => ∃ (ex : List Row), q = ((bv r), ex)
theorem Za0  : ∀ a b q, Z2G  a q → Z2G  b q → a = b := by
 rintro a b q ⟨_, e1⟩ ⟨_, e2⟩
 have e := e1.symm.trans e2
 exact congrArg (fun q : Res => pB (pA q.1)) e
abbrev Z1z  : (Bool) → Res → Prop := fun r q => ∃ (ex : List Row), q = ((bv r), ex)
theorem Z6D  : ∀ a b q, Z1z  a q → Z1z  b q → a = b := by
 rintro a b q ⟨_, e1⟩ ⟨_, e2⟩
 have e := e1.symm.trans e2
 exact congrArg (fun q : Res => pB (pA q.1)) e
abbrev Z1p  : (Bool) → Res → Prop := fun r q => ∃ (ex : List Row), q = ((bv r), ex)
theorem Z6r  : ∀ a b q, Z1p  a q → Z1p  b q → a = b := by
 rintro a b q ⟨_, e1⟩ ⟨_, e2⟩
 have e := e1.symm.trans e2
 exact congrArg (fun q : Res => pB (pA q.1)) e
abbrev Z1A  : (Bool) → Res → Prop := fun r q => ∃ (ex : List Row), q = ((bv r), ex)
theorem Z8P  : ∀ a b q, Z1A  a q → Z1A  b q → a = b := by
 rintro a b q ⟨_, e1⟩ ⟨_, e2⟩
 have e := e1.symm.trans e2
 exact congrArg (fun q : Res => pB (pA q.1)) e
noncomputable def Z5a (x0 : ByteArray) : Option (Bool) := pick fun r => RRun (Z1A) (EE 3 [(.p (.v (.string x0)))] []) r
theorem Z8s (x0 : ByteArray) : Sim (Z1A) (Z5a x0) (EE 3 [(.p (.v (.string x0)))] []) := fun _ h => pick_to h
noncomputable def Z4V  : Option (Bool) := pick fun r => RRun (Z2G) (EE 15 [] []) r
theorem Z9z  : Sim (Z2G) (Z4V) (EE 15 [] []) := fun _ h => pick_to h
noncomputable def Z3T (x0 : ByteArray) : Option (ZC × Zj) := pick fun r => RRun (Z29) (EE 16 [(.p (.v (.string x0)))] []) r
theorem Z4L (x0 : ByteArray) : Sim (Z29) (Z3T x0) (EE 16 [(.p (.v (.string x0)))] []) := fun _ h => pick_to h
noncomputable def Z13 (x1 : ByteArray) (zl : List Int) (zp : Int) : Option (Bool × Int) := pick fun r => ∀ (z6 : Int) (zd : Int) (zh : List Zr) (z1 : Int) (z2 : Int) (zn : Own) (zb : Own) (zu : okApp zb = true), RRun (Z3a zl z6 zd zh z1 z2 zn zb) (EE 27 [(.ptr 0 0), (.p (.v (.string x1)))] [(Zi (Zk.mk zl zp z6 zd zh (Zj.mk z1 z2)) zn zb)]) r
theorem Z18 (x1 : ByteArray) (zl : List Int) (zp : Int) (z6 : Int) (zd : Int) (zh : List Zr) (z1 : Int) (z2 : Int) (zn : Own) (zb : Own) (zu : okApp zb = true) : Sim (Z3a zl z6 zd zh z1 z2 zn zb) (Z13 x1 zl zp) (EE 27 [(.ptr 0 0), (.p (.v (.string x1)))] [(Zi (Zk.mk zl zp z6 zd zh (Zj.mk z1 z2)) zn zb)]) := fun _ h => pick_to h z6 zd zh z1 z2 zn zb zu
noncomputable def Z2F (zl : List Int) (zp : Int) (z6 : Int) (zd : Int) (zh : List Zr) (z1 : Int) (z2 : Int) : Option (Z3 × Int × Int × Int × (List Zr) × Int × Int) := pick fun r => ∀ (zn : Own) (zb : Own) (zu : okApp zb = true), RRun (Z2g zl zn) (EE 28 [(.ptr 0 0)] [(Zi (Zk.mk zl zp z6 zd zh (Zj.mk z1 z2)) zn zb)]) r
theorem Z7W (zl : List Int) (zp : Int) (z6 : Int) (zd : Int) (zh : List Zr) (z1 : Int) (z2 : Int) (zn : Own) (zb : Own) (zu : okApp zb = true) : Sim (Z2g zl zn) (Z2F zl zp z6 zd zh z1 z2) (EE 28 [(.ptr 0 0)] [(Zi (Zk.mk zl zp z6 zd zh (Zj.mk z1 z2)) zn zb)]) := fun _ h => pick_to h zn zb zu
noncomputable def Z48 (zl : List Int) (zp : Int) (z6 : Int) (zd : Int) (zh : List Zr) (z1 : Int) (z2 : Int) : Option (Z3 × Int × Int × Int × (List Zr) × Int × Int) := pick fun r => ∀ (zn : Own) (zb : Own) (zu : okApp zb = true), RRun (Z24 zl zn) (EE 35 [(.ptr 0 0)] [(Zi (Zk.mk zl zp z6 zd zh (Zj.mk z1 z2)) zn zb)]) r
theorem Z81 (zl : List Int) (zp : Int) (z6 : Int) (zd : Int) (zh : List Zr) (z1 : Int) (z2 : Int) (zn : Own) (zb : Own) (zu : okApp zb = true) : Sim (Z24 zl zn) (Z48 zl zp z6 zd zh z1 z2) (EE 35 [(.ptr 0 0)] [(Zi (Zk.mk zl zp z6 zd zh (Zj.mk z1 z2)) zn zb)]) := fun _ h => pick_to h zn zb zu
noncomputable def Z3m (x3 : List Z3) (zl : List Int) (zp : Int) (z6 : Int) (zd : Int) (zh : List Zr) (z1 : Int) (z2 : Int) : Option (Z3 × Int × Int × Int × (List Zr) × Int × Int) := pick fun r => ∀ (b1 : Z3) (ox3 : Own) (zn : Own) (zb : Own) (zB : Own) (zy : Own) (hox3 : okApp ox3 = true) (zu : okApp zb = true) (zQ : okApp zB = true) (zJ : okApp zy = true), RRun (Z24 zl zn) (ZaZ 1 (.ptr 0 0) (.ptr 1 0) (.p (.lst ox3 (x3.map ZK))) [(Zi (Zk.mk zl zp z6 zd zh (Zj.mk z1 z2)) zn zb), (Zq b1 zB zy)]) r
theorem Z6Q (x3 : List Z3) (zl : List Int) (zp : Int) (z6 : Int) (zd : Int) (zh : List Zr) (z1 : Int) (z2 : Int) (b1 : Z3) (ox3 : Own) (zn : Own) (zb : Own) (zB : Own) (zy : Own) (hox3 : okApp ox3 = true) (zu : okApp zb = true) (zQ : okApp zB = true) (zJ : okApp zy = true) : Sim (Z24 zl zn) (Z3m x3 zl zp z6 zd zh z1 z2) (ZaZ 1 (.ptr 0 0) (.ptr 1 0) (.p (.lst ox3 (x3.map ZK))) [(Zi (Zk.mk zl zp z6 zd zh (Zj.mk z1 z2)) zn zb), (Zq b1 zB zy)]) := fun _ h => pick_to h b1 ox3 zn zb zB zy hox3 zu zQ zJ
noncomputable def Z1B (b0 : Zk) : Option (Int) := pick fun r => ∀ (zn : Own) (zb : Own) (zu : okApp zb = true), RRun (Z3O b0 zn zb) (EE 41 [(.ptr 0 0)] [(Zi b0 zn zb)]) r
theorem Z1G (b0 : Zk) (zn : Own) (zb : Own) (zu : okApp zb = true) : Sim (Z3O b0 zn zb) (Z1B b0) (EE 41 [(.ptr 0 0)] [(Zi b0 zn zb)]) := fun _ h => pick_to h zn zb zu
noncomputable def Z7C (x0 : List Int) (x1 : Int) : Option (Int × Int) := pick fun r => ∀ (ox0 : Own), RRun (Z4W) (EE 45 [(.p (.lst ox0 (x0.map (eI .u8)))), (iv x1)] []) r
theorem Zb0 (x0 : List Int) (x1 : Int) (ox0 : Own) : Sim (Z4W) (Z7C x0 x1) (EE 45 [(.p (.lst ox0 (x0.map (eI .u8)))), (iv x1)] []) := fun _ h => pick_to h ox0
noncomputable def Z5m (x0 : List Int) : Option (Int × Int) := pick fun r => ∀ (ox0 : Own), RRun (Z4j) (EE 53 [(.p (.lst ox0 (x0.map (eI .u8))))] []) r
theorem Z8N (x0 : List Int) (ox0 : Own) : Sim (Z4j) (Z5m x0) (EE 53 [(.p (.lst ox0 (x0.map (eI .u8))))] []) := fun _ h => pick_to h ox0
noncomputable def Z65 (x0 : Int) (x1 : List Z3) : Option (Z3) := pick fun r => ∀ (ox1 : Own), RRun (Z5o) (EE 36 [(iv x0), (.p (.lst ox1 (x1.map ZK)))] []) r
theorem Z9l (x0 : Int) (x1 : List Z3) (ox1 : Own) : Sim (Z5o) (Z65 x0 x1) (EE 36 [(iv x0), (.p (.lst ox1 (x1.map ZK)))] []) := fun _ h => pick_to h ox1
noncomputable def Z5w (zl : List Int) (zp : Int) (z6 : Int) (zd : Int) (zh : List Zr) (z1 : Int) (z2 : Int) : Option (Z3 × Bool × Int × Int × Int × (List Zr) × Int × Int) := pick fun r => ∀ (zn : Own) (zb : Own) (zu : okApp zb = true), RRun (Z3N zl zn) (EE 42 [(.ptr 0 0)] [(Zi (Zk.mk zl zp z6 zd zh (Zj.mk z1 z2)) zn zb)]) r
theorem Zau (zl : List Int) (zp : Int) (z6 : Int) (zd : Int) (zh : List Zr) (z1 : Int) (z2 : Int) (zn : Own) (zb : Own) (zu : okApp zb = true) : Sim (Z3N zl zn) (Z5w zl zp z6 zd zh z1 z2) (EE 42 [(.ptr 0 0)] [(Zi (Zk.mk zl zp z6 zd zh (Zj.mk z1 z2)) zn zb)]) := fun _ h => pick_to h zn zb zu
noncomputable def Z1X (zl : List Int) (zp : Int) : Option (Int × Int) := pick fun r => ∀ (z6 : Int) (zd : Int) (zh : List Zr) (z1 : Int) (z2 : Int) (zn : Own) (zb : Own) (zu : okApp zb = true), RRun (Z4E zl z6 zd zh z1 z2 zn zb) (EE 46 [(.ptr 0 0)] [(Zi (Zk.mk zl zp z6 zd zh (Zj.mk z1 z2)) zn zb)]) r
theorem Z2i (zl : List Int) (zp : Int) (z6 : Int) (zd : Int) (zh : List Zr) (z1 : Int) (z2 : Int) (zn : Own) (zb : Own) (zu : okApp zb = true) : Sim (Z4E zl z6 zd zh z1 z2 zn zb) (Z1X zl zp) (EE 46 [(.ptr 0 0)] [(Zi (Zk.mk zl zp z6 zd zh (Zj.mk z1 z2)) zn zb)]) := fun _ h => pick_to h z6 zd zh z1 z2 zn zb zu
noncomputable def Z1v (x0 : Int) : Option (Z7) := pick fun r => RRun (Z7x) (EE 48 [(iv x0)] []) r
theorem Z1o (x0 : Int) : Sim (Z7x) (Z1v x0) (EE 48 [(iv x0)] []) := fun _ h => pick_to h
noncomputable def Z2w (x0 : Bool) (x1 : List Z7) : Option (Z3) := pick fun r => ∀ (ox1 : Own), RRun (Z6q) (EE 47 [(bv x0), (.p (.lst ox1 (x1.map Zs)))] []) r
theorem Z2E (x0 : Bool) (x1 : List Z7) (ox1 : Own) : Sim (Z6q) (Z2w x0 x1) (EE 47 [(bv x0), (.p (.lst ox1 (x1.map Zs)))] []) := fun _ h => pick_to h ox1
noncomputable def Z8h (x0 : List Z7) : Option ((List Z7) × Int) := pick fun r => ∀ (ox0 : Own), RRun (Z63) (EE 54 [(.p (.lst ox0 (x0.map Zs)))] []) r
theorem Zcp (x0 : List Z7) (ox0 : Own) : Sim (Z63) (Z8h x0) (EE 54 [(.p (.lst ox0 (x0.map Zs)))] []) := fun _ h => pick_to h ox0
noncomputable def Z36 (x0 : List Z7) : Option (Bool) := pick fun r => ∀ (ox0 : Own), RRun (Z2B) (EE 65 [(.p (.lst ox0 (x0.map Zs))), (.clo 66 [] [])] []) r
theorem Z7m (x0 : List Z7) (ox0 : Own) : Sim (Z2B) (Z36 x0) (EE 65 [(.p (.lst ox0 (x0.map Zs))), (.clo 66 [] [])] []) := fun _ h => pick_to h ox0
noncomputable def Z3D (x0 : List Z7) : Option (Int) := pick fun r => ∀ (ox0 : Own), RRun (Z1k) (EE 73 [(.p (.lst ox0 (x0.map Zs))), (.clo 66 [] [])] []) r
theorem Z88 (x0 : List Z7) (ox0 : Own) : Sim (Z1k) (Z3D x0) (EE 73 [(.p (.lst ox0 (x0.map Zs))), (.clo 66 [] [])] []) := fun _ h => pick_to h ox0
noncomputable def Z2A (x0 : List Z7) (x7 : Int) (x8 : Int) : Option (Int) := pick fun r => ∀ (ox0 : Own), RRun (Z1k) (ZaO 0 (.p (.lst ox0 (x0.map Zs))) (.clo 66 [] []) (iv x7) (iv x8) []) r
theorem Z5b (x0 : List Z7) (x7 : Int) (x8 : Int) (ox0 : Own) : Sim (Z1k) (Z2A x0 x7 x8) (ZaO 0 (.p (.lst ox0 (x0.map Zs))) (.clo 66 [] []) (iv x7) (iv x8) []) := fun _ h => pick_to h ox0
noncomputable def Z74 (x0 : Z7) : Option (Bool) := pick fun r => RRun (Z5Y) (EE 66 [(.p (.agg (ZF x0)))] []) r
theorem Zc1 (x0 : Z7) : Sim (Z5Y) (Z74 x0) (EE 66 [(.p (.agg (ZF x0)))] []) := fun _ h => pick_to h
noncomputable def Z4D (x0 : Z7) : Option (Bool) := pick fun r => RRun (Z4F) (EE 67 [(.p (.agg (ZF x0)))] []) r
theorem Z7v (x0 : Z7) : Sim (Z4F) (Z4D x0) (EE 67 [(.p (.agg (ZF x0)))] []) := fun _ h => pick_to h
noncomputable def Z72 (x0 : List Z7) : Option ((List Z7)) := pick fun r => ∀ (ox0 : Own), RRun (Z79) (EE 68 [(.p (.lst ox0 (x0.map Zs)))] []) r
theorem Z9o (x0 : List Z7) (ox0 : Own) : Sim (Z79) (Z72 x0) (EE 68 [(.p (.lst ox0 (x0.map Zs)))] []) := fun _ h => pick_to h ox0
noncomputable def Z5L (x0 : List Z7) : Option ((List Z7) × Int) := pick fun r => ∀ (ox0 : Own), RRun (Z51) (EE 55 [(.p (.lst ox0 (x0.map Zs)))] []) r
theorem Z95 (x0 : List Z7) (ox0 : Own) : Sim (Z51) (Z5L x0) (EE 55 [(.p (.lst ox0 (x0.map Zs)))] []) := fun _ h => pick_to h ox0
noncomputable def Z44 (x0 : List Z7) : Option (Bool) := pick fun r => ∀ (ox0 : Own), RRun (Z1L) (EE 69 [(.p (.lst ox0 (x0.map Zs)))] []) r
theorem Z68 (x0 : List Z7) (ox0 : Own) : Sim (Z1L) (Z44 x0) (EE 69 [(.p (.lst ox0 (x0.map Zs)))] []) := fun _ h => pick_to h ox0
noncomputable def Z4b (x3 : Int) (x6 : List Z7) (x7 : Int) (x8 : Int) : Option (Bool) := pick fun r => ∀ (ox6 : Own), RRun (Z1L) (Zbc 0 (iv x3) (.p (.lst ox6 (x6.map Zs))) (iv x7) (iv x8) []) r
theorem Z6N (x3 : Int) (x6 : List Z7) (x7 : Int) (x8 : Int) (ox6 : Own) : Sim (Z1L) (Z4b x3 x6 x7 x8) (Zbc 0 (iv x3) (.p (.lst ox6 (x6.map Zs))) (iv x7) (iv x8) []) := fun _ h => pick_to h ox6
noncomputable def Z6y (x0 : List Z7) : Option ((List Z7)) := pick fun r => ∀ (ox0 : Own), RRun (Z27) (EE 70 [(.p (.lst ox0 (x0.map Zs)))] []) r
theorem ZbN (x0 : List Z7) (ox0 : Own) : Sim (Z27) (Z6y x0) (EE 70 [(.p (.lst ox0 (x0.map Zs)))] []) := fun _ h => pick_to h ox0
noncomputable def Z4Y (x3 : List Z7) (x4 : Int) (x7 : List Z7) (x8 : Int) (x9 : Int) : Option ((List Z7)) := pick fun r => ∀ (ox3 : Own) (ox7 : Own) (hox3 : okApp ox3 = true), RRun (Z27) (ZaU 0 (.p (.lst ox3 (x3.map Zs))) (iv x4) (.p (.lst ox7 (x7.map Zs))) (iv x8) (iv x9) []) r
theorem Z82 (x3 : List Z7) (x4 : Int) (x7 : List Z7) (x8 : Int) (x9 : Int) (ox3 : Own) (ox7 : Own) (hox3 : okApp ox3 = true) : Sim (Z27) (Z4Y x3 x4 x7 x8 x9) (ZaU 0 (.p (.lst ox3 (x3.map Zs))) (iv x4) (.p (.lst ox7 (x7.map Zs))) (iv x8) (iv x9) []) := fun _ h => pick_to h ox3 ox7 hox3
noncomputable def Z2R (x1 : Int) (zl : List Int) (zp : Int) (z6 : Int) (zd : Int) (zh : List Zr) (z1 : Int) (z2 : Int) : Option (Z3 × Int × (List Zr) × Int × Int) := pick fun r => ∀ (zn : Own) (zb : Own) (zu : okApp zb = true), RRun (Z2r zl z6 zd zn) (EE 49 [(.ptr 0 0), (iv x1)] [(Zi (Zk.mk zl zp z6 zd zh (Zj.mk z1 z2)) zn zb)]) r
theorem Z9R (x1 : Int) (zl : List Int) (zp : Int) (z6 : Int) (zd : Int) (zh : List Zr) (z1 : Int) (z2 : Int) (zn : Own) (zb : Own) (zu : okApp zb = true) : Sim (Z2r zl z6 zd zn) (Z2R x1 zl zp z6 zd zh z1 z2) (EE 49 [(.ptr 0 0), (iv x1)] [(Zi (Zk.mk zl zp z6 zd zh (Zj.mk z1 z2)) zn zb)]) := fun _ h => pick_to h zn zb zu
noncomputable def ZT (x1 : Int) (x2 : Int) (zl : List Int) (z1 : Int) (z2 : Int) : Option (Int × Int × Int) := pick fun r => ∀ (zp : Int) (z6 : Int) (zd : Int) (zh : List Zr) (zn : Own) (zb : Own) (zu : okApp zb = true), RRun (Z3P zl z6 zd zh zn zb) (EE 29 [(.ptr 0 0), (iv x1), (iv x2)] [(Zi (Zk.mk zl zp z6 zd zh (Zj.mk z1 z2)) zn zb)]) r
theorem ZW (x1 : Int) (x2 : Int) (zl : List Int) (zp : Int) (z6 : Int) (zd : Int) (zh : List Zr) (z1 : Int) (z2 : Int) (zn : Own) (zb : Own) (zu : okApp zb = true) : Sim (Z3P zl z6 zd zh zn zb) (ZT x1 x2 zl z1 z2) (EE 29 [(.ptr 0 0), (iv x1), (iv x2)] [(Zi (Zk.mk zl zp z6 zd zh (Zj.mk z1 z2)) zn zb)]) := fun _ h => pick_to h zp z6 zd zh zn zb zu
noncomputable def Z4y (x0 : Int) : Option ((Own × (List Z7))) := pick fun r => RRun (Z4x) (EE 56 [(iv x0)] []) r
theorem Z6h (x0 : Int) : Sim (Z4x) (Z4y x0) (EE 56 [(iv x0)] []) := fun _ h => pick_to h
noncomputable def Z4n (x1 : Int) (x2 : Int) (zl : List Int) (zp : Int) (z6 : Int) (zd : Int) (zh : List Zr) (z1 : Int) (z2 : Int) : Option (Int × Int × Int × Int) := pick fun r => ∀ (zn : Own) (zb : Own) (zu : okApp zb = true), RRun (Z2X zl z6 zd zh zn zb) (EE 57 [(.ptr 0 0), (iv x1), (iv x2)] [(Zi (Zk.mk zl zp z6 zd zh (Zj.mk z1 z2)) zn zb)]) r
theorem Z7i (x1 : Int) (x2 : Int) (zl : List Int) (zp : Int) (z6 : Int) (zd : Int) (zh : List Zr) (z1 : Int) (z2 : Int) (zn : Own) (zb : Own) (zu : okApp zb = true) : Sim (Z2X zl z6 zd zh zn zb) (Z4n x1 x2 zl zp z6 zd zh z1 z2) (EE 57 [(.ptr 0 0), (iv x1), (iv x2)] [(Zi (Zk.mk zl zp z6 zd zh (Zj.mk z1 z2)) zn zb)]) := fun _ h => pick_to h zn zb zu
noncomputable def Z7B (x0 : Int) : Option (Int) := pick fun r => RRun (Z4T) (EE 71 [(iv x0)] []) r
theorem Zb2 (x0 : Int) : Sim (Z4T) (Z7B x0) (EE 71 [(iv x0)] []) := fun _ h => pick_to h
noncomputable def Z5K (x0 : List Z7) (x1 : Int) : Option (Bool) := pick fun r => ∀ (ox0 : Own), RRun (Z5J) (EE 19 [(.p (.lst ox0 (x0.map Zs))), (iv x1)] []) r
theorem ZbB (x0 : List Z7) (x1 : Int) (ox0 : Own) : Sim (Z5J) (Z5K x0 x1) (EE 19 [(.p (.lst ox0 (x0.map Zs))), (iv x1)] []) := fun _ h => pick_to h ox0
noncomputable def Z35 (x0 : List Z7) (zY : Int) : Option (Bool) := pick fun r => ∀ (ox0 : Own), RRun (Z2y zY) (EE 30 [(.p (.lst ox0 (x0.map Zs))), (.clo 31 [] [(.ptr 0 0)])] [[(iv zY)]]) r
theorem Z7l (x0 : List Z7) (zY : Int) (ox0 : Own) : Sim (Z2y zY) (Z35 x0 zY) (EE 30 [(.p (.lst ox0 (x0.map Zs))), (.clo 31 [] [(.ptr 0 0)])] [[(iv zY)]]) := fun _ h => pick_to h ox0
noncomputable def Z3B (x0 : List Z7) (zY : Int) : Option (Int) := pick fun r => ∀ (ox0 : Own), RRun (Z1i zY) (EE 37 [(.p (.lst ox0 (x0.map Zs))), (.clo 31 [] [(.ptr 0 0)])] [[(iv zY)]]) r
theorem Z87 (x0 : List Z7) (zY : Int) (ox0 : Own) : Sim (Z1i zY) (Z3B x0 zY) (EE 37 [(.p (.lst ox0 (x0.map Zs))), (.clo 31 [] [(.ptr 0 0)])] [[(iv zY)]]) := fun _ h => pick_to h ox0
noncomputable def Z2C (x0 : List Z7) (x7 : Int) (x8 : Int) (zY : Int) : Option (Int) := pick fun r => ∀ (ox0 : Own), RRun (Z1i zY) (ZaK 1 (.p (.lst ox0 (x0.map Zs))) (.clo 31 [] [(.ptr 0 0)]) (iv x7) (iv x8) [[(iv zY)]]) r
theorem Z5c (x0 : List Z7) (x7 : Int) (x8 : Int) (zY : Int) (ox0 : Own) : Sim (Z1i zY) (Z2C x0 x7 x8 zY) (ZaK 1 (.p (.lst ox0 (x0.map Zs))) (.clo 31 [] [(.ptr 0 0)]) (iv x7) (iv x8) [[(iv zY)]]) := fun _ h => pick_to h ox0
noncomputable def Z5W (x0 : Z7) (zY : Int) : Option (Bool) := pick fun r => RRun (Z5d zY) (EE 31 [(.p (.agg (ZF x0))), (.ptr 0 0)] [[(iv zY)]]) r
theorem Zbr (x0 : Z7) (zY : Int) : Sim (Z5d zY) (Z5W x0 zY) (EE 31 [(.p (.agg (ZF x0))), (.ptr 0 0)] [[(iv zY)]]) := fun _ h => pick_to h
noncomputable def Z5l (x1 : Int) (zl : List Int) (zp : Int) (z6 : Int) (zd : Int) (zh : List Zr) (z1 : Int) (z2 : Int) : Option (Z3 × Int × Int × Int) := pick fun r => ∀ (zn : Own) (zb : Own) (zu : okApp zb = true), RRun (Z16 zl z6 zd zh zn zb) (EE 50 [(.ptr 0 0), (iv x1)] [(Zi (Zk.mk zl zp z6 zd zh (Zj.mk z1 z2)) zn zb)]) r
theorem Za5 (x1 : Int) (zl : List Int) (zp : Int) (z6 : Int) (zd : Int) (zh : List Zr) (z1 : Int) (z2 : Int) (zn : Own) (zb : Own) (zu : okApp zb = true) : Sim (Z16 zl z6 zd zh zn zb) (Z5l x1 zl zp z6 zd zh z1 z2) (EE 50 [(.ptr 0 0), (iv x1)] [(Zi (Zk.mk zl zp z6 zd zh (Zj.mk z1 z2)) zn zb)]) := fun _ h => pick_to h zn zb zu
noncomputable def Z2D (x1 : Int) (x5 : Bool) (x8 : Int) (zl : List Int) (zp : Int) (z6 : Int) (zd : Int) (zh : List Zr) (z1 : Int) (z2 : Int) (z10 : List Z7) : Option (Z3 × Int × Int × Int) := pick fun r => ∀ (b1 : Z3) (zn : Own) (zb : Own) (zB : Own) (zy : Own) (z1a : Own) (zu : okApp zb = true) (zQ : okApp zB = true) (zJ : okApp zy = true), RRun (Z16 zl z6 zd zh zn zb) (ZaM 1 (.ptr 0 0) (iv x1) (.ptr 1 0) (bv x5) (.ptr 2 0) (.clo 58 [] [(.ptr 2 0)]) (iv x8) [(Zi (Zk.mk zl zp z6 zd zh (Zj.mk z1 z2)) zn zb), (Zq b1 zB zy), [(.p (.lst z1a (z10.map Zs)))]]) r
theorem Z6l (x1 : Int) (x5 : Bool) (x8 : Int) (zl : List Int) (zp : Int) (z6 : Int) (zd : Int) (zh : List Zr) (z1 : Int) (z2 : Int) (b1 : Z3) (z10 : List Z7) (zn : Own) (zb : Own) (zB : Own) (zy : Own) (z1a : Own) (zu : okApp zb = true) (zQ : okApp zB = true) (zJ : okApp zy = true) : Sim (Z16 zl z6 zd zh zn zb) (Z2D x1 x5 x8 zl zp z6 zd zh z1 z2 z10) (ZaM 1 (.ptr 0 0) (iv x1) (.ptr 1 0) (bv x5) (.ptr 2 0) (.clo 58 [] [(.ptr 2 0)]) (iv x8) [(Zi (Zk.mk zl zp z6 zd zh (Zj.mk z1 z2)) zn zb), (Zq b1 zB zy), [(.p (.lst z1a (z10.map Zs)))]]) := fun _ h => pick_to h b1 zn zb zB zy z1a zu zQ zJ
noncomputable def Z3h (zl : List Int) (zp : Int) (z6 : Int) (zd : Int) (zh : List Zr) (z1 : Int) (z2 : Int) : Option (Int × (Own × (List Z7)) × Bool × Int × Int × Int) := pick fun r => ∀ (zn : Own) (zb : Own) (zu : okApp zb = true), RRun (Z2s zl z6 zd zh zn zb) (EE 60 [(.ptr 0 0)] [(Zi (Zk.mk zl zp z6 zd zh (Zj.mk z1 z2)) zn zb)]) r
theorem Z6J (zl : List Int) (zp : Int) (z6 : Int) (zd : Int) (zh : List Zr) (z1 : Int) (z2 : Int) (zn : Own) (zb : Own) (zu : okApp zb = true) : Sim (Z2s zl z6 zd zh zn zb) (Z3h zl zp z6 zd zh z1 z2) (EE 60 [(.ptr 0 0)] [(Zi (Zk.mk zl zp z6 zd zh (Zj.mk z1 z2)) zn zb)]) := fun _ h => pick_to h zn zb zu
noncomputable def Z3R (x0 : List Z7) (zY : List Z7) : Option ((List Z7)) := pick fun r => ∀ (ox0 : Own) (z8X : Own), RRun (Z3S) (EE 58 [(.p (.lst ox0 (x0.map Zs))), (.ptr 0 0)] [[(.p (.lst z8X (zY.map Zs)))]]) r
theorem Z6A (x0 : List Z7) (zY : List Z7) (ox0 : Own) (z8X : Own) : Sim (Z3S) (Z3R x0 zY) (EE 58 [(.p (.lst ox0 (x0.map Zs))), (.ptr 0 0)] [[(.p (.lst z8X (zY.map Zs)))]]) := fun _ h => pick_to h ox0 z8X
noncomputable def Z7e (x0 : List Z7) (x1 : List Z7) : Option ((List Z7) × Int) := pick fun r => ∀ (ox0 : Own) (ox1 : Own), RRun (Z4J) (EE 59 [(.p (.lst ox0 (x0.map Zs))), (.p (.lst ox1 (x1.map Zs)))] []) r
theorem Zc6 (x0 : List Z7) (x1 : List Z7) (ox0 : Own) (ox1 : Own) : Sim (Z4J) (Z7e x0 x1) (EE 59 [(.p (.lst ox0 (x0.map Zs))), (.p (.lst ox1 (x1.map Zs)))] []) := fun _ h => pick_to h ox0 ox1
noncomputable def Z6d (x0 : List (List Z7)) : Option ((List Z7)) := pick fun r => ∀ (ox0 : Own), RRun (Z55) (EE 72 [(.p (.lst ox0 (x0.map (eL Zs))))] []) r
theorem Z9W (x0 : List (List Z7)) (ox0 : Own) : Sim (Z55) (Z6d x0) (EE 72 [(.p (.lst ox0 (x0.map (eL Zs))))] []) := fun _ h => pick_to h ox0
noncomputable def Z2U (x1 : Int) (zl : List Int) (zp : Int) (z6 : Int) (zd : Int) (zh : List Zr) (z1 : Int) (z2 : Int) : Option (Z3 × Bool × Int × Int × Int × (List Zr) × Int × Int) := pick fun r => ∀ (zn : Own) (zb : Own) (zu : okApp zb = true), RRun (Z22 zl zn) (EE 51 [(.ptr 0 0), (iv x1)] [(Zi (Zk.mk zl zp z6 zd zh (Zj.mk z1 z2)) zn zb)]) r
theorem Zaf (x1 : Int) (zl : List Int) (zp : Int) (z6 : Int) (zd : Int) (zh : List Zr) (z1 : Int) (z2 : Int) (zn : Own) (zb : Own) (zu : okApp zb = true) : Sim (Z22 zl zn) (Z2U x1 zl zp z6 zd zh z1 z2) (EE 51 [(.ptr 0 0), (iv x1)] [(Zi (Zk.mk zl zp z6 zd zh (Zj.mk z1 z2)) zn zb)]) := fun _ h => pick_to h zn zb zu
noncomputable def Z7H  : Option ((List ByteArray)) := pick fun r => RRun (Z6n) (EE 62 [] []) r
theorem Zcb  : Sim (Z6n) (Z7H) (EE 62 [] []) := fun _ h => pick_to h
noncomputable def Z3s (x0 : List ByteArray) (zl : List Int) (zp : Int) : Option (Int × Int) := pick fun r => ∀ (z6 : Int) (zd : Int) (zh : List Zr) (z1 : Int) (z2 : Int) (ox0 : Own) (zn : Own) (zb : Own) (zu : okApp zb = true), RRun (Z1f zl z6 zd zh z1 z2 zn zb) (EE 61 [(.p (.lst ox0 (x0.map eS))), (.clo 27 [(.ptr 0 0)] [])] [(Zi (Zk.mk zl zp z6 zd zh (Zj.mk z1 z2)) zn zb)]) r
theorem Z7S (x0 : List ByteArray) (zl : List Int) (zp : Int) (z6 : Int) (zd : Int) (zh : List Zr) (z1 : Int) (z2 : Int) (ox0 : Own) (zn : Own) (zb : Own) (zu : okApp zb = true) : Sim (Z1f zl z6 zd zh z1 z2 zn zb) (Z3s x0 zl zp) (EE 61 [(.p (.lst ox0 (x0.map eS))), (.clo 27 [(.ptr 0 0)] [])] [(Zi (Zk.mk zl zp z6 zd zh (Zj.mk z1 z2)) zn zb)]) := fun _ h => pick_to h z6 zd zh z1 z2 ox0 zn zb zu
noncomputable def Z1q (x0 : List ByteArray) (x7 : Int) (x8 : Int) (zl : List Int) (zp : Int) : Option (Int × Int) := pick fun r => ∀ (z6 : Int) (zd : Int) (zh : List Zr) (z1 : Int) (z2 : Int) (ox0 : Own) (zn : Own) (zb : Own) (zu : okApp zb = true), RRun (Z1f zl z6 zd zh z1 z2 zn zb) (ZaH 1 (.p (.lst ox0 (x0.map eS))) (.clo 27 [(.ptr 0 0)] []) (iv x7) (iv x8) [(Zi (Zk.mk zl zp z6 zd zh (Zj.mk z1 z2)) zn zb)]) r
theorem Z57 (x0 : List ByteArray) (x7 : Int) (x8 : Int) (zl : List Int) (zp : Int) (z6 : Int) (zd : Int) (zh : List Zr) (z1 : Int) (z2 : Int) (ox0 : Own) (zn : Own) (zb : Own) (zu : okApp zb = true) : Sim (Z1f zl z6 zd zh z1 z2 zn zb) (Z1q x0 x7 x8 zl zp) (ZaH 1 (.p (.lst ox0 (x0.map eS))) (.clo 27 [(.ptr 0 0)] []) (iv x7) (iv x8) [(Zi (Zk.mk zl zp z6 zd zh (Zj.mk z1 z2)) zn zb)]) := fun _ h => pick_to h z6 zd zh z1 z2 ox0 zn zb zu
noncomputable def Z40 (x1 : Z3) (x2 : Bool) (zl : List Int) (zp : Int) (z6 : Int) (zd : Int) (zh : List Zr) (z1 : Int) (z2 : Int) : Option (Z3 × Int × Int × Int) := pick fun r => ∀ (z1r : Own) (z1c : Own) (zn : Own) (zb : Own) (zu : okApp zb = true), RRun (Z2t zl z6 zd zh zn zb) (EE 43 [(.ptr 0 0), (.p (.agg (ZD x1 z1r z1c))), (bv x2)] [(Zi (Zk.mk zl zp z6 zd zh (Zj.mk z1 z2)) zn zb)]) r
theorem Z9Y (x1 : Z3) (x2 : Bool) (zl : List Int) (zp : Int) (z6 : Int) (zd : Int) (zh : List Zr) (z1 : Int) (z2 : Int) (z1r : Own) (z1c : Own) (zn : Own) (zb : Own) (zu : okApp zb = true) : Sim (Z2t zl z6 zd zh zn zb) (Z40 x1 x2 zl zp z6 zd zh z1 z2) (EE 43 [(.ptr 0 0), (.p (.agg (ZD x1 z1r z1c))), (bv x2)] [(Zi (Zk.mk zl zp z6 zd zh (Zj.mk z1 z2)) zn zb)]) := fun _ h => pick_to h z1r z1c zn zb zu
noncomputable def Z42 (x1 : Int) (zl : List Int) (zp : Int) (z6 : Int) (zd : Int) (zh : List Zr) (z1 : Int) (z2 : Int) : Option (Int × Int × Int × Int × Int) := pick fun r => ∀ (zn : Own) (zb : Own) (zu : okApp zb = true), RRun (Z1K zl z6 zd zh zn zb) (EE 52 [(.ptr 0 0), (iv x1)] [(Zi (Zk.mk zl zp z6 zd zh (Zj.mk z1 z2)) zn zb)]) r
theorem Za2 (x1 : Int) (zl : List Int) (zp : Int) (z6 : Int) (zd : Int) (zh : List Zr) (z1 : Int) (z2 : Int) (zn : Own) (zb : Own) (zu : okApp zb = true) : Sim (Z1K zl z6 zd zh zn zb) (Z42 x1 zl zp z6 zd zh z1 z2) (EE 52 [(.ptr 0 0), (iv x1)] [(Zi (Zk.mk zl zp z6 zd zh (Zj.mk z1 z2)) zn zb)]) := fun _ h => pick_to h zn zb zu
noncomputable def Z3g (zl : List Int) (zp : Int) (z6 : Int) (zd : Int) (zh : List Zr) (z1 : Int) (z2 : Int) : Option (Int × Int) := pick fun r => ∀ (zn : Own) (zb : Own) (zu : okApp zb = true), RRun (Z1V zl z6 zd zh z1 z2 zn zb) (EE 63 [(.ptr 0 0)] [(Zi (Zk.mk zl zp z6 zd zh (Zj.mk z1 z2)) zn zb)]) r
theorem Z6M (zl : List Int) (zp : Int) (z6 : Int) (zd : Int) (zh : List Zr) (z1 : Int) (z2 : Int) (zn : Own) (zb : Own) (zu : okApp zb = true) : Sim (Z1V zl z6 zd zh z1 z2 zn zb) (Z3g zl zp z6 zd zh z1 z2) (EE 63 [(.ptr 0 0)] [(Zi (Zk.mk zl zp z6 zd zh (Zj.mk z1 z2)) zn zb)]) := fun _ h => pick_to h zn zb zu
noncomputable def Z2n (x3 : Int) (x4 : Int) (zl : List Int) (zp : Int) (z6 : Int) (zd : Int) (zh : List Zr) (z1 : Int) (z2 : Int) : Option (Int × Int) := pick fun r => ∀ (zn : Own) (zb : Own) (zu : okApp zb = true), RRun (Z1V zl z6 zd zh z1 z2 zn zb) (Zb9 1 (.ptr 0 0) (iv x3) (iv x4) [(Zi (Zk.mk zl zp z6 zd zh (Zj.mk z1 z2)) zn zb)]) r
theorem Z6e (x3 : Int) (x4 : Int) (zl : List Int) (zp : Int) (z6 : Int) (zd : Int) (zh : List Zr) (z1 : Int) (z2 : Int) (zn : Own) (zb : Own) (zu : okApp zb = true) : Sim (Z1V zl z6 zd zh z1 z2 zn zb) (Z2n x3 x4 zl zp z6 zd zh z1 z2) (Zb9 1 (.ptr 0 0) (iv x3) (iv x4) [(Zi (Zk.mk zl zp z6 zd zh (Zj.mk z1 z2)) zn zb)]) := fun _ h => pick_to h zn zb zu
noncomputable def Z3k (x3 : List Z3) (zl : List Int) (zp : Int) (z6 : Int) (zd : Int) (zh : List Zr) (z1 : Int) (z2 : Int) : Option (Z3 × Int × Int × Int × (List Zr) × Int × Int) := pick fun r => ∀ (b1 : Z3) (ox3 : Own) (zn : Own) (zb : Own) (zB : Own) (zy : Own) (hox3 : okApp ox3 = true) (zu : okApp zb = true) (zQ : okApp zB = true) (zJ : okApp zy = true), RRun (Z2g zl zn) (Zb4 1 (.ptr 0 0) (.ptr 1 0) (.p (.lst ox3 (x3.map ZK))) [(Zi (Zk.mk zl zp z6 zd zh (Zj.mk z1 z2)) zn zb), (Zq b1 zB zy)]) r
theorem Z6T (x3 : List Z3) (zl : List Int) (zp : Int) (z6 : Int) (zd : Int) (zh : List Zr) (z1 : Int) (z2 : Int) (b1 : Z3) (ox3 : Own) (zn : Own) (zb : Own) (zB : Own) (zy : Own) (hox3 : okApp ox3 = true) (zu : okApp zb = true) (zQ : okApp zB = true) (zJ : okApp zy = true) : Sim (Z2g zl zn) (Z3k x3 zl zp z6 zd zh z1 z2) (Zb4 1 (.ptr 0 0) (.ptr 1 0) (.p (.lst ox3 (x3.map ZK))) [(Zi (Zk.mk zl zp z6 zd zh (Zj.mk z1 z2)) zn zb), (Zq b1 zB zy)]) := fun _ h => pick_to h b1 ox3 zn zb zB zy hox3 zu zQ zJ
noncomputable def Z4H (x50 : List Zr) (x51 : Int) (x52 : Int) (z1O : List Int) (zR : Int) (zI : Int) (zS : Int) (zM : Int) (zU : Int) (zV : Int) (zL : Int) (zO : Int) (zP : List Z7) (zN : List Z3) (z11 : Bool) : Option (ZC × Zj) := pick fun r => ∀ (b0 : ZC) (b1 : Zj) (z1I : Int) (z1w : Int) (z1b : List Zr) (z1n : Int) (ox50 : Own) (zH : Own) (zG : Own) (z26 : Own) (z15 : Own) (zZ : Own) (zX : Own) (z1s : okApp zH = true) (z1j : okApp zG = true) (z2h : okApp z15 = true), RRun (Z29) (ZaI 0 (.ptr 0 0) (.ptr 1 0) (.ptr 2 0) (.ptr 3 0) (.p (.lst ox50 (x50.map Z1y))) (iv x51) (iv x52) [(Zv b0 zH zG), (ZE b1), (Zi (Zk.mk z1O z1I zR z1w z1b (Zj.mk zI zS)) z26 z15), (Zv (ZC.mk (Z3.mk zM zU zV zL zO zP zN) z1n z11) zZ zX)]) r
theorem Z8B (x50 : List Zr) (x51 : Int) (x52 : Int) (b0 : ZC) (b1 : Zj) (z1O : List Int) (z1I : Int) (zR : Int) (z1w : Int) (z1b : List Zr) (zI : Int) (zS : Int) (zM : Int) (zU : Int) (zV : Int) (zL : Int) (zO : Int) (zP : List Z7) (zN : List Z3) (z1n : Int) (z11 : Bool) (ox50 : Own) (zH : Own) (zG : Own) (z26 : Own) (z15 : Own) (zZ : Own) (zX : Own) (z1s : okApp zH = true) (z1j : okApp zG = true) (z2h : okApp z15 = true) : Sim (Z29) (Z4H x50 x51 x52 z1O zR zI zS zM zU zV zL zO zP zN z11) (ZaI 0 (.ptr 0 0) (.ptr 1 0) (.ptr 2 0) (.ptr 3 0) (.p (.lst ox50 (x50.map Z1y))) (iv x51) (iv x52) [(Zv b0 zH zG), (ZE b1), (Zi (Zk.mk z1O z1I zR z1w z1b (Zj.mk zI zS)) z26 z15), (Zv (ZC.mk (Z3.mk zM zU zV zL zO zP zN) z1n z11) zZ zX)]) := fun _ h => pick_to h b0 b1 z1I z1w z1b z1n ox50 zH zG z26 z15 zZ zX z1s z1j z2h
noncomputable def Z2a (x0 : Z3) (x1 : Z3) : Option (Bool) := pick fun r => ∀ (z5q : Own) (z4o : Own) (z1r : Own) (z1c : Own), RRun (Z1p) (EE 17 [(.p (.agg (ZD x0 z5q z4o))), (.p (.agg (ZD x1 z1r z1c)))] []) r
theorem Z6o (x0 : Z3) (x1 : Z3) (z5q : Own) (z4o : Own) (z1r : Own) (z1c : Own) : Sim (Z1p) (Z2a x0 x1) (EE 17 [(.p (.agg (ZD x0 z5q z4o))), (.p (.agg (ZD x1 z1r z1c)))] []) := fun _ h => pick_to h z5q z4o z1r z1c
noncomputable def Z4U (x0 : List Z7) (x1 : List Z7) : Option (Bool) := pick fun r => ∀ (ox0 : Own) (ox1 : Own), RRun (Z1z) (EE 22 [(.p (.lst ox0 (x0.map Zs))), (.p (.lst ox1 (x1.map Zs)))] []) r
theorem Z9A (x0 : List Z7) (x1 : List Z7) (ox0 : Own) (ox1 : Own) : Sim (Z1z) (Z4U x0 x1) (EE 22 [(.p (.lst ox0 (x0.map Zs))), (.p (.lst ox1 (x1.map Zs)))] []) := fun _ h => pick_to h ox0 ox1
noncomputable def Z3f (x1 : List Z7) (x12 : List Z7) (x13 : Int) (x14 : Int) : Option (Bool) := pick fun r => ∀ (ox1 : Own) (ox12 : Own), RRun (Z1z) (Zbb 0 (.p (.lst ox1 (x1.map Zs))) (.p (.lst ox12 (x12.map Zs))) (iv x13) (iv x14) []) r
theorem Z62 (x1 : List Z7) (x12 : List Z7) (x13 : Int) (x14 : Int) (ox1 : Own) (ox12 : Own) : Sim (Z1z) (Z3f x1 x12 x13 x14) (Zbb 0 (.p (.lst ox1 (x1.map Zs))) (.p (.lst ox12 (x12.map Zs))) (iv x13) (iv x14) []) := fun _ h => pick_to h ox1 ox12
noncomputable def Z2Z (x58 : List Z3) (x59 : Int) (x60 : Int) (b1 : Z3) : Option (Bool) := pick fun r => ∀ (b0 : Z3) (ox58 : Own) (z2d : Own) (z1J : Own) (zB : Own) (zy : Own), RRun (Z1p) (ZaS 0 (.ptr 1 0) (.p (.lst ox58 (x58.map ZK))) (iv x59) (iv x60) [(Zq b0 z2d z1J), (Zq b1 zB zy)]) r
theorem Z5S (x58 : List Z3) (x59 : Int) (x60 : Int) (b0 : Z3) (b1 : Z3) (ox58 : Own) (z2d : Own) (z1J : Own) (zB : Own) (zy : Own) : Sim (Z1p) (Z2Z x58 x59 x60 b1) (ZaS 0 (.ptr 1 0) (.p (.lst ox58 (x58.map ZK))) (iv x59) (iv x60) [(Zq b0 z2d z1J), (Zq b1 zB zy)]) := fun _ h => pick_to h b0 ox58 z2d z1J zB zy
end Go.Proofs.YtadodmjdkphddaaDoor.N2
end
