/- The functions, read typed: their types, and what they stand for. No condition. -/
import Derived.Test.YtadodmjdkphddaaDoorSim
import Derived.Test.YtadodmjdkphddaaDoorEqs

section
set_option linter.unusedSimpArgs false
set_option linter.unusedVariables false
namespace Go.Proofs.YtadodmjdkphddaaDoor.N2
open Go Go.Abs
set_option linter.unusedVariables false
set_option maxRecDepth 100000
structure Z7 where
 Lo : Int
 Hi : Int
 deriving Inhabited
def Z3w (a : Z7) : List PV := [(eI .i64) a.Lo, (eI .i64) a.Hi]
def Zs (a : Z7) : PV := .agg (Z3w a)
def ZF (a : Z7) : List PV := [(eI .i64) a.Lo, (eI .i64) a.Hi]
def Z1i (a : Z7) : Row := [.p ((eI .i64) a.Lo), .p ((eI .i64) a.Hi)]
theorem Z8Q {a b : Z7} (h : Z3w a = Z3w b) : a = b := by
 have h0 : a.Lo = b.Lo := eI_inj _ _ (congrArg (fun l => l.getD 0 .junk) h)
 have h1 : a.Hi = b.Hi := eI_inj _ _ (congrArg (fun l => l.getD 1 .junk) h)
 cases a; cases b
 cases h0
 cases h1
 rfl
theorem Z2i (a b : Z7) (h : Zs a = Zs b) : a = b := Z8Q (congrArg pC h)
structure Z8 where
 Kind : Int
 Lo : Int
 Hi : Int
 Mode : Int
 Ref : Int
 Set : (List Z7)
 Kids : (List Z8)
instance : Inhabited Z8 := ⟨⟨default, default, default, default, default, default, default⟩⟩
mutual
def ZI : Z8 → PV
 | ⟨Kind_, Lo_, Hi_, Mode_, Ref_, Set_, Kids_⟩ => .agg [(eI .i64) Kind_, (eI .i64) Lo_, (eI .i64) Hi_, (eI .i64) Mode_, (eI .i64) Ref_, (eL Zs) Set_, .lst .sh (Z3x Kids_)]
def Z3x : List Z8 → List PV
 | [] => []
 | x :: r => ZI x :: Z3x r
end
theorem Z9b : ∀ l, Z3x l = l.map ZI
 | [] => rfl
 | x :: r => by rw [Z3x, Z9b r]; rfl
def Z2l (a : Z8) : List PV := [(eI .i64) a.Kind, (eI .i64) a.Lo, (eI .i64) a.Hi, (eI .i64) a.Mode, (eI .i64) a.Ref, (eL Zs) a.Set, (eL ZI) a.Kids]
theorem Z2V (a : Z8) : ZI a = .agg (Z2l a) := by
 cases a; rw [ZI, Z9b]; rfl
theorem Z5T (a : Z8) : pcells (ZI a) = Z2l a := by rw [Z2V]; rfl
theorem ZaC (a : Z8) : (pcells (ZI a)).length = 7 := by rw [Z2V]; rfl
def ZD (a : Z8) (o0 o1 : Own) : List PV := [(eI .i64) a.Kind, (eI .i64) a.Lo, (eI .i64) a.Hi, (eI .i64) a.Mode, (eI .i64) a.Ref, .lst o0 (a.Set.map Zs), .lst o1 (a.Kids.map ZI)]
def Zq (a : Z8) (o0 o1 : Own) : Row := [.p ((eI .i64) a.Kind), .p ((eI .i64) a.Lo), .p ((eI .i64) a.Hi), .p ((eI .i64) a.Mode), .p ((eI .i64) a.Ref), .p (.lst o0 (a.Set.map Zs)), .p (.lst o1 (a.Kids.map ZI))]
mutual
theorem Z9c : ∀ a b : Z8, ZI a = ZI b → a = b
 | ⟨Kind_, Lo_, Hi_, Mode_, Ref_, Set_, Kids_⟩, ⟨Kind_2, Lo_2, Hi_2, Mode_2, Ref_2, Set_2, Kids_2⟩, h => by
  rw [ZI, ZI] at h
  have h0 : Kind_ = Kind_2 := eI_inj _ _ (congrArg (fun l => (pC l).getD 0 .junk) h)
  have h1 : Lo_ = Lo_2 := eI_inj _ _ (congrArg (fun l => (pC l).getD 1 .junk) h)
  have h2 : Hi_ = Hi_2 := eI_inj _ _ (congrArg (fun l => (pC l).getD 2 .junk) h)
  have h3 : Mode_ = Mode_2 := eI_inj _ _ (congrArg (fun l => (pC l).getD 3 .junk) h)
  have h4 : Ref_ = Ref_2 := eI_inj _ _ (congrArg (fun l => (pC l).getD 4 .junk) h)
  have h5 : Set_ = Set_2 := (eL_inj Z2i) _ _ (congrArg (fun l => (pC l).getD 5 .junk) h)
  have h6 : Kids_ = Kids_2 := Z92 Kids_ Kids_2 (congrArg (fun l => pL ((pC l).getD 6 .junk)) h)
  subst h0
  subst h1
  subst h2
  subst h3
  subst h4
  subst h5
  subst h6
  rfl
theorem Z92 : ∀ a b : List Z8, Z3x a = Z3x b → a = b
 | [], [], _ => rfl
 | [], _ :: _, h => by simp [Z3x] at h
 | _ :: _, [], h => by simp [Z3x] at h
 | x :: r, y :: t, h => by
  simp only [Z3x, List.cons.injEq] at h
  rw [Z9c x y h.1, Z92 r t h.2]
end
theorem Z2v {a b : Z8} (h : Z2l a = Z2l b) : a = b := Z9c a b (by rw [Z2V, Z2V, h])
structure ZE where
 Root : Z8
 Groups : Int
 Fold : Bool
 deriving Inhabited
def Z7H (a : ZE) : List PV := [(eI .i64) a.Root.Kind, (eI .i64) a.Root.Lo, (eI .i64) a.Root.Hi, (eI .i64) a.Root.Mode, (eI .i64) a.Root.Ref, (eL Zs) a.Root.Set, (eL ZI) a.Root.Kids, (eI .i64) a.Groups, eB a.Fold]
def Z9P (a : ZE) : PV := .agg (Z7H a)
def Z1j (a : ZE) (o0 o1 : Own) : List PV := [(eI .i64) a.Root.Kind, (eI .i64) a.Root.Lo, (eI .i64) a.Root.Hi, (eI .i64) a.Root.Mode, (eI .i64) a.Root.Ref, .lst o0 (a.Root.Set.map Zs), .lst o1 (a.Root.Kids.map ZI), (eI .i64) a.Groups, eB a.Fold]
def Zv (a : ZE) (o0 o1 : Own) : Row := [.p ((eI .i64) a.Root.Kind), .p ((eI .i64) a.Root.Lo), .p ((eI .i64) a.Root.Hi), .p ((eI .i64) a.Root.Mode), .p ((eI .i64) a.Root.Ref), .p (.lst o0 (a.Root.Set.map Zs)), .p (.lst o1 (a.Root.Kids.map ZI)), .p ((eI .i64) a.Groups), .p (eB a.Fold)]
theorem Z8a {a b : ZE} (h : Z7H a = Z7H b) : a = b := by
 have h0 : a.Root = b.Root := Z2v (congrArg (fun l => (l.drop 0).take 7) h)
 have h1 : a.Groups = b.Groups := eI_inj _ _ (congrArg (fun l => l.getD 7 .junk) h)
 have h2 : a.Fold = b.Fold := eB_inj _ _ (congrArg (fun l => l.getD 8 .junk) h)
 cases a; cases b
 cases h0
 cases h1
 cases h2
 rfl
theorem ZeC (a b : ZE) (h : Z9P a = Z9P b) : a = b := Z8a (congrArg pC h)
structure Zj where
 Code : Int
 At : Int
 deriving Inhabited
def Z8I (a : Zj) : List PV := [(eI .i64) a.Code, (eI .i64) a.At]
def Zb9 (a : Zj) : PV := .agg (Z8I a)
def Z11 (a : Zj) : List PV := [(eI .i64) a.Code, (eI .i64) a.At]
def ZC (a : Zj) : Row := [.p ((eI .i64) a.Code), .p ((eI .i64) a.At)]
theorem Z6v {a b : Zj} (h : Z8I a = Z8I b) : a = b := by
 have h0 : a.Code = b.Code := eI_inj _ _ (congrArg (fun l => l.getD 0 .junk) h)
 have h1 : a.At = b.At := eI_inj _ _ (congrArg (fun l => l.getD 1 .junk) h)
 cases a; cases b
 cases h0
 cases h1
 rfl
theorem Zfv (a b : Zj) (h : Zb9 a = Zb9 b) : a = b := Z6v (congrArg pC h)
structure Zr where
 group : Int
 at_ : Int
 deriving Inhabited
def Z6a (a : Zr) : List PV := [(eI .i64) a.group, (eI .i64) a.at_]
def Z1x (a : Zr) : PV := .agg (Z6a a)
def Z7I (a : Zr) : List PV := [(eI .i64) a.group, (eI .i64) a.at_]
def Z7N (a : Zr) : Row := [.p ((eI .i64) a.group), .p ((eI .i64) a.at_)]
theorem Zbg {a b : Zr} (h : Z6a a = Z6a b) : a = b := by
 have h0 : a.group = b.group := eI_inj _ _ (congrArg (fun l => l.getD 0 .junk) h)
 have h1 : a.at_ = b.at_ := eI_inj _ _ (congrArg (fun l => l.getD 1 .junk) h)
 cases a; cases b
 cases h0
 cases h1
 rfl
theorem Z3v (a b : Zr) (h : Z1x a = Z1x b) : a = b := Zbg (congrArg pC h)
structure Zk where
 b : (List Int)
 at_ : Int
 groups : Int
 deep : Int
 refs : (List Zr)
 fault : Zj
 deriving Inhabited
def Z83 (a : Zk) : List PV := [(eL (eI .u8)) a.b, (eI .i64) a.at_, (eI .i64) a.groups, (eI .i64) a.deep, (eL Z1x) a.refs, (eI .i64) a.fault.Code, (eI .i64) a.fault.At]
def Zah (a : Zk) : PV := .agg (Z83 a)
def Zcy (a : Zk) (o0 o1 : Own) : List PV := [.lst o0 (a.b.map (eI .u8)), (eI .i64) a.at_, (eI .i64) a.groups, (eI .i64) a.deep, .lst o1 (a.refs.map Z1x), (eI .i64) a.fault.Code, (eI .i64) a.fault.At]
def Zi (a : Zk) (o0 o1 : Own) : Row := [.p (.lst o0 (a.b.map (eI .u8))), .p ((eI .i64) a.at_), .p ((eI .i64) a.groups), .p ((eI .i64) a.deep), .p (.lst o1 (a.refs.map Z1x)), .p ((eI .i64) a.fault.Code), .p ((eI .i64) a.fault.At)]
theorem Zbq {a b : Zk} (h : Z83 a = Z83 b) : a = b := by
 have h0 : a.b = b.b := (eL_inj eI_inj) _ _ (congrArg (fun l => l.getD 0 .junk) h)
 have h1 : a.at_ = b.at_ := eI_inj _ _ (congrArg (fun l => l.getD 1 .junk) h)
 have h2 : a.groups = b.groups := eI_inj _ _ (congrArg (fun l => l.getD 2 .junk) h)
 have h3 : a.deep = b.deep := eI_inj _ _ (congrArg (fun l => l.getD 3 .junk) h)
 have h4 : a.refs = b.refs := (eL_inj Z3v) _ _ (congrArg (fun l => l.getD 4 .junk) h)
 have h5 : a.fault = b.fault := Z6v (congrArg (fun l => (l.drop 5).take 2) h)
 cases a; cases b
 cases h0
 cases h1
 cases h2
 cases h3
 cases h4
 cases h5
 rfl
theorem Zfa (a b : Zk) (h : Zah a = Zah b) : a = b := Zbq (congrArg pC h)
end Go.Proofs.YtadodmjdkphddaaDoor.N2
end
section
set_option linter.unusedSimpArgs false
set_option linter.unusedVariables false
namespace Go.Proofs.YtadodmjdkphddaaDoor.N2
open Go Go.Abs
set_option linter.unusedVariables false
set_option maxRecDepth 100000
abbrev Z39 (zl : List Int) (z6 : Int) (zd : Int) (zh : List Zr) (z1 : Int) (z2 : Int) (zn : Own) (zb : Own) : (Bool × Int) → Res → Prop := fun r q => ∃ (ex : List Row), q = ((bv r.1), [(Zi (Zk.mk zl r.2 z6 zd zh (Zj.mk z1 z2)) zn zb)] ++ ex)
theorem ZaP (zl : List Int) (z6 : Int) (zd : Int) (zh : List Zr) (z1 : Int) (z2 : Int) (zn : Own) (zb : Own) : ∀ a b q, Z39 zl z6 zd zh z1 z2 zn zb a q → Z39 zl z6 zd zh z1 z2 zn zb b q → a = b := by
 rintro a b q ⟨_, e1⟩ ⟨_, e2⟩
 have e := e1.symm.trans e2
 exact Prod.ext (congrArg (fun q : Res => pB (pA q.1)) e) (congrArg (fun q : Res => pI (pA (cellAt q 0 1))) e)
abbrev Z4c  : (Int × Int) → Res → Prop := fun r q => ∃ (ex : List Row), q = ((.p (.tup [(.v (.int .i32 r.1)), (.v (.int .i64 r.2))])), ex)
theorem Z8V  : ∀ a b q, Z4c  a q → Z4c  b q → a = b := by
 rintro a b q ⟨_, e1⟩ ⟨_, e2⟩
 have e := e1.symm.trans e2
 exact Prod.ext (congrArg (fun q : Res => pI ((pT (pA q.1)).getD 0 .junk)) e) (congrArg (fun q : Res => pI ((pT (pA q.1)).getD 1 .junk)) e)
abbrev Z4R  : (Int × Int) → Res → Prop := fun r q => ∃ (ex : List Row), q = ((.p (.tup [(.v (.int .i64 r.1)), (.v (.int .i64 r.2))])), ex)
theorem Zd1  : ∀ a b q, Z4R  a q → Z4R  b q → a = b := by
 rintro a b q ⟨_, e1⟩ ⟨_, e2⟩
 have e := e1.symm.trans e2
 exact Prod.ext (congrArg (fun q : Res => pI ((pT (pA q.1)).getD 0 .junk)) e) (congrArg (fun q : Res => pI ((pT (pA q.1)).getD 1 .junk)) e)
abbrev Z3M (b0 : Zk) (zn : Own) (zb : Own) : (Int) → Res → Prop := fun r q => ∃ (ex : List Row), q = ((iv r), [(Zi b0 zn zb)] ++ ex)
theorem ZaA (b0 : Zk) (zn : Own) (zb : Own) : ∀ a b q, Z3M b0 zn zb a q → Z3M b0 zn zb b q → a = b := by
 rintro a b q ⟨_, e1⟩ ⟨_, e2⟩
 have e := e1.symm.trans e2
 exact congrArg (fun q : Res => pI (pA q.1)) e
abbrev Z5m  : (Z8) → Res → Prop := fun r q => ∃ (ex : List Row), q = ((.p (.agg (ZD r .sh .sh))), ex)
theorem Zc2  : ∀ a b q, Z5m  a q → Z5m  b q → a = b := by
 rintro a b q ⟨_, e1⟩ ⟨_, e2⟩
 have e := e1.symm.trans e2
 exact Z2v (congrArg (fun q : Res => pC (pA q.1)) e)
abbrev Z4C (zl : List Int) (z6 : Int) (zd : Int) (zh : List Zr) (z1 : Int) (z2 : Int) (zn : Own) (zb : Own) : (Int × Int) → Res → Prop := fun r q => ∃ (ex : List Row), q = ((iv r.1), [(Zi (Zk.mk zl r.2 z6 zd zh (Zj.mk z1 z2)) zn zb)] ++ ex)
theorem ZaQ (zl : List Int) (z6 : Int) (zd : Int) (zh : List Zr) (z1 : Int) (z2 : Int) (zn : Own) (zb : Own) : ∀ a b q, Z4C zl z6 zd zh z1 z2 zn zb a q → Z4C zl z6 zd zh z1 z2 zn zb b q → a = b := by
 rintro a b q ⟨_, e1⟩ ⟨_, e2⟩
 have e := e1.symm.trans e2
 exact Prod.ext (congrArg (fun q : Res => pI (pA q.1)) e) (congrArg (fun q : Res => pI (pA (cellAt q 0 1))) e)
abbrev Z7n  : (Z7) → Res → Prop := fun r q => ∃ (ex : List Row), q = ((.p (.agg (ZF r))), ex)
theorem Zd4  : ∀ a b q, Z7n  a q → Z7n  b q → a = b := by
 rintro a b q ⟨_, e1⟩ ⟨_, e2⟩
 have e := e1.symm.trans e2
 exact Z8Q (congrArg (fun q : Res => pC (pA q.1)) e)
abbrev Z4y  : (Bool) → Res → Prop := fun r q => ∃ (ex : List Row), q = ((bv r), ex)
theorem ZaW  : ∀ a b q, Z4y  a q → Z4y  b q → a = b := by
 rintro a b q ⟨_, e1⟩ ⟨_, e2⟩
 have e := e1.symm.trans e2
 exact congrArg (fun q : Res => pB (pA q.1)) e
abbrev Z5Y  : (Bool) → Res → Prop := fun r q => ∃ (ex : List Row), q = ((bv r), ex)
theorem Zc6  : ∀ a b q, Z5Y  a q → Z5Y  b q → a = b := by
 rintro a b q ⟨_, e1⟩ ⟨_, e2⟩
 have e := e1.symm.trans e2
 exact congrArg (fun q : Res => pB (pA q.1)) e
abbrev Z1l  : (Int) → Res → Prop := fun r q => ∃ (ex : List Row), q = ((iv r), ex)
theorem Z5A  : ∀ a b q, Z1l  a q → Z1l  b q → a = b := by
 rintro a b q ⟨_, e1⟩ ⟨_, e2⟩
 have e := e1.symm.trans e2
 exact congrArg (fun q : Res => pI (pA q.1)) e
abbrev Z2x  : (Bool) → Res → Prop := fun r q => ∃ (ex : List Row), q = ((bv r), ex)
theorem Z7s  : ∀ a b q, Z2x  a q → Z2x  b q → a = b := by
 rintro a b q ⟨_, e1⟩ ⟨_, e2⟩
 have e := e1.symm.trans e2
 exact congrArg (fun q : Res => pB (pA q.1)) e
abbrev Z78  : ((List Z7)) → Res → Prop := fun r q => ∃ (ex : List Row), q = ((.p (.lst .sh (r.map Zs))), ex)
theorem Zc3  : ∀ a b q, Z78  a q → Z78  b q → a = b := by
 rintro a b q ⟨_, e1⟩ ⟨_, e2⟩
 have e := e1.symm.trans e2
 exact lmap_inj Z2i (congrArg (fun q : Res => pL (pA q.1)) e)
abbrev Z65  : ((List Z7) × Int) → Res → Prop := fun r q => ∃ (ex : List Row), q = ((.p (.tup [(.lst .sh (r.1.map Zs)), (.v (.int .i64 r.2))])), ex)
theorem ZcE  : ∀ a b q, Z65  a q → Z65  b q → a = b := by
 rintro a b q ⟨_, e1⟩ ⟨_, e2⟩
 have e := e1.symm.trans e2
 exact Prod.ext (lmap_inj Z2i (congrArg (fun q : Res => pL ((pT (pA q.1)).getD 0 .junk)) e)) (congrArg (fun q : Res => pI ((pT (pA q.1)).getD 1 .junk)) e)
abbrev Z1L  : (Bool) → Res → Prop := fun r q => ∃ (ex : List Row), q = ((bv r), ex)
theorem Z89  : ∀ a b q, Z1L  a q → Z1L  b q → a = b := by
 rintro a b q ⟨_, e1⟩ ⟨_, e2⟩
 have e := e1.symm.trans e2
 exact congrArg (fun q : Res => pB (pA q.1)) e
abbrev Z27  : ((List Z7)) → Res → Prop := fun r q => ∃ (ex : List Row), q = ((.p (.lst .sh (r.map Zs))), ex)
theorem Z9d  : ∀ a b q, Z27  a q → Z27  b q → a = b := by
 rintro a b q ⟨_, e1⟩ ⟨_, e2⟩
 have e := e1.symm.trans e2
 exact lmap_inj Z2i (congrArg (fun q : Res => pL (pA q.1)) e)
abbrev Z50  : ((List Z7) × Int) → Res → Prop := fun r q => ∃ (ex : List Row), q = ((.p (.tup [(.lst .sh (r.1.map Zs)), (.v (.int .i64 r.2))])), ex)
theorem ZbZ  : ∀ a b q, Z50  a q → Z50  b q → a = b := by
 rintro a b q ⟨_, e1⟩ ⟨_, e2⟩
 have e := e1.symm.trans e2
 exact Prod.ext (lmap_inj Z2i (congrArg (fun q : Res => pL ((pT (pA q.1)).getD 0 .junk)) e)) (congrArg (fun q : Res => pI ((pT (pA q.1)).getD 1 .junk)) e)
abbrev Z6j  : (Z8) → Res → Prop := fun r q => ∃ (ex : List Row), q = ((.p (.agg (ZD r .sh .sh))), ex)
theorem Zd2  : ∀ a b q, Z6j  a q → Z6j  b q → a = b := by
 rintro a b q ⟨_, e1⟩ ⟨_, e2⟩
 have e := e1.symm.trans e2
 exact Z2v (congrArg (fun q : Res => pC (pA q.1)) e)
abbrev Z3K (zl : List Int) (z6 : Int) (zd : Int) (zh : List Zr) (zn : Own) (zb : Own) : (Int × Int × Int) → Res → Prop := fun r q => ∃ (ex : List Row), q = ((.p (.tup [])), [(Zi (Zk.mk zl r.1 z6 zd zh (Zj.mk r.2.1 r.2.2)) zn zb)] ++ ex)
theorem Zb2 (zl : List Int) (z6 : Int) (zd : Int) (zh : List Zr) (zn : Own) (zb : Own) : ∀ a b q, Z3K zl z6 zd zh zn zb a q → Z3K zl z6 zd zh zn zb b q → a = b := by
 rintro a b q ⟨_, e1⟩ ⟨_, e2⟩
 have e := e1.symm.trans e2
 exact Prod.ext (congrArg (fun q : Res => pI (pA (cellAt q 0 1))) e) (Prod.ext (congrArg (fun q : Res => pI (pA (cellAt q 0 5))) e) (congrArg (fun q : Res => pI (pA (cellAt q 0 6))) e))
abbrev Z4u  : ((Own × (List Z7))) → Res → Prop := fun r q => ∃ (ex : List Row), q = ((.p (.lst r.1 (r.2.map Zs))), ex)
theorem Zbp  : ∀ a b q, Z4u  a q → Z4u  b q → a = b := by
 rintro a b q ⟨_, e1⟩ ⟨_, e2⟩
 have e := e1.symm.trans e2
 exact Prod.ext (congrArg (fun q : Res => pOwn (pA q.1)) e) (lmap_inj Z2i (congrArg (fun q : Res => pL (pA q.1)) e))
abbrev Z4N  : (Int) → Res → Prop := fun r q => ∃ (ex : List Row), q = ((iv r), ex)
theorem Zd3  : ∀ a b q, Z4N  a q → Z4N  b q → a = b := by
 rintro a b q ⟨_, e1⟩ ⟨_, e2⟩
 have e := e1.symm.trans e2
 exact congrArg (fun q : Res => pI (pA q.1)) e
abbrev Z5d (zY : Int) : (Bool) → Res → Prop := fun r q => ∃ (ex : List Row), q = ((bv r), [[(iv zY)]] ++ ex)
theorem Zbn (zY : Int) : ∀ a b q, Z5d zY a q → Z5d zY b q → a = b := by
 rintro a b q ⟨_, e1⟩ ⟨_, e2⟩
 have e := e1.symm.trans e2
 exact congrArg (fun q : Res => pB (pA q.1)) e
abbrev Z1m (zY : Int) : (Int) → Res → Prop := fun r q => ∃ (ex : List Row), q = ((iv r), [[(iv zY)]] ++ ex)
theorem Z5C (zY : Int) : ∀ a b q, Z1m zY a q → Z1m zY b q → a = b := by
 rintro a b q ⟨_, e1⟩ ⟨_, e2⟩
 have e := e1.symm.trans e2
 exact congrArg (fun q : Res => pI (pA q.1)) e
abbrev Z2A (zY : Int) : (Bool) → Res → Prop := fun r q => ∃ (ex : List Row), q = ((bv r), [[(iv zY)]] ++ ex)
theorem Z7p (zY : Int) : ∀ a b q, Z2A zY a q → Z2A zY b q → a = b := by
 rintro a b q ⟨_, e1⟩ ⟨_, e2⟩
 have e := e1.symm.trans e2
 exact congrArg (fun q : Res => pB (pA q.1)) e
abbrev Z5F  : (Bool) → Res → Prop := fun r q => ∃ (ex : List Row), q = ((bv r), ex)
theorem ZbW  : ∀ a b q, Z5F  a q → Z5F  b q → a = b := by
 rintro a b q ⟨_, e1⟩ ⟨_, e2⟩
 have e := e1.symm.trans e2
 exact congrArg (fun q : Res => pB (pA q.1)) e
abbrev Z2T (zl : List Int) (z6 : Int) (zd : Int) (zh : List Zr) (zn : Own) (zb : Own) : (Int × Int × Int × Int) → Res → Prop := fun r q => ∃ (ex : List Row), q = ((iv r.1), [(Zi (Zk.mk zl r.2.1 z6 zd zh (Zj.mk r.2.2.1 r.2.2.2)) zn zb)] ++ ex)
theorem Zal (zl : List Int) (z6 : Int) (zd : Int) (zh : List Zr) (zn : Own) (zb : Own) : ∀ a b q, Z2T zl z6 zd zh zn zb a q → Z2T zl z6 zd zh zn zb b q → a = b := by
 rintro a b q ⟨_, e1⟩ ⟨_, e2⟩
 have e := e1.symm.trans e2
 exact Prod.ext (congrArg (fun q : Res => pI (pA q.1)) e) (Prod.ext (congrArg (fun q : Res => pI (pA (cellAt q 0 1))) e) (Prod.ext (congrArg (fun q : Res => pI (pA (cellAt q 0 5))) e) (congrArg (fun q : Res => pI (pA (cellAt q 0 6))) e)))
abbrev Z2r (zl : List Int) (z6 : Int) (zd : Int) (zn : Own) : (Z8 × Int × (List Zr) × Int × Int) → Res → Prop := fun r q => ∃ (p0_4 : Own) (ex : List Row), okApp p0_4 = true ∧ q = ((.p (.agg (ZD r.1 .sh .sh))), [(Zi (Zk.mk zl r.2.1 z6 zd r.2.2.1 (Zj.mk r.2.2.2.1 r.2.2.2.2)) zn p0_4)] ++ ex)
theorem Za2 (zl : List Int) (z6 : Int) (zd : Int) (zn : Own) : ∀ a b q, Z2r zl z6 zd zn a q → Z2r zl z6 zd zn b q → a = b := by
 rintro a b q ⟨_, _, _, e1⟩ ⟨_, _, _, e2⟩
 have e := e1.symm.trans e2
 exact Prod.ext (Z2v (congrArg (fun q : Res => pC (pA q.1)) e)) (Prod.ext (congrArg (fun q : Res => pI (pA (cellAt q 0 1))) e) (Prod.ext (lmap_inj Z3v (congrArg (fun q : Res => pL (pA (cellAt q 0 4))) e)) (Prod.ext (congrArg (fun q : Res => pI (pA (cellAt q 0 5))) e) (congrArg (fun q : Res => pI (pA (cellAt q 0 6))) e))))
abbrev Z2q (zl : List Int) (z6 : Int) (zd : Int) (zh : List Zr) (zn : Own) (zb : Own) : (Int × (Own × (List Z7)) × Bool × Int × Int × Int) → Res → Prop := fun r q => ∃ (ex : List Row), q = ((.p (.tup [(.v (.int .i64 r.1)), (.lst r.2.1.1 (r.2.1.2.map Zs)), (.v (.bool r.2.2.1))])), [(Zi (Zk.mk zl r.2.2.2.1 z6 zd zh (Zj.mk r.2.2.2.2.1 r.2.2.2.2.2)) zn zb)] ++ ex)
theorem Z9Y (zl : List Int) (z6 : Int) (zd : Int) (zh : List Zr) (zn : Own) (zb : Own) : ∀ a b q, Z2q zl z6 zd zh zn zb a q → Z2q zl z6 zd zh zn zb b q → a = b := by
 rintro a b q ⟨_, e1⟩ ⟨_, e2⟩
 have e := e1.symm.trans e2
 exact Prod.ext (congrArg (fun q : Res => pI ((pT (pA q.1)).getD 0 .junk)) e) (Prod.ext (Prod.ext (congrArg (fun q : Res => pOwn ((pT (pA q.1)).getD 1 .junk)) e) (lmap_inj Z2i (congrArg (fun q : Res => pL ((pT (pA q.1)).getD 1 .junk)) e))) (Prod.ext (congrArg (fun q : Res => pB ((pT (pA q.1)).getD 2 .junk)) e) (Prod.ext (congrArg (fun q : Res => pI (pA (cellAt q 0 1))) e) (Prod.ext (congrArg (fun q : Res => pI (pA (cellAt q 0 5))) e) (congrArg (fun q : Res => pI (pA (cellAt q 0 6))) e)))))
abbrev Z53  : ((List Z7)) → Res → Prop := fun r q => ∃ (ex : List Row), q = ((.p (.lst .sh (r.map Zs))), ex)
theorem Za6  : ∀ a b q, Z53  a q → Z53  b q → a = b := by
 rintro a b q ⟨_, e1⟩ ⟨_, e2⟩
 have e := e1.symm.trans e2
 exact lmap_inj Z2i (congrArg (fun q : Res => pL (pA q.1)) e)
abbrev Z4H  : ((List Z7) × Int) → Res → Prop := fun r q => ∃ (ex : List Row), q = ((.p (.tup [(.lst .sh (r.1.map Zs)), (.v (.int .i64 r.2))])), ex)
theorem Zc1  : ∀ a b q, Z4H  a q → Z4H  b q → a = b := by
 rintro a b q ⟨_, e1⟩ ⟨_, e2⟩
 have e := e1.symm.trans e2
 exact Prod.ext (lmap_inj Z2i (congrArg (fun q : Res => pL ((pT (pA q.1)).getD 0 .junk)) e)) (congrArg (fun q : Res => pI ((pT (pA q.1)).getD 1 .junk)) e)
abbrev Z3O  : ((List Z7)) → Res → Prop := fun r q => ∃ (p0_0 : Own) (ex : List Row), q = ((.p (.tup [])), [[(.p (.lst p0_0 (r.map Zs)))]] ++ ex)
theorem Z9N  : ∀ a b q, Z3O  a q → Z3O  b q → a = b := by
 rintro a b q ⟨_, _, e1⟩ ⟨_, _, e2⟩
 have e := e1.symm.trans e2
 exact lmap_inj Z2i (congrArg (fun q : Res => pL (pA (cellAt q 0 0))) e)
abbrev Z16 (zl : List Int) (z6 : Int) (zd : Int) (zh : List Zr) (zn : Own) (zb : Own) : (Z8 × Int × Int × Int) → Res → Prop := fun r q => ∃ (ex : List Row), q = ((.p (.agg (ZD r.1 .sh .sh))), [(Zi (Zk.mk zl r.2.1 z6 zd zh (Zj.mk r.2.2.1 r.2.2.2)) zn zb)] ++ ex)
theorem Z7q (zl : List Int) (z6 : Int) (zd : Int) (zh : List Zr) (zn : Own) (zb : Own) : ∀ a b q, Z16 zl z6 zd zh zn zb a q → Z16 zl z6 zd zh zn zb b q → a = b := by
 rintro a b q ⟨_, e1⟩ ⟨_, e2⟩
 have e := e1.symm.trans e2
 exact Prod.ext (Z2v (congrArg (fun q : Res => pC (pA q.1)) e)) (Prod.ext (congrArg (fun q : Res => pI (pA (cellAt q 0 1))) e) (Prod.ext (congrArg (fun q : Res => pI (pA (cellAt q 0 5))) e) (congrArg (fun q : Res => pI (pA (cellAt q 0 6))) e)))
abbrev Z6g  : ((List ByteArray)) → Res → Prop := fun r q => ∃ (ex : List Row), q = ((.p (.lst .sh (r.map eS))), ex)
theorem Zci  : ∀ a b q, Z6g  a q → Z6g  b q → a = b := by
 rintro a b q ⟨_, e1⟩ ⟨_, e2⟩
 have e := e1.symm.trans e2
 exact lmap_inj eS_inj (congrArg (fun q : Res => pL (pA q.1)) e)
abbrev Z1f (zl : List Int) (z6 : Int) (zd : Int) (zh : List Zr) (z1 : Int) (z2 : Int) (zn : Own) (zb : Own) : (Int × Int) → Res → Prop := fun r q => ∃ (ex : List Row), q = ((iv r.1), [(Zi (Zk.mk zl r.2 z6 zd zh (Zj.mk z1 z2)) zn zb)] ++ ex)
theorem Z5y (zl : List Int) (z6 : Int) (zd : Int) (zh : List Zr) (z1 : Int) (z2 : Int) (zn : Own) (zb : Own) : ∀ a b q, Z1f zl z6 zd zh z1 z2 zn zb a q → Z1f zl z6 zd zh z1 z2 zn zb b q → a = b := by
 rintro a b q ⟨_, e1⟩ ⟨_, e2⟩
 have e := e1.symm.trans e2
 exact Prod.ext (congrArg (fun q : Res => pI (pA q.1)) e) (congrArg (fun q : Res => pI (pA (cellAt q 0 1))) e)
abbrev Z21 (zl : List Int) (zn : Own) : (Z8 × Bool × Int × Int × Int × (List Zr) × Int × Int) → Res → Prop := fun r q => ∃ (p0_4 : Own) (ex : List Row), okApp p0_4 = true ∧ q = ((.p (.tup [(.agg (ZD r.1 .sh .sh)), (.v (.bool r.2.1))])), [(Zi (Zk.mk zl r.2.2.1 r.2.2.2.1 r.2.2.2.2.1 r.2.2.2.2.2.1 (Zj.mk r.2.2.2.2.2.2.1 r.2.2.2.2.2.2.2)) zn p0_4)] ++ ex)
theorem Zam (zl : List Int) (zn : Own) : ∀ a b q, Z21 zl zn a q → Z21 zl zn b q → a = b := by
 rintro a b q ⟨_, _, _, e1⟩ ⟨_, _, _, e2⟩
 have e := e1.symm.trans e2
 exact Prod.ext (Z2v (congrArg (fun q : Res => pC ((pT (pA q.1)).getD 0 .junk)) e)) (Prod.ext (congrArg (fun q : Res => pB ((pT (pA q.1)).getD 1 .junk)) e) (Prod.ext (congrArg (fun q : Res => pI (pA (cellAt q 0 1))) e) (Prod.ext (congrArg (fun q : Res => pI (pA (cellAt q 0 2))) e) (Prod.ext (congrArg (fun q : Res => pI (pA (cellAt q 0 3))) e) (Prod.ext (lmap_inj Z3v (congrArg (fun q : Res => pL (pA (cellAt q 0 4))) e)) (Prod.ext (congrArg (fun q : Res => pI (pA (cellAt q 0 5))) e) (congrArg (fun q : Res => pI (pA (cellAt q 0 6))) e)))))))
abbrev Z3N (zl : List Int) (zn : Own) : (Z8 × Bool × Int × Int × Int × (List Zr) × Int × Int) → Res → Prop := fun r q => ∃ (p0_4 : Own) (ex : List Row), okApp p0_4 = true ∧ q = ((.p (.tup [(.agg (ZD r.1 .sh .sh)), (.v (.bool r.2.1))])), [(Zi (Zk.mk zl r.2.2.1 r.2.2.2.1 r.2.2.2.2.1 r.2.2.2.2.2.1 (Zj.mk r.2.2.2.2.2.2.1 r.2.2.2.2.2.2.2)) zn p0_4)] ++ ex)
theorem ZaZ (zl : List Int) (zn : Own) : ∀ a b q, Z3N zl zn a q → Z3N zl zn b q → a = b := by
 rintro a b q ⟨_, _, _, e1⟩ ⟨_, _, _, e2⟩
 have e := e1.symm.trans e2
 exact Prod.ext (Z2v (congrArg (fun q : Res => pC ((pT (pA q.1)).getD 0 .junk)) e)) (Prod.ext (congrArg (fun q : Res => pB ((pT (pA q.1)).getD 1 .junk)) e) (Prod.ext (congrArg (fun q : Res => pI (pA (cellAt q 0 1))) e) (Prod.ext (congrArg (fun q : Res => pI (pA (cellAt q 0 2))) e) (Prod.ext (congrArg (fun q : Res => pI (pA (cellAt q 0 3))) e) (Prod.ext (lmap_inj Z3v (congrArg (fun q : Res => pL (pA (cellAt q 0 4))) e)) (Prod.ext (congrArg (fun q : Res => pI (pA (cellAt q 0 5))) e) (congrArg (fun q : Res => pI (pA (cellAt q 0 6))) e)))))))
abbrev Z1V (zl : List Int) (z6 : Int) (zd : Int) (zh : List Zr) (z1 : Int) (z2 : Int) (zn : Own) (zb : Own) : (Int × Int) → Res → Prop := fun r q => ∃ (ex : List Row), q = ((iv r.1), [(Zi (Zk.mk zl r.2 z6 zd zh (Zj.mk z1 z2)) zn zb)] ++ ex)
theorem Z7d (zl : List Int) (z6 : Int) (zd : Int) (zh : List Zr) (z1 : Int) (z2 : Int) (zn : Own) (zb : Own) : ∀ a b q, Z1V zl z6 zd zh z1 z2 zn zb a q → Z1V zl z6 zd zh z1 z2 zn zb b q → a = b := by
 rintro a b q ⟨_, e1⟩ ⟨_, e2⟩
 have e := e1.symm.trans e2
 exact Prod.ext (congrArg (fun q : Res => pI (pA q.1)) e) (congrArg (fun q : Res => pI (pA (cellAt q 0 1))) e)
abbrev Z1J (zl : List Int) (z6 : Int) (zd : Int) (zh : List Zr) (zn : Own) (zb : Own) : (Int × Int × Int × Int × Int) → Res → Prop := fun r q => ∃ (ex : List Row), q = ((.p (.tup [(.v (.int .i64 r.1)), (.v (.int .i64 r.2.1))])), [(Zi (Zk.mk zl r.2.2.1 z6 zd zh (Zj.mk r.2.2.2.1 r.2.2.2.2)) zn zb)] ++ ex)
theorem Z9V (zl : List Int) (z6 : Int) (zd : Int) (zh : List Zr) (zn : Own) (zb : Own) : ∀ a b q, Z1J zl z6 zd zh zn zb a q → Z1J zl z6 zd zh zn zb b q → a = b := by
 rintro a b q ⟨_, e1⟩ ⟨_, e2⟩
 have e := e1.symm.trans e2
 exact Prod.ext (congrArg (fun q : Res => pI ((pT (pA q.1)).getD 0 .junk)) e) (Prod.ext (congrArg (fun q : Res => pI ((pT (pA q.1)).getD 1 .junk)) e) (Prod.ext (congrArg (fun q : Res => pI (pA (cellAt q 0 1))) e) (Prod.ext (congrArg (fun q : Res => pI (pA (cellAt q 0 5))) e) (congrArg (fun q : Res => pI (pA (cellAt q 0 6))) e))))
abbrev Z2s (zl : List Int) (z6 : Int) (zd : Int) (zh : List Zr) (zn : Own) (zb : Own) : (Z8 × Int × Int × Int) → Res → Prop := fun r q => ∃ (ex : List Row), q = ((.p (.agg (ZD r.1 .sh .sh))), [(Zi (Zk.mk zl r.2.1 z6 zd zh (Zj.mk r.2.2.1 r.2.2.2)) zn zb)] ++ ex)
theorem Zaa (zl : List Int) (z6 : Int) (zd : Int) (zh : List Zr) (zn : Own) (zb : Own) : ∀ a b q, Z2s zl z6 zd zh zn zb a q → Z2s zl z6 zd zh zn zb b q → a = b := by
 rintro a b q ⟨_, e1⟩ ⟨_, e2⟩
 have e := e1.symm.trans e2
 exact Prod.ext (Z2v (congrArg (fun q : Res => pC (pA q.1)) e)) (Prod.ext (congrArg (fun q : Res => pI (pA (cellAt q 0 1))) e) (Prod.ext (congrArg (fun q : Res => pI (pA (cellAt q 0 5))) e) (congrArg (fun q : Res => pI (pA (cellAt q 0 6))) e)))
abbrev Z24 (zl : List Int) (zn : Own) : (Z8 × Int × Int × Int × (List Zr) × Int × Int) → Res → Prop := fun r q => ∃ (p0_4 : Own) (ex : List Row), okApp p0_4 = true ∧ q = ((.p (.agg (ZD r.1 .sh .sh))), [(Zi (Zk.mk zl r.2.1 r.2.2.1 r.2.2.2.1 r.2.2.2.2.1 (Zj.mk r.2.2.2.2.2.1 r.2.2.2.2.2.2)) zn p0_4)] ++ ex)
theorem Z84 (zl : List Int) (zn : Own) : ∀ a b q, Z24 zl zn a q → Z24 zl zn b q → a = b := by
 rintro a b q ⟨_, _, _, e1⟩ ⟨_, _, _, e2⟩
 have e := e1.symm.trans e2
 exact Prod.ext (Z2v (congrArg (fun q : Res => pC (pA q.1)) e)) (Prod.ext (congrArg (fun q : Res => pI (pA (cellAt q 0 1))) e) (Prod.ext (congrArg (fun q : Res => pI (pA (cellAt q 0 2))) e) (Prod.ext (congrArg (fun q : Res => pI (pA (cellAt q 0 3))) e) (Prod.ext (lmap_inj Z3v (congrArg (fun q : Res => pL (pA (cellAt q 0 4))) e)) (Prod.ext (congrArg (fun q : Res => pI (pA (cellAt q 0 5))) e) (congrArg (fun q : Res => pI (pA (cellAt q 0 6))) e))))))
abbrev Z2h (zl : List Int) (zn : Own) : (Z8 × Int × Int × Int × (List Zr) × Int × Int) → Res → Prop := fun r q => ∃ (p0_4 : Own) (ex : List Row), okApp p0_4 = true ∧ q = ((.p (.agg (ZD r.1 .sh .sh))), [(Zi (Zk.mk zl r.2.1 r.2.2.1 r.2.2.2.1 r.2.2.2.2.1 (Zj.mk r.2.2.2.2.2.1 r.2.2.2.2.2.2)) zn p0_4)] ++ ex)
theorem Z88 (zl : List Int) (zn : Own) : ∀ a b q, Z2h zl zn a q → Z2h zl zn b q → a = b := by
 rintro a b q ⟨_, _, _, e1⟩ ⟨_, _, _, e2⟩
 have e := e1.symm.trans e2
 exact Prod.ext (Z2v (congrArg (fun q : Res => pC (pA q.1)) e)) (Prod.ext (congrArg (fun q : Res => pI (pA (cellAt q 0 1))) e) (Prod.ext (congrArg (fun q : Res => pI (pA (cellAt q 0 2))) e) (Prod.ext (congrArg (fun q : Res => pI (pA (cellAt q 0 3))) e) (Prod.ext (lmap_inj Z3v (congrArg (fun q : Res => pL (pA (cellAt q 0 4))) e)) (Prod.ext (congrArg (fun q : Res => pI (pA (cellAt q 0 5))) e) (congrArg (fun q : Res => pI (pA (cellAt q 0 6))) e))))))
abbrev Z29  : (ZE × Zj) → Res → Prop := fun r q => ∃ (ex : List Row), q = ((.p (.tup [(.agg (Z1j r.1 .sh .sh)), (.agg (Z11 r.2))])), ex)
theorem Zag  : ∀ a b q, Z29  a q → Z29  b q → a = b := by
 rintro a b q ⟨_, e1⟩ ⟨_, e2⟩
 have e := e1.symm.trans e2
 exact Prod.ext (Z8a (congrArg (fun q : Res => pC ((pT (pA q.1)).getD 0 .junk)) e)) (Z6v (congrArg (fun q : Res => pC ((pT (pA q.1)).getD 1 .junk)) e))
abbrev Z2G  : (Bool) → Res → Prop := fun r q => ∃ (ex : List Row), q = ((bv r), ex)
theorem Z9H  : ∀ a b q, Z2G  a q → Z2G  b q → a = b := by
 rintro a b q ⟨_, e1⟩ ⟨_, e2⟩
 have e := e1.symm.trans e2
 exact congrArg (fun q : Res => pB (pA q.1)) e
abbrev Z1z  : (Bool) → Res → Prop := fun r q => ∃ (ex : List Row), q = ((bv r), ex)
theorem Z6H  : ∀ a b q, Z1z  a q → Z1z  b q → a = b := by
 rintro a b q ⟨_, e1⟩ ⟨_, e2⟩
 have e := e1.symm.trans e2
 exact congrArg (fun q : Res => pB (pA q.1)) e
abbrev Z1o  : (Bool) → Res → Prop := fun r q => ∃ (ex : List Row), q = ((bv r), ex)
theorem Z6o  : ∀ a b q, Z1o  a q → Z1o  b q → a = b := by
 rintro a b q ⟨_, e1⟩ ⟨_, e2⟩
 have e := e1.symm.trans e2
 exact congrArg (fun q : Res => pB (pA q.1)) e
abbrev Z28  : (Bool) → Res → Prop := fun r q => ∃ (ex : List Row), q = ((bv r), ex)
theorem Z8B  : ∀ a b q, Z28  a q → Z28  b q → a = b := by
 rintro a b q ⟨_, e1⟩ ⟨_, e2⟩
 have e := e1.symm.trans e2
 exact congrArg (fun q : Res => pB (pA q.1)) e
noncomputable def Z57 (x0 : ByteArray) : Option (Bool) := pick fun r => RRun (Z28) (EE 8 [(.p (.v (.string x0)))] []) r
theorem Z8o (x0 : ByteArray) : Sim (Z28) (Z57 x0) (EE 8 [(.p (.v (.string x0)))] []) := fun _ h => pick_to h
noncomputable def Z4S  : Option (Bool) := pick fun r => RRun (Z2G) (EE 15 [] []) r
theorem Z9k  : Sim (Z2G) (Z4S) (EE 15 [] []) := fun _ h => pick_to h
noncomputable def Z3S (x0 : ByteArray) : Option (ZE × Zj) := pick fun r => RRun (Z29) (EE 16 [(.p (.v (.string x0)))] []) r
theorem Z4J (x0 : ByteArray) : Sim (Z29) (Z3S x0) (EE 16 [(.p (.v (.string x0)))] []) := fun _ h => pick_to h
noncomputable def Z13 (x1 : ByteArray) (zl : List Int) (zp : Int) : Option (Bool × Int) := pick fun r => ∀ (z6 : Int) (zd : Int) (zh : List Zr) (z1 : Int) (z2 : Int) (zn : Own) (zb : Own) (zu : okApp zb = true), RRun (Z39 zl z6 zd zh z1 z2 zn zb) (EE 27 [(.ptr 0 0), (.p (.v (.string x1)))] [(Zi (Zk.mk zl zp z6 zd zh (Zj.mk z1 z2)) zn zb)]) r
theorem Z18 (x1 : ByteArray) (zl : List Int) (zp : Int) (z6 : Int) (zd : Int) (zh : List Zr) (z1 : Int) (z2 : Int) (zn : Own) (zb : Own) (zu : okApp zb = true) : Sim (Z39 zl z6 zd zh z1 z2 zn zb) (Z13 x1 zl zp) (EE 27 [(.ptr 0 0), (.p (.v (.string x1)))] [(Zi (Zk.mk zl zp z6 zd zh (Zj.mk z1 z2)) zn zb)]) := fun _ h => pick_to h z6 zd zh z1 z2 zn zb zu
noncomputable def Z2F (zl : List Int) (zp : Int) (z6 : Int) (zd : Int) (zh : List Zr) (z1 : Int) (z2 : Int) : Option (Z8 × Int × Int × Int × (List Zr) × Int × Int) := pick fun r => ∀ (zn : Own) (zb : Own) (zu : okApp zb = true), RRun (Z2h zl zn) (EE 28 [(.ptr 0 0)] [(Zi (Zk.mk zl zp z6 zd zh (Zj.mk z1 z2)) zn zb)]) r
theorem Z7W (zl : List Int) (zp : Int) (z6 : Int) (zd : Int) (zh : List Zr) (z1 : Int) (z2 : Int) (zn : Own) (zb : Own) (zu : okApp zb = true) : Sim (Z2h zl zn) (Z2F zl zp z6 zd zh z1 z2) (EE 28 [(.ptr 0 0)] [(Zi (Zk.mk zl zp z6 zd zh (Zj.mk z1 z2)) zn zb)]) := fun _ h => pick_to h zn zb zu
noncomputable def Z40 (zl : List Int) (zp : Int) (z6 : Int) (zd : Int) (zh : List Zr) (z1 : Int) (z2 : Int) : Option (Z8 × Int × Int × Int × (List Zr) × Int × Int) := pick fun r => ∀ (zn : Own) (zb : Own) (zu : okApp zb = true), RRun (Z24 zl zn) (EE 35 [(.ptr 0 0)] [(Zi (Zk.mk zl zp z6 zd zh (Zj.mk z1 z2)) zn zb)]) r
theorem Z7U (zl : List Int) (zp : Int) (z6 : Int) (zd : Int) (zh : List Zr) (z1 : Int) (z2 : Int) (zn : Own) (zb : Own) (zu : okApp zb = true) : Sim (Z24 zl zn) (Z40 zl zp z6 zd zh z1 z2) (EE 35 [(.ptr 0 0)] [(Zi (Zk.mk zl zp z6 zd zh (Zj.mk z1 z2)) zn zb)]) := fun _ h => pick_to h zn zb zu
noncomputable def Z3j (x3 : List Z8) (zl : List Int) (zp : Int) (z6 : Int) (zd : Int) (zh : List Zr) (z1 : Int) (z2 : Int) : Option (Z8 × Int × Int × Int × (List Zr) × Int × Int) := pick fun r => ∀ (b1 : Z8) (ox3 : Own) (zn : Own) (zb : Own) (zB : Own) (zy : Own) (hox3 : okApp ox3 = true) (zu : okApp zb = true) (zP : okApp zB = true) (zH : okApp zy = true), RRun (Z24 zl zn) (ZaE 1 (.ptr 0 0) (.ptr 1 0) (.p (.lst ox3 (x3.map ZI))) [(Zi (Zk.mk zl zp z6 zd zh (Zj.mk z1 z2)) zn zb), (Zq b1 zB zy)]) r
theorem Z6z (x3 : List Z8) (zl : List Int) (zp : Int) (z6 : Int) (zd : Int) (zh : List Zr) (z1 : Int) (z2 : Int) (b1 : Z8) (ox3 : Own) (zn : Own) (zb : Own) (zB : Own) (zy : Own) (hox3 : okApp ox3 = true) (zu : okApp zb = true) (zP : okApp zB = true) (zH : okApp zy = true) : Sim (Z24 zl zn) (Z3j x3 zl zp z6 zd zh z1 z2) (ZaE 1 (.ptr 0 0) (.ptr 1 0) (.p (.lst ox3 (x3.map ZI))) [(Zi (Zk.mk zl zp z6 zd zh (Zj.mk z1 z2)) zn zb), (Zq b1 zB zy)]) := fun _ h => pick_to h b1 ox3 zn zb zB zy hox3 zu zP zH
noncomputable def Z1C (b0 : Zk) : Option (Int) := pick fun r => ∀ (zn : Own) (zb : Own) (zu : okApp zb = true), RRun (Z3M b0 zn zb) (EE 41 [(.ptr 0 0)] [(Zi b0 zn zb)]) r
theorem Z1F (b0 : Zk) (zn : Own) (zb : Own) (zu : okApp zb = true) : Sim (Z3M b0 zn zb) (Z1C b0) (EE 41 [(.ptr 0 0)] [(Zi b0 zn zb)]) := fun _ h => pick_to h zn zb zu
noncomputable def Z7t (x0 : List Int) (x1 : Int) : Option (Int × Int) := pick fun r => ∀ (ox0 : Own), RRun (Z4R) (EE 45 [(.p (.lst ox0 (x0.map (eI .u8)))), (iv x1)] []) r
theorem ZaT (x0 : List Int) (x1 : Int) (ox0 : Own) : Sim (Z4R) (Z7t x0 x1) (EE 45 [(.p (.lst ox0 (x0.map (eI .u8)))), (iv x1)] []) := fun _ h => pick_to h ox0
noncomputable def Z5g (x0 : List Int) : Option (Int × Int) := pick fun r => ∀ (ox0 : Own), RRun (Z4c) (EE 53 [(.p (.lst ox0 (x0.map (eI .u8))))] []) r
theorem Z8K (x0 : List Int) (ox0 : Own) : Sim (Z4c) (Z5g x0) (EE 53 [(.p (.lst ox0 (x0.map (eI .u8))))] []) := fun _ h => pick_to h ox0
noncomputable def Z5X (x0 : Int) (x1 : List Z8) : Option (Z8) := pick fun r => ∀ (ox1 : Own), RRun (Z5m) (EE 36 [(iv x0), (.p (.lst ox1 (x1.map ZI)))] []) r
theorem Z9f (x0 : Int) (x1 : List Z8) (ox1 : Own) : Sim (Z5m) (Z5X x0 x1) (EE 36 [(iv x0), (.p (.lst ox1 (x1.map ZI)))] []) := fun _ h => pick_to h ox1
noncomputable def Z5v (zl : List Int) (zp : Int) (z6 : Int) (zd : Int) (zh : List Zr) (z1 : Int) (z2 : Int) : Option (Z8 × Bool × Int × Int × Int × (List Zr) × Int × Int) := pick fun r => ∀ (zn : Own) (zb : Own) (zu : okApp zb = true), RRun (Z3N zl zn) (EE 42 [(.ptr 0 0)] [(Zi (Zk.mk zl zp z6 zd zh (Zj.mk z1 z2)) zn zb)]) r
theorem Zaq (zl : List Int) (zp : Int) (z6 : Int) (zd : Int) (zh : List Zr) (z1 : Int) (z2 : Int) (zn : Own) (zb : Own) (zu : okApp zb = true) : Sim (Z3N zl zn) (Z5v zl zp z6 zd zh z1 z2) (EE 42 [(.ptr 0 0)] [(Zi (Zk.mk zl zp z6 zd zh (Zj.mk z1 z2)) zn zb)]) := fun _ h => pick_to h zn zb zu
noncomputable def Z1W (zl : List Int) (zp : Int) : Option (Int × Int) := pick fun r => ∀ (z6 : Int) (zd : Int) (zh : List Zr) (z1 : Int) (z2 : Int) (zn : Own) (zb : Own) (zu : okApp zb = true), RRun (Z4C zl z6 zd zh z1 z2 zn zb) (EE 46 [(.ptr 0 0)] [(Zi (Zk.mk zl zp z6 zd zh (Zj.mk z1 z2)) zn zb)]) r
theorem Z2g (zl : List Int) (zp : Int) (z6 : Int) (zd : Int) (zh : List Zr) (z1 : Int) (z2 : Int) (zn : Own) (zb : Own) (zu : okApp zb = true) : Sim (Z4C zl z6 zd zh z1 z2 zn zb) (Z1W zl zp) (EE 46 [(.ptr 0 0)] [(Zi (Zk.mk zl zp z6 zd zh (Zj.mk z1 z2)) zn zb)]) := fun _ h => pick_to h z6 zd zh z1 z2 zn zb zu
noncomputable def Z1v (x0 : Int) : Option (Z7) := pick fun r => RRun (Z7n) (EE 48 [(iv x0)] []) r
theorem Z1p (x0 : Int) : Sim (Z7n) (Z1v x0) (EE 48 [(iv x0)] []) := fun _ h => pick_to h
noncomputable def Z2t (x0 : Bool) (x1 : List Z7) : Option (Z8) := pick fun r => ∀ (ox1 : Own), RRun (Z6j) (EE 47 [(bv x0), (.p (.lst ox1 (x1.map Zs)))] []) r
theorem Z2E (x0 : Bool) (x1 : List Z7) (ox1 : Own) : Sim (Z6j) (Z2t x0 x1) (EE 47 [(bv x0), (.p (.lst ox1 (x1.map Zs)))] []) := fun _ h => pick_to h ox1
noncomputable def Z82 (x0 : List Z7) : Option ((List Z7) × Int) := pick fun r => ∀ (ox0 : Own), RRun (Z65) (EE 54 [(.p (.lst ox0 (x0.map Zs)))] []) r
theorem Zcw (x0 : List Z7) (ox0 : Own) : Sim (Z65) (Z82 x0) (EE 54 [(.p (.lst ox0 (x0.map Zs)))] []) := fun _ h => pick_to h ox0
noncomputable def Z33 (x0 : List Z7) : Option (Bool) := pick fun r => ∀ (ox0 : Own), RRun (Z2x) (EE 65 [(.p (.lst ox0 (x0.map Zs))), (.clo 66 [] [])] []) r
theorem Z7j (x0 : List Z7) (ox0 : Own) : Sim (Z2x) (Z33 x0) (EE 65 [(.p (.lst ox0 (x0.map Zs))), (.clo 66 [] [])] []) := fun _ h => pick_to h ox0
noncomputable def Z3z (x0 : List Z7) : Option (Int) := pick fun r => ∀ (ox0 : Own), RRun (Z1l) (EE 73 [(.p (.lst ox0 (x0.map Zs))), (.clo 66 [] [])] []) r
theorem Z7Z (x0 : List Z7) (ox0 : Own) : Sim (Z1l) (Z3z x0) (EE 73 [(.p (.lst ox0 (x0.map Zs))), (.clo 66 [] [])] []) := fun _ h => pick_to h ox0
noncomputable def Z2B (x0 : List Z7) (x7 : Int) (x8 : Int) : Option (Int) := pick fun r => ∀ (ox0 : Own), RRun (Z1l) (ZaI 0 (.p (.lst ox0 (x0.map Zs))) (.clo 66 [] []) (iv x7) (iv x8) []) r
theorem Z59 (x0 : List Z7) (x7 : Int) (x8 : Int) (ox0 : Own) : Sim (Z1l) (Z2B x0 x7 x8) (ZaI 0 (.p (.lst ox0 (x0.map Zs))) (.clo 66 [] []) (iv x7) (iv x8) []) := fun _ h => pick_to h ox0
noncomputable def Z6X (x0 : Z7) : Option (Bool) := pick fun r => RRun (Z5Y) (EE 66 [(.p (.agg (ZF x0)))] []) r
theorem ZbY (x0 : Z7) : Sim (Z5Y) (Z6X x0) (EE 66 [(.p (.agg (ZF x0)))] []) := fun _ h => pick_to h
noncomputable def Z4A (x0 : Z7) : Option (Bool) := pick fun r => RRun (Z4y) (EE 67 [(.p (.agg (ZF x0)))] []) r
theorem Z7o (x0 : Z7) : Sim (Z4y) (Z4A x0) (EE 67 [(.p (.agg (ZF x0)))] []) := fun _ h => pick_to h
noncomputable def Z6T (x0 : List Z7) : Option ((List Z7)) := pick fun r => ∀ (ox0 : Own), RRun (Z78) (EE 68 [(.p (.lst ox0 (x0.map Zs)))] []) r
theorem Z9e (x0 : List Z7) (ox0 : Own) : Sim (Z78) (Z6T x0) (EE 68 [(.p (.lst ox0 (x0.map Zs)))] []) := fun _ h => pick_to h ox0
noncomputable def Z5B (x0 : List Z7) : Option ((List Z7) × Int) := pick fun r => ∀ (ox0 : Own), RRun (Z50) (EE 55 [(.p (.lst ox0 (x0.map Zs)))] []) r
theorem Z8U (x0 : List Z7) (ox0 : Own) : Sim (Z50) (Z5B x0) (EE 55 [(.p (.lst ox0 (x0.map Zs)))] []) := fun _ h => pick_to h ox0
noncomputable def Z47 (x0 : List Z7) : Option (Bool) := pick fun r => ∀ (ox0 : Own), RRun (Z1L) (EE 69 [(.p (.lst ox0 (x0.map Zs)))] []) r
theorem Z5Z (x0 : List Z7) (ox0 : Own) : Sim (Z1L) (Z47 x0) (EE 69 [(.p (.lst ox0 (x0.map Zs)))] []) := fun _ h => pick_to h ox0
noncomputable def Z42 (x3 : Int) (x6 : List Z7) (x7 : Int) (x8 : Int) : Option (Bool) := pick fun r => ∀ (ox6 : Own), RRun (Z1L) (ZaM 0 (iv x3) (.p (.lst ox6 (x6.map Zs))) (iv x7) (iv x8) []) r
theorem Z6O (x3 : Int) (x6 : List Z7) (x7 : Int) (x8 : Int) (ox6 : Own) : Sim (Z1L) (Z42 x3 x6 x7 x8) (ZaM 0 (iv x3) (.p (.lst ox6 (x6.map Zs))) (iv x7) (iv x8) []) := fun _ h => pick_to h ox6
noncomputable def Z6u (x0 : List Z7) : Option ((List Z7)) := pick fun r => ∀ (ox0 : Own), RRun (Z27) (EE 70 [(.p (.lst ox0 (x0.map Zs)))] []) r
theorem Zbx (x0 : List Z7) (ox0 : Own) : Sim (Z27) (Z6u x0) (EE 70 [(.p (.lst ox0 (x0.map Zs)))] []) := fun _ h => pick_to h ox0
noncomputable def Z4V (x3 : List Z7) (x4 : Int) (x7 : List Z7) (x8 : Int) (x9 : Int) : Option ((List Z7)) := pick fun r => ∀ (ox3 : Own) (ox7 : Own) (hox3 : okApp ox3 = true), RRun (Z27) (ZaL 0 (.p (.lst ox3 (x3.map Zs))) (iv x4) (.p (.lst ox7 (x7.map Zs))) (iv x8) (iv x9) []) r
theorem Z7V (x3 : List Z7) (x4 : Int) (x7 : List Z7) (x8 : Int) (x9 : Int) (ox3 : Own) (ox7 : Own) (hox3 : okApp ox3 = true) : Sim (Z27) (Z4V x3 x4 x7 x8 x9) (ZaL 0 (.p (.lst ox3 (x3.map Zs))) (iv x4) (.p (.lst ox7 (x7.map Zs))) (iv x8) (iv x9) []) := fun _ h => pick_to h ox3 ox7 hox3
noncomputable def Z2O (x1 : Int) (zl : List Int) (zp : Int) (z6 : Int) (zd : Int) (zh : List Zr) (z1 : Int) (z2 : Int) : Option (Z8 × Int × (List Zr) × Int × Int) := pick fun r => ∀ (zn : Own) (zb : Own) (zu : okApp zb = true), RRun (Z2r zl z6 zd zn) (EE 49 [(.ptr 0 0), (iv x1)] [(Zi (Zk.mk zl zp z6 zd zh (Zj.mk z1 z2)) zn zb)]) r
theorem Z9S (x1 : Int) (zl : List Int) (zp : Int) (z6 : Int) (zd : Int) (zh : List Zr) (z1 : Int) (z2 : Int) (zn : Own) (zb : Own) (zu : okApp zb = true) : Sim (Z2r zl z6 zd zn) (Z2O x1 zl zp z6 zd zh z1 z2) (EE 49 [(.ptr 0 0), (iv x1)] [(Zi (Zk.mk zl zp z6 zd zh (Zj.mk z1 z2)) zn zb)]) := fun _ h => pick_to h zn zb zu
noncomputable def ZT (x1 : Int) (x2 : Int) (zl : List Int) (z1 : Int) (z2 : Int) : Option (Int × Int × Int) := pick fun r => ∀ (zp : Int) (z6 : Int) (zd : Int) (zh : List Zr) (zn : Own) (zb : Own) (zu : okApp zb = true), RRun (Z3K zl z6 zd zh zn zb) (EE 29 [(.ptr 0 0), (iv x1), (iv x2)] [(Zi (Zk.mk zl zp z6 zd zh (Zj.mk z1 z2)) zn zb)]) r
theorem ZW (x1 : Int) (x2 : Int) (zl : List Int) (zp : Int) (z6 : Int) (zd : Int) (zh : List Zr) (z1 : Int) (z2 : Int) (zn : Own) (zb : Own) (zu : okApp zb = true) : Sim (Z3K zl z6 zd zh zn zb) (ZT x1 x2 zl z1 z2) (EE 29 [(.ptr 0 0), (iv x1), (iv x2)] [(Zi (Zk.mk zl zp z6 zd zh (Zj.mk z1 z2)) zn zb)]) := fun _ h => pick_to h zp z6 zd zh zn zb zu
noncomputable def Z4v (x0 : Int) : Option ((Own × (List Z7))) := pick fun r => RRun (Z4u) (EE 56 [(iv x0)] []) r
theorem Z6c (x0 : Int) : Sim (Z4u) (Z4v x0) (EE 56 [(iv x0)] []) := fun _ h => pick_to h
noncomputable def Z4l (x1 : Int) (x2 : Int) (zl : List Int) (zp : Int) (z6 : Int) (zd : Int) (zh : List Zr) (z1 : Int) (z2 : Int) : Option (Int × Int × Int × Int) := pick fun r => ∀ (zn : Own) (zb : Own) (zu : okApp zb = true), RRun (Z2T zl z6 zd zh zn zb) (EE 57 [(.ptr 0 0), (iv x1), (iv x2)] [(Zi (Zk.mk zl zp z6 zd zh (Zj.mk z1 z2)) zn zb)]) r
theorem Z7e (x1 : Int) (x2 : Int) (zl : List Int) (zp : Int) (z6 : Int) (zd : Int) (zh : List Zr) (z1 : Int) (z2 : Int) (zn : Own) (zb : Own) (zu : okApp zb = true) : Sim (Z2T zl z6 zd zh zn zb) (Z4l x1 x2 zl zp z6 zd zh z1 z2) (EE 57 [(.ptr 0 0), (iv x1), (iv x2)] [(Zi (Zk.mk zl zp z6 zd zh (Zj.mk z1 z2)) zn zb)]) := fun _ h => pick_to h zn zb zu
noncomputable def Z7l (x0 : Int) : Option (Int) := pick fun r => RRun (Z4N) (EE 71 [(iv x0)] []) r
theorem ZaU (x0 : Int) : Sim (Z4N) (Z7l x0) (EE 71 [(iv x0)] []) := fun _ h => pick_to h
noncomputable def Z5G (x0 : List Z7) (x1 : Int) : Option (Bool) := pick fun r => ∀ (ox0 : Own), RRun (Z5F) (EE 19 [(.p (.lst ox0 (x0.map Zs))), (iv x1)] []) r
theorem Zby (x0 : List Z7) (x1 : Int) (ox0 : Own) : Sim (Z5F) (Z5G x0 x1) (EE 19 [(.p (.lst ox0 (x0.map Zs))), (iv x1)] []) := fun _ h => pick_to h ox0
noncomputable def Z35 (x0 : List Z7) (zY : Int) : Option (Bool) := pick fun r => ∀ (ox0 : Own), RRun (Z2A zY) (EE 30 [(.p (.lst ox0 (x0.map Zs))), (.clo 31 [] [(.ptr 0 0)])] [[(iv zY)]]) r
theorem Z7f (x0 : List Z7) (zY : Int) (ox0 : Own) : Sim (Z2A zY) (Z35 x0 zY) (EE 30 [(.p (.lst ox0 (x0.map Zs))), (.clo 31 [] [(.ptr 0 0)])] [[(iv zY)]]) := fun _ h => pick_to h ox0
noncomputable def Z3D (x0 : List Z7) (zY : Int) : Option (Int) := pick fun r => ∀ (ox0 : Own), RRun (Z1m zY) (EE 37 [(.p (.lst ox0 (x0.map Zs))), (.clo 31 [] [(.ptr 0 0)])] [[(iv zY)]]) r
theorem Z7Y (x0 : List Z7) (zY : Int) (ox0 : Own) : Sim (Z1m zY) (Z3D x0 zY) (EE 37 [(.p (.lst ox0 (x0.map Zs))), (.clo 31 [] [(.ptr 0 0)])] [[(iv zY)]]) := fun _ h => pick_to h ox0
noncomputable def Z2w (x0 : List Z7) (x7 : Int) (x8 : Int) (zY : Int) : Option (Int) := pick fun r => ∀ (ox0 : Own), RRun (Z1m zY) (ZaN 1 (.p (.lst ox0 (x0.map Zs))) (.clo 31 [] [(.ptr 0 0)]) (iv x7) (iv x8) [[(iv zY)]]) r
theorem Z5c (x0 : List Z7) (x7 : Int) (x8 : Int) (zY : Int) (ox0 : Own) : Sim (Z1m zY) (Z2w x0 x7 x8 zY) (ZaN 1 (.p (.lst ox0 (x0.map Zs))) (.clo 31 [] [(.ptr 0 0)]) (iv x7) (iv x8) [[(iv zY)]]) := fun _ h => pick_to h ox0
noncomputable def Z5Q (x0 : Z7) (zY : Int) : Option (Bool) := pick fun r => RRun (Z5d zY) (EE 31 [(.p (.agg (ZF x0))), (.ptr 0 0)] [[(iv zY)]]) r
theorem Zbh (x0 : Z7) (zY : Int) : Sim (Z5d zY) (Z5Q x0 zY) (EE 31 [(.p (.agg (ZF x0))), (.ptr 0 0)] [[(iv zY)]]) := fun _ h => pick_to h
noncomputable def Z5j (x1 : Int) (zl : List Int) (zp : Int) (z6 : Int) (zd : Int) (zh : List Zr) (z1 : Int) (z2 : Int) : Option (Z8 × Int × Int × Int) := pick fun r => ∀ (zn : Own) (zb : Own) (zu : okApp zb = true), RRun (Z16 zl z6 zd zh zn zb) (EE 50 [(.ptr 0 0), (iv x1)] [(Zi (Zk.mk zl zp z6 zd zh (Zj.mk z1 z2)) zn zb)]) r
theorem Za3 (x1 : Int) (zl : List Int) (zp : Int) (z6 : Int) (zd : Int) (zh : List Zr) (z1 : Int) (z2 : Int) (zn : Own) (zb : Own) (zu : okApp zb = true) : Sim (Z16 zl z6 zd zh zn zb) (Z5j x1 zl zp z6 zd zh z1 z2) (EE 50 [(.ptr 0 0), (iv x1)] [(Zi (Zk.mk zl zp z6 zd zh (Zj.mk z1 z2)) zn zb)]) := fun _ h => pick_to h zn zb zu
noncomputable def Z2C (x1 : Int) (x5 : Bool) (x8 : Int) (zl : List Int) (zp : Int) (z6 : Int) (zd : Int) (zh : List Zr) (z1 : Int) (z2 : Int) (zZ : List Z7) : Option (Z8 × Int × Int × Int) := pick fun r => ∀ (b1 : Z8) (zn : Own) (zb : Own) (zB : Own) (zy : Own) (z1a : Own) (zu : okApp zb = true) (zP : okApp zB = true) (zH : okApp zy = true), RRun (Z16 zl z6 zd zh zn zb) (ZaY 1 (.ptr 0 0) (iv x1) (.ptr 1 0) (bv x5) (.ptr 2 0) (.clo 58 [] [(.ptr 2 0)]) (iv x8) [(Zi (Zk.mk zl zp z6 zd zh (Zj.mk z1 z2)) zn zb), (Zq b1 zB zy), [(.p (.lst z1a (zZ.map Zs)))]]) r
theorem Z6e (x1 : Int) (x5 : Bool) (x8 : Int) (zl : List Int) (zp : Int) (z6 : Int) (zd : Int) (zh : List Zr) (z1 : Int) (z2 : Int) (b1 : Z8) (zZ : List Z7) (zn : Own) (zb : Own) (zB : Own) (zy : Own) (z1a : Own) (zu : okApp zb = true) (zP : okApp zB = true) (zH : okApp zy = true) : Sim (Z16 zl z6 zd zh zn zb) (Z2C x1 x5 x8 zl zp z6 zd zh z1 z2 zZ) (ZaY 1 (.ptr 0 0) (iv x1) (.ptr 1 0) (bv x5) (.ptr 2 0) (.clo 58 [] [(.ptr 2 0)]) (iv x8) [(Zi (Zk.mk zl zp z6 zd zh (Zj.mk z1 z2)) zn zb), (Zq b1 zB zy), [(.p (.lst z1a (zZ.map Zs)))]]) := fun _ h => pick_to h b1 zn zb zB zy z1a zu zP zH
noncomputable def Z3g (zl : List Int) (zp : Int) (z6 : Int) (zd : Int) (zh : List Zr) (z1 : Int) (z2 : Int) : Option (Int × (Own × (List Z7)) × Bool × Int × Int × Int) := pick fun r => ∀ (zn : Own) (zb : Own) (zu : okApp zb = true), RRun (Z2q zl z6 zd zh zn zb) (EE 60 [(.ptr 0 0)] [(Zi (Zk.mk zl zp z6 zd zh (Zj.mk z1 z2)) zn zb)]) r
theorem Z6D (zl : List Int) (zp : Int) (z6 : Int) (zd : Int) (zh : List Zr) (z1 : Int) (z2 : Int) (zn : Own) (zb : Own) (zu : okApp zb = true) : Sim (Z2q zl z6 zd zh zn zb) (Z3g zl zp z6 zd zh z1 z2) (EE 60 [(.ptr 0 0)] [(Zi (Zk.mk zl zp z6 zd zh (Zj.mk z1 z2)) zn zb)]) := fun _ h => pick_to h zn zb zu
noncomputable def Z3P (x0 : List Z7) (zY : List Z7) : Option ((List Z7)) := pick fun r => ∀ (ox0 : Own) (z8N : Own), RRun (Z3O) (EE 58 [(.p (.lst ox0 (x0.map Zs))), (.ptr 0 0)] [[(.p (.lst z8N (zY.map Zs)))]]) r
theorem Z6n (x0 : List Z7) (zY : List Z7) (ox0 : Own) (z8N : Own) : Sim (Z3O) (Z3P x0 zY) (EE 58 [(.p (.lst ox0 (x0.map Zs))), (.ptr 0 0)] [[(.p (.lst z8N (zY.map Zs)))]]) := fun _ h => pick_to h ox0 z8N
noncomputable def Z75 (x0 : List Z7) (x1 : List Z7) : Option ((List Z7) × Int) := pick fun r => ∀ (ox0 : Own) (ox1 : Own), RRun (Z4H) (EE 59 [(.p (.lst ox0 (x0.map Zs))), (.p (.lst ox1 (x1.map Zs)))] []) r
theorem ZbT (x0 : List Z7) (x1 : List Z7) (ox0 : Own) (ox1 : Own) : Sim (Z4H) (Z75 x0 x1) (EE 59 [(.p (.lst ox0 (x0.map Zs))), (.p (.lst ox1 (x1.map Zs)))] []) := fun _ h => pick_to h ox0 ox1
noncomputable def Z5W (x0 : List (List Z7)) : Option ((List Z7)) := pick fun r => ∀ (ox0 : Own), RRun (Z53) (EE 72 [(.p (.lst ox0 (x0.map (eL Zs))))] []) r
theorem Z9K (x0 : List (List Z7)) (ox0 : Own) : Sim (Z53) (Z5W x0) (EE 72 [(.p (.lst ox0 (x0.map (eL Zs))))] []) := fun _ h => pick_to h ox0
noncomputable def Z2U (x1 : Int) (zl : List Int) (zp : Int) (z6 : Int) (zd : Int) (zh : List Zr) (z1 : Int) (z2 : Int) : Option (Z8 × Bool × Int × Int × Int × (List Zr) × Int × Int) := pick fun r => ∀ (zn : Own) (zb : Own) (zu : okApp zb = true), RRun (Z21 zl zn) (EE 51 [(.ptr 0 0), (iv x1)] [(Zi (Zk.mk zl zp z6 zd zh (Zj.mk z1 z2)) zn zb)]) r
theorem Z9W (x1 : Int) (zl : List Int) (zp : Int) (z6 : Int) (zd : Int) (zh : List Zr) (z1 : Int) (z2 : Int) (zn : Own) (zb : Own) (zu : okApp zb = true) : Sim (Z21 zl zn) (Z2U x1 zl zp z6 zd zh z1 z2) (EE 51 [(.ptr 0 0), (iv x1)] [(Zi (Zk.mk zl zp z6 zd zh (Zj.mk z1 z2)) zn zb)]) := fun _ h => pick_to h zn zb zu
noncomputable def Z7E  : Option ((List ByteArray)) := pick fun r => RRun (Z6g) (EE 62 [] []) r
theorem Zc5  : Sim (Z6g) (Z7E) (EE 62 [] []) := fun _ h => pick_to h
noncomputable def Z3q (x0 : List ByteArray) (zl : List Int) (zp : Int) : Option (Int × Int) := pick fun r => ∀ (z6 : Int) (zd : Int) (zh : List Zr) (z1 : Int) (z2 : Int) (ox0 : Own) (zn : Own) (zb : Own) (zu : okApp zb = true), RRun (Z1f zl z6 zd zh z1 z2 zn zb) (EE 61 [(.p (.lst ox0 (x0.map eS))), (.clo 27 [(.ptr 0 0)] [])] [(Zi (Zk.mk zl zp z6 zd zh (Zj.mk z1 z2)) zn zb)]) r
theorem Z7L (x0 : List ByteArray) (zl : List Int) (zp : Int) (z6 : Int) (zd : Int) (zh : List Zr) (z1 : Int) (z2 : Int) (ox0 : Own) (zn : Own) (zb : Own) (zu : okApp zb = true) : Sim (Z1f zl z6 zd zh z1 z2 zn zb) (Z3q x0 zl zp) (EE 61 [(.p (.lst ox0 (x0.map eS))), (.clo 27 [(.ptr 0 0)] [])] [(Zi (Zk.mk zl zp z6 zd zh (Zj.mk z1 z2)) zn zb)]) := fun _ h => pick_to h z6 zd zh z1 z2 ox0 zn zb zu
noncomputable def Z1q (x0 : List ByteArray) (x7 : Int) (x8 : Int) (zl : List Int) (zp : Int) : Option (Int × Int) := pick fun r => ∀ (z6 : Int) (zd : Int) (zh : List Zr) (z1 : Int) (z2 : Int) (ox0 : Own) (zn : Own) (zb : Own) (zu : okApp zb = true), RRun (Z1f zl z6 zd zh z1 z2 zn zb) (ZaH 1 (.p (.lst ox0 (x0.map eS))) (.clo 27 [(.ptr 0 0)] []) (iv x7) (iv x8) [(Zi (Zk.mk zl zp z6 zd zh (Zj.mk z1 z2)) zn zb)]) r
theorem Z55 (x0 : List ByteArray) (x7 : Int) (x8 : Int) (zl : List Int) (zp : Int) (z6 : Int) (zd : Int) (zh : List Zr) (z1 : Int) (z2 : Int) (ox0 : Own) (zn : Own) (zb : Own) (zu : okApp zb = true) : Sim (Z1f zl z6 zd zh z1 z2 zn zb) (Z1q x0 x7 x8 zl zp) (ZaH 1 (.p (.lst ox0 (x0.map eS))) (.clo 27 [(.ptr 0 0)] []) (iv x7) (iv x8) [(Zi (Zk.mk zl zp z6 zd zh (Zj.mk z1 z2)) zn zb)]) := fun _ h => pick_to h z6 zd zh z1 z2 ox0 zn zb zu
noncomputable def Z43 (x1 : Z8) (x2 : Bool) (zl : List Int) (zp : Int) (z6 : Int) (zd : Int) (zh : List Zr) (z1 : Int) (z2 : Int) : Option (Z8 × Int × Int × Int) := pick fun r => ∀ (z1r : Own) (z1c : Own) (zn : Own) (zb : Own) (zu : okApp zb = true), RRun (Z2s zl z6 zd zh zn zb) (EE 43 [(.ptr 0 0), (.p (.agg (ZD x1 z1r z1c))), (bv x2)] [(Zi (Zk.mk zl zp z6 zd zh (Zj.mk z1 z2)) zn zb)]) r
theorem Z9U (x1 : Z8) (x2 : Bool) (zl : List Int) (zp : Int) (z6 : Int) (zd : Int) (zh : List Zr) (z1 : Int) (z2 : Int) (z1r : Own) (z1c : Own) (zn : Own) (zb : Own) (zu : okApp zb = true) : Sim (Z2s zl z6 zd zh zn zb) (Z43 x1 x2 zl zp z6 zd zh z1 z2) (EE 43 [(.ptr 0 0), (.p (.agg (ZD x1 z1r z1c))), (bv x2)] [(Zi (Zk.mk zl zp z6 zd zh (Zj.mk z1 z2)) zn zb)]) := fun _ h => pick_to h z1r z1c zn zb zu
noncomputable def Z3Z (x1 : Int) (zl : List Int) (zp : Int) (z6 : Int) (zd : Int) (zh : List Zr) (z1 : Int) (z2 : Int) : Option (Int × Int × Int × Int × Int) := pick fun r => ∀ (zn : Own) (zb : Own) (zu : okApp zb = true), RRun (Z1J zl z6 zd zh zn zb) (EE 52 [(.ptr 0 0), (iv x1)] [(Zi (Zk.mk zl zp z6 zd zh (Zj.mk z1 z2)) zn zb)]) r
theorem Z9I (x1 : Int) (zl : List Int) (zp : Int) (z6 : Int) (zd : Int) (zh : List Zr) (z1 : Int) (z2 : Int) (zn : Own) (zb : Own) (zu : okApp zb = true) : Sim (Z1J zl z6 zd zh zn zb) (Z3Z x1 zl zp z6 zd zh z1 z2) (EE 52 [(.ptr 0 0), (iv x1)] [(Zi (Zk.mk zl zp z6 zd zh (Zj.mk z1 z2)) zn zb)]) := fun _ h => pick_to h zn zb zu
noncomputable def Z3f (zl : List Int) (zp : Int) (z6 : Int) (zd : Int) (zh : List Zr) (z1 : Int) (z2 : Int) : Option (Int × Int) := pick fun r => ∀ (zn : Own) (zb : Own) (zu : okApp zb = true), RRun (Z1V zl z6 zd zh z1 z2 zn zb) (EE 63 [(.ptr 0 0)] [(Zi (Zk.mk zl zp z6 zd zh (Zj.mk z1 z2)) zn zb)]) r
theorem Z6x (zl : List Int) (zp : Int) (z6 : Int) (zd : Int) (zh : List Zr) (z1 : Int) (z2 : Int) (zn : Own) (zb : Own) (zu : okApp zb = true) : Sim (Z1V zl z6 zd zh z1 z2 zn zb) (Z3f zl zp z6 zd zh z1 z2) (EE 63 [(.ptr 0 0)] [(Zi (Zk.mk zl zp z6 zd zh (Zj.mk z1 z2)) zn zb)]) := fun _ h => pick_to h zn zb zu
noncomputable def Z2p (x3 : Int) (x4 : Int) (zl : List Int) (zp : Int) (z6 : Int) (zd : Int) (zh : List Zr) (z1 : Int) (z2 : Int) : Option (Int × Int) := pick fun r => ∀ (zn : Own) (zb : Own) (zu : okApp zb = true), RRun (Z1V zl z6 zd zh z1 z2 zn zb) (Zb7 1 (.ptr 0 0) (iv x3) (iv x4) [(Zi (Zk.mk zl zp z6 zd zh (Zj.mk z1 z2)) zn zb)]) r
theorem Z68 (x3 : Int) (x4 : Int) (zl : List Int) (zp : Int) (z6 : Int) (zd : Int) (zh : List Zr) (z1 : Int) (z2 : Int) (zn : Own) (zb : Own) (zu : okApp zb = true) : Sim (Z1V zl z6 zd zh z1 z2 zn zb) (Z2p x3 x4 zl zp z6 zd zh z1 z2) (Zb7 1 (.ptr 0 0) (iv x3) (iv x4) [(Zi (Zk.mk zl zp z6 zd zh (Zj.mk z1 z2)) zn zb)]) := fun _ h => pick_to h zn zb zu
noncomputable def Z3k (x3 : List Z8) (zl : List Int) (zp : Int) (z6 : Int) (zd : Int) (zh : List Zr) (z1 : Int) (z2 : Int) : Option (Z8 × Int × Int × Int × (List Zr) × Int × Int) := pick fun r => ∀ (b1 : Z8) (ox3 : Own) (zn : Own) (zb : Own) (zB : Own) (zy : Own) (hox3 : okApp ox3 = true) (zu : okApp zb = true) (zP : okApp zB = true) (zH : okApp zy = true), RRun (Z2h zl zn) (Zaz 1 (.ptr 0 0) (.ptr 1 0) (.p (.lst ox3 (x3.map ZI))) [(Zi (Zk.mk zl zp z6 zd zh (Zj.mk z1 z2)) zn zb), (Zq b1 zB zy)]) r
theorem Z6K (x3 : List Z8) (zl : List Int) (zp : Int) (z6 : Int) (zd : Int) (zh : List Zr) (z1 : Int) (z2 : Int) (b1 : Z8) (ox3 : Own) (zn : Own) (zb : Own) (zB : Own) (zy : Own) (hox3 : okApp ox3 = true) (zu : okApp zb = true) (zP : okApp zB = true) (zH : okApp zy = true) : Sim (Z2h zl zn) (Z3k x3 zl zp z6 zd zh z1 z2) (Zaz 1 (.ptr 0 0) (.ptr 1 0) (.p (.lst ox3 (x3.map ZI))) [(Zi (Zk.mk zl zp z6 zd zh (Zj.mk z1 z2)) zn zb), (Zq b1 zB zy)]) := fun _ h => pick_to h b1 ox3 zn zb zB zy hox3 zu zP zH
noncomputable def Z4E (x50 : List Zr) (x51 : Int) (x52 : Int) (z1N : List Int) (zQ : Int) (zG : Int) (zS : Int) (zK : Int) (zV : Int) (zU : Int) (zJ : Int) (zO : Int) (zN : List Z7) (zL : List Z8) (z12 : Bool) : Option (ZE × Zj) := pick fun r => ∀ (b0 : ZE) (b1 : Zj) (z1H : Int) (z1w : Int) (z1b : List Zr) (z1n : Int) (ox50 : Own) (zR : Own) (zM : Own) (z26 : Own) (z15 : Own) (z10 : Own) (zX : Own) (z1t : okApp zR = true) (z1k : okApp zM = true) (z2f : okApp z15 = true), RRun (Z29) (Zay 0 (.ptr 0 0) (.ptr 1 0) (.ptr 2 0) (.ptr 3 0) (.p (.lst ox50 (x50.map Z1x))) (iv x51) (iv x52) [(Zv b0 zR zM), (ZC b1), (Zi (Zk.mk z1N z1H zQ z1w z1b (Zj.mk zG zS)) z26 z15), (Zv (ZE.mk (Z8.mk zK zV zU zJ zO zN zL) z1n z12) z10 zX)]) r
theorem Z8s (x50 : List Zr) (x51 : Int) (x52 : Int) (b0 : ZE) (b1 : Zj) (z1N : List Int) (z1H : Int) (zQ : Int) (z1w : Int) (z1b : List Zr) (zG : Int) (zS : Int) (zK : Int) (zV : Int) (zU : Int) (zJ : Int) (zO : Int) (zN : List Z7) (zL : List Z8) (z1n : Int) (z12 : Bool) (ox50 : Own) (zR : Own) (zM : Own) (z26 : Own) (z15 : Own) (z10 : Own) (zX : Own) (z1t : okApp zR = true) (z1k : okApp zM = true) (z2f : okApp z15 = true) : Sim (Z29) (Z4E x50 x51 x52 z1N zQ zG zS zK zV zU zJ zO zN zL z12) (Zay 0 (.ptr 0 0) (.ptr 1 0) (.ptr 2 0) (.ptr 3 0) (.p (.lst ox50 (x50.map Z1x))) (iv x51) (iv x52) [(Zv b0 zR zM), (ZC b1), (Zi (Zk.mk z1N z1H zQ z1w z1b (Zj.mk zG zS)) z26 z15), (Zv (ZE.mk (Z8.mk zK zV zU zJ zO zN zL) z1n z12) z10 zX)]) := fun _ h => pick_to h b0 b1 z1H z1w z1b z1n ox50 zR zM z26 z15 z10 zX z1t z1k z2f
noncomputable def Z2D (x0 : Z8) (x1 : Z8) : Option (Bool) := pick fun r => ∀ (z5l : Own) (z4o : Own) (z1r : Own) (z1c : Own), RRun (Z1o) (EE 17 [(.p (.agg (ZD x0 z5l z4o))), (.p (.agg (ZD x1 z1r z1c)))] []) r
theorem Z6f (x0 : Z8) (x1 : Z8) (z5l : Own) (z4o : Own) (z1r : Own) (z1c : Own) : Sim (Z1o) (Z2D x0 x1) (EE 17 [(.p (.agg (ZD x0 z5l z4o))), (.p (.agg (ZD x1 z1r z1c)))] []) := fun _ h => pick_to h z5l z4o z1r z1c
noncomputable def Z4O (x0 : List Z7) (x1 : List Z7) : Option (Bool) := pick fun r => ∀ (ox0 : Own) (ox1 : Own), RRun (Z1z) (EE 22 [(.p (.lst ox0 (x0.map Zs))), (.p (.lst ox1 (x1.map Zs)))] []) r
theorem Z9l (x0 : List Z7) (x1 : List Z7) (ox0 : Own) (ox1 : Own) : Sim (Z1z) (Z4O x0 x1) (EE 22 [(.p (.lst ox0 (x0.map Zs))), (.p (.lst ox1 (x1.map Zs)))] []) := fun _ h => pick_to h ox0 ox1
noncomputable def Z3c (x1 : List Z7) (x12 : List Z7) (x13 : Int) (x14 : Int) : Option (Bool) := pick fun r => ∀ (ox1 : Own) (ox12 : Own), RRun (Z1z) (ZaX 0 (.p (.lst ox1 (x1.map Zs))) (.p (.lst ox12 (x12.map Zs))) (iv x13) (iv x14) []) r
theorem Z62 (x1 : List Z7) (x12 : List Z7) (x13 : Int) (x14 : Int) (ox1 : Own) (ox12 : Own) : Sim (Z1z) (Z3c x1 x12 x13 x14) (ZaX 0 (.p (.lst ox1 (x1.map Zs))) (.p (.lst ox12 (x12.map Zs))) (iv x13) (iv x14) []) := fun _ h => pick_to h ox1 ox12
noncomputable def Z2Y (x58 : List Z8) (x59 : Int) (x60 : Int) (b1 : Z8) : Option (Bool) := pick fun r => ∀ (b0 : Z8) (ox58 : Own) (z2c : Own) (z1I : Own) (zB : Own) (zy : Own), RRun (Z1o) (ZaO 0 (.ptr 1 0) (.p (.lst ox58 (x58.map ZI))) (iv x59) (iv x60) [(Zq b0 z2c z1I), (Zq b1 zB zy)]) r
theorem Z5K (x58 : List Z8) (x59 : Int) (x60 : Int) (b0 : Z8) (b1 : Z8) (ox58 : Own) (z2c : Own) (z1I : Own) (zB : Own) (zy : Own) : Sim (Z1o) (Z2Y x58 x59 x60 b1) (ZaO 0 (.ptr 1 0) (.p (.lst ox58 (x58.map ZI))) (iv x59) (iv x60) [(Zq b0 z2c z1I), (Zq b1 zB zy)]) := fun _ h => pick_to h b0 ox58 z2c z1I zB zy
end Go.Proofs.YtadodmjdkphddaaDoor.N2
end
