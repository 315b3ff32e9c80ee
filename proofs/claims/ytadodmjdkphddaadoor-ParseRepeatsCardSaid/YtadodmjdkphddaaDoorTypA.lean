/- The functions, read typed: their types, and what they stand for. No condition. -/
import Derived.Test.YtadodmjdkphddaaDoorSim
import Derived.Test.YtadodmjdkphddaaDoorEqs

section
set_option linter.unusedSimpArgs false
set_option linter.unusedVariables false
namespace Go.Proofs.YtadodmjdkphddaaDoor.N2
open Go Go.Abs
set_option linter.unusedVariables false
set_option maxRecDepth 100000
structure Z7 where
 Lo : Int
 Hi : Int
 deriving Inhabited
def Z3w (a : Z7) : List PV := [(eI .i64) a.Lo, (eI .i64) a.Hi]
def Zs (a : Z7) : PV := .agg (Z3w a)
def ZG (a : Z7) : List PV := [(eI .i64) a.Lo, (eI .i64) a.Hi]
def Z1m (a : Z7) : Row := [.p ((eI .i64) a.Lo), .p ((eI .i64) a.Hi)]
theorem Z8V {a b : Z7} (h : Z3w a = Z3w b) : a = b := by
 have h0 : a.Lo = b.Lo := eI_inj _ _ (congrArg (fun l => l.getD 0 .junk) h)
 have h1 : a.Hi = b.Hi := eI_inj _ _ (congrArg (fun l => l.getD 1 .junk) h)
 cases a; cases b
 cases h0
 cases h1
 rfl
theorem Z2i (a b : Z7) (h : Zs a = Zs b) : a = b := Z8V (congrArg pC h)
structure Z8 where
 Kind : Int
 Lo : Int
 Hi : Int
 Mode : Int
 Ref : Int
 Set : (List Z7)
 Kids : (List Z8)
instance : Inhabited Z8 := ⟨⟨default, default, default, default, default, default, default⟩⟩
mutual
def ZR : Z8 → PV
 | ⟨Kind_, Lo_, Hi_, Mode_, Ref_, Set_, Kids_⟩ => .agg [(eI .i64) Kind_, (eI .i64) Lo_, (eI .i64) Hi_, (eI .i64) Mode_, (eI .i64) Ref_, (eL Zs) Set_, .lst .sh (Z3E Kids_)]
def Z3E : List Z8 → List PV
 | [] => []
 | x :: r => ZR x :: Z3E r
end
theorem Z9a : ∀ l, Z3E l = l.map ZR
 | [] => rfl
 | x :: r => by rw [Z3E, Z9a r]; rfl
def Z2D (a : Z8) : List PV := [(eI .i64) a.Kind, (eI .i64) a.Lo, (eI .i64) a.Hi, (eI .i64) a.Mode, (eI .i64) a.Ref, (eL Zs) a.Set, (eL ZR) a.Kids]
theorem Z2U (a : Z8) : ZR a = .agg (Z2D a) := by
 cases a; rw [ZR, Z9a]; rfl
theorem Z72 (a : Z8) : pcells (ZR a) = Z2D a := by rw [Z2U]; rfl
theorem ZaO (a : Z8) : (pcells (ZR a)).length = 7 := by rw [Z2U]; rfl
def ZE (a : Z8) (o0 o1 : Own) : List PV := [(eI .i64) a.Kind, (eI .i64) a.Lo, (eI .i64) a.Hi, (eI .i64) a.Mode, (eI .i64) a.Ref, .lst o0 (a.Set.map Zs), .lst o1 (a.Kids.map ZR)]
def Zr (a : Z8) (o0 o1 : Own) : Row := [.p ((eI .i64) a.Kind), .p ((eI .i64) a.Lo), .p ((eI .i64) a.Hi), .p ((eI .i64) a.Mode), .p ((eI .i64) a.Ref), .p (.lst o0 (a.Set.map Zs)), .p (.lst o1 (a.Kids.map ZR))]
mutual
theorem Z97 : ∀ a b : Z8, ZR a = ZR b → a = b
 | ⟨Kind_, Lo_, Hi_, Mode_, Ref_, Set_, Kids_⟩, ⟨Kind_2, Lo_2, Hi_2, Mode_2, Ref_2, Set_2, Kids_2⟩, h => by
  rw [ZR, ZR] at h
  have h0 : Kind_ = Kind_2 := eI_inj _ _ (congrArg (fun l => (pC l).getD 0 .junk) h)
  have h1 : Lo_ = Lo_2 := eI_inj _ _ (congrArg (fun l => (pC l).getD 1 .junk) h)
  have h2 : Hi_ = Hi_2 := eI_inj _ _ (congrArg (fun l => (pC l).getD 2 .junk) h)
  have h3 : Mode_ = Mode_2 := eI_inj _ _ (congrArg (fun l => (pC l).getD 3 .junk) h)
  have h4 : Ref_ = Ref_2 := eI_inj _ _ (congrArg (fun l => (pC l).getD 4 .junk) h)
  have h5 : Set_ = Set_2 := (eL_inj Z2i) _ _ (congrArg (fun l => (pC l).getD 5 .junk) h)
  have h6 : Kids_ = Kids_2 := Z8O Kids_ Kids_2 (congrArg (fun l => pL ((pC l).getD 6 .junk)) h)
  subst h0
  subst h1
  subst h2
  subst h3
  subst h4
  subst h5
  subst h6
  rfl
theorem Z8O : ∀ a b : List Z8, Z3E a = Z3E b → a = b
 | [], [], _ => rfl
 | [], _ :: _, h => by simp [Z3E] at h
 | _ :: _, [], h => by simp [Z3E] at h
 | x :: r, y :: t, h => by
  simp only [Z3E, List.cons.injEq] at h
  rw [Z97 x y h.1, Z8O r t h.2]
end
theorem Z2v {a b : Z8} (h : Z2D a = Z2D b) : a = b := Z97 a b (by rw [Z2U, Z2U, h])
structure ZD where
 Root : Z8
 Groups : Int
 Fold : Bool
 deriving Inhabited
def Z7L (a : ZD) : List PV := [(eI .i64) a.Root.Kind, (eI .i64) a.Root.Lo, (eI .i64) a.Root.Hi, (eI .i64) a.Root.Mode, (eI .i64) a.Root.Ref, (eL Zs) a.Root.Set, (eL ZR) a.Root.Kids, (eI .i64) a.Groups, eB a.Fold]
def Z9K (a : ZD) : PV := .agg (Z7L a)
def Z1u (a : ZD) (o0 o1 : Own) : List PV := [(eI .i64) a.Root.Kind, (eI .i64) a.Root.Lo, (eI .i64) a.Root.Hi, (eI .i64) a.Root.Mode, (eI .i64) a.Root.Ref, .lst o0 (a.Root.Set.map Zs), .lst o1 (a.Root.Kids.map ZR), (eI .i64) a.Groups, eB a.Fold]
def Zv (a : ZD) (o0 o1 : Own) : Row := [.p ((eI .i64) a.Root.Kind), .p ((eI .i64) a.Root.Lo), .p ((eI .i64) a.Root.Hi), .p ((eI .i64) a.Root.Mode), .p ((eI .i64) a.Root.Ref), .p (.lst o0 (a.Root.Set.map Zs)), .p (.lst o1 (a.Root.Kids.map ZR)), .p ((eI .i64) a.Groups), .p (eB a.Fold)]
theorem Z8h {a b : ZD} (h : Z7L a = Z7L b) : a = b := by
 have h0 : a.Root = b.Root := Z2v (congrArg (fun l => (l.drop 0).take 7) h)
 have h1 : a.Groups = b.Groups := eI_inj _ _ (congrArg (fun l => l.getD 7 .junk) h)
 have h2 : a.Fold = b.Fold := eB_inj _ _ (congrArg (fun l => l.getD 8 .junk) h)
 cases a; cases b
 cases h0
 cases h1
 cases h2
 rfl
theorem Zfd (a b : ZD) (h : Z9K a = Z9K b) : a = b := Z8h (congrArg pC h)
structure Zi where
 Code : Int
 At : Int
 deriving Inhabited
def Z8v (a : Zi) : List PV := [(eI .i64) a.Code, (eI .i64) a.At]
def ZaB (a : Zi) : PV := .agg (Z8v a)
def Z16 (a : Zi) : List PV := [(eI .i64) a.Code, (eI .i64) a.At]
def ZC (a : Zi) : Row := [.p ((eI .i64) a.Code), .p ((eI .i64) a.At)]
theorem Z6D {a b : Zi} (h : Z8v a = Z8v b) : a = b := by
 have h0 : a.Code = b.Code := eI_inj _ _ (congrArg (fun l => l.getD 0 .junk) h)
 have h1 : a.At = b.At := eI_inj _ _ (congrArg (fun l => l.getD 1 .junk) h)
 cases a; cases b
 cases h0
 cases h1
 rfl
theorem Zgy (a b : Zi) (h : ZaB a = ZaB b) : a = b := Z6D (congrArg pC h)
structure Zq where
 group : Int
 at_ : Int
 deriving Inhabited
def Z6a (a : Zq) : List PV := [(eI .i64) a.group, (eI .i64) a.at_]
def Z1y (a : Zq) : PV := .agg (Z6a a)
def Z7P (a : Zq) : List PV := [(eI .i64) a.group, (eI .i64) a.at_]
def Z7J (a : Zq) : Row := [.p ((eI .i64) a.group), .p ((eI .i64) a.at_)]
theorem Zbh {a b : Zq} (h : Z6a a = Z6a b) : a = b := by
 have h0 : a.group = b.group := eI_inj _ _ (congrArg (fun l => l.getD 0 .junk) h)
 have h1 : a.at_ = b.at_ := eI_inj _ _ (congrArg (fun l => l.getD 1 .junk) h)
 cases a; cases b
 cases h0
 cases h1
 rfl
theorem Z3v (a b : Zq) (h : Z1y a = Z1y b) : a = b := Zbh (congrArg pC h)
structure Zk where
 b : (List Int)
 at_ : Int
 groups : Int
 deep : Int
 refs : (List Zq)
 fault : Zi
 deriving Inhabited
def Z87 (a : Zk) : List PV := [(eL (eI .u8)) a.b, (eI .i64) a.at_, (eI .i64) a.groups, (eI .i64) a.deep, (eL Z1y) a.refs, (eI .i64) a.fault.Code, (eI .i64) a.fault.At]
def Zag (a : Zk) : PV := .agg (Z87 a)
def ZcI (a : Zk) (o0 o1 : Own) : List PV := [.lst o0 (a.b.map (eI .u8)), (eI .i64) a.at_, (eI .i64) a.groups, (eI .i64) a.deep, .lst o1 (a.refs.map Z1y), (eI .i64) a.fault.Code, (eI .i64) a.fault.At]
def Zj (a : Zk) (o0 o1 : Own) : Row := [.p (.lst o0 (a.b.map (eI .u8))), .p ((eI .i64) a.at_), .p ((eI .i64) a.groups), .p ((eI .i64) a.deep), .p (.lst o1 (a.refs.map Z1y)), .p ((eI .i64) a.fault.Code), .p ((eI .i64) a.fault.At)]
theorem Zby {a b : Zk} (h : Z87 a = Z87 b) : a = b := by
 have h0 : a.b = b.b := (eL_inj eI_inj) _ _ (congrArg (fun l => l.getD 0 .junk) h)
 have h1 : a.at_ = b.at_ := eI_inj _ _ (congrArg (fun l => l.getD 1 .junk) h)
 have h2 : a.groups = b.groups := eI_inj _ _ (congrArg (fun l => l.getD 2 .junk) h)
 have h3 : a.deep = b.deep := eI_inj _ _ (congrArg (fun l => l.getD 3 .junk) h)
 have h4 : a.refs = b.refs := (eL_inj Z3v) _ _ (congrArg (fun l => l.getD 4 .junk) h)
 have h5 : a.fault = b.fault := Z6D (congrArg (fun l => (l.drop 5).take 2) h)
 cases a; cases b
 cases h0
 cases h1
 cases h2
 cases h3
 cases h4
 cases h5
 rfl
theorem Zfo (a b : Zk) (h : Zag a = Zag b) : a = b := Zby (congrArg pC h)
end Go.Proofs.YtadodmjdkphddaaDoor.N2
end
section
set_option linter.unusedSimpArgs false
set_option linter.unusedVariables false
namespace Go.Proofs.YtadodmjdkphddaaDoor.N2
open Go Go.Abs
set_option linter.unusedVariables false
set_option maxRecDepth 100000
abbrev Z38 (zl : List Int) (z6 : Int) (zd : Int) (zh : List Zq) (z1 : Int) (z2 : Int) (zn : Own) (zb : Own) : (Bool × Int) → Res → Prop := fun r q => ∃ (ex : List Row), q = ((bv r.1), [(Zj (Zk.mk zl r.2 z6 zd zh (Zi.mk z1 z2)) zn zb)] ++ ex)
theorem ZaM (zl : List Int) (z6 : Int) (zd : Int) (zh : List Zq) (z1 : Int) (z2 : Int) (zn : Own) (zb : Own) : ∀ a b q, Z38 zl z6 zd zh z1 z2 zn zb a q → Z38 zl z6 zd zh z1 z2 zn zb b q → a = b := by
 rintro a b q ⟨_, e1⟩ ⟨_, e2⟩
 have e := e1.symm.trans e2
 exact Prod.ext (congrArg (fun q : Res => pB (pA q.1)) e) (congrArg (fun q : Res => pI (pA (cellAt q 0 1))) e)
abbrev Z4a  : (Int × Int) → Res → Prop := fun r q => ∃ (ex : List Row), q = ((.p (.tup [(.v (.int .i32 r.1)), (.v (.int .i64 r.2))])), ex)
theorem Z8N  : ∀ a b q, Z4a  a q → Z4a  b q → a = b := by
 rintro a b q ⟨_, e1⟩ ⟨_, e2⟩
 have e := e1.symm.trans e2
 exact Prod.ext (congrArg (fun q : Res => pI ((pT (pA q.1)).getD 0 .junk)) e) (congrArg (fun q : Res => pI ((pT (pA q.1)).getD 1 .junk)) e)
abbrev Z4I  : (Int × Int) → Res → Prop := fun r q => ∃ (ex : List Row), q = ((.p (.tup [(.v (.int .i64 r.1)), (.v (.int .i64 r.2))])), ex)
theorem Zde  : ∀ a b q, Z4I  a q → Z4I  b q → a = b := by
 rintro a b q ⟨_, e1⟩ ⟨_, e2⟩
 have e := e1.symm.trans e2
 exact Prod.ext (congrArg (fun q : Res => pI ((pT (pA q.1)).getD 0 .junk)) e) (congrArg (fun q : Res => pI ((pT (pA q.1)).getD 1 .junk)) e)
abbrev Z3I (b0 : Zk) (zn : Own) (zb : Own) : (Int) → Res → Prop := fun r q => ∃ (ex : List Row), q = ((iv r), [(Zj b0 zn zb)] ++ ex)
theorem Zb1 (b0 : Zk) (zn : Own) (zb : Own) : ∀ a b q, Z3I b0 zn zb a q → Z3I b0 zn zb b q → a = b := by
 rintro a b q ⟨_, e1⟩ ⟨_, e2⟩
 have e := e1.symm.trans e2
 exact congrArg (fun q : Res => pI (pA q.1)) e
abbrev Z5j  : (Z8) → Res → Prop := fun r q => ∃ (ex : List Row), q = ((.p (.agg (ZE r .sh .sh))), ex)
theorem Zcj  : ∀ a b q, Z5j  a q → Z5j  b q → a = b := by
 rintro a b q ⟨_, e1⟩ ⟨_, e2⟩
 have e := e1.symm.trans e2
 exact Z2v (congrArg (fun q : Res => pC (pA q.1)) e)
abbrev Z4x (zl : List Int) (z6 : Int) (zd : Int) (zh : List Zq) (z1 : Int) (z2 : Int) (zn : Own) (zb : Own) : (Int × Int) → Res → Prop := fun r q => ∃ (ex : List Row), q = ((iv r.1), [(Zj (Zk.mk zl r.2 z6 zd zh (Zi.mk z1 z2)) zn zb)] ++ ex)
theorem Zb3 (zl : List Int) (z6 : Int) (zd : Int) (zh : List Zq) (z1 : Int) (z2 : Int) (zn : Own) (zb : Own) : ∀ a b q, Z4x zl z6 zd zh z1 z2 zn zb a q → Z4x zl z6 zd zh z1 z2 zn zb b q → a = b := by
 rintro a b q ⟨_, e1⟩ ⟨_, e2⟩
 have e := e1.symm.trans e2
 exact Prod.ext (congrArg (fun q : Res => pI (pA q.1)) e) (congrArg (fun q : Res => pI (pA (cellAt q 0 1))) e)
abbrev Z7q  : (Z7) → Res → Prop := fun r q => ∃ (ex : List Row), q = ((.p (.agg (ZG r))), ex)
theorem Zdh  : ∀ a b q, Z7q  a q → Z7q  b q → a = b := by
 rintro a b q ⟨_, e1⟩ ⟨_, e2⟩
 have e := e1.symm.trans e2
 exact Z8V (congrArg (fun q : Res => pC (pA q.1)) e)
abbrev Z4z  : (Bool) → Res → Prop := fun r q => ∃ (ex : List Row), q = ((bv r), ex)
theorem ZaQ  : ∀ a b q, Z4z  a q → Z4z  b q → a = b := by
 rintro a b q ⟨_, e1⟩ ⟨_, e2⟩
 have e := e1.symm.trans e2
 exact congrArg (fun q : Res => pB (pA q.1)) e
abbrev Z5U  : (Bool) → Res → Prop := fun r q => ∃ (ex : List Row), q = ((bv r), ex)
theorem Zcd  : ∀ a b q, Z5U  a q → Z5U  b q → a = b := by
 rintro a b q ⟨_, e1⟩ ⟨_, e2⟩
 have e := e1.symm.trans e2
 exact congrArg (fun q : Res => pB (pA q.1)) e
abbrev Z1n  : (Int) → Res → Prop := fun r q => ∃ (ex : List Row), q = ((iv r), ex)
theorem Z5D  : ∀ a b q, Z1n  a q → Z1n  b q → a = b := by
 rintro a b q ⟨_, e1⟩ ⟨_, e2⟩
 have e := e1.symm.trans e2
 exact congrArg (fun q : Res => pI (pA q.1)) e
abbrev Z2y  : (Bool) → Res → Prop := fun r q => ∃ (ex : List Row), q = ((bv r), ex)
theorem Z7x  : ∀ a b q, Z2y  a q → Z2y  b q → a = b := by
 rintro a b q ⟨_, e1⟩ ⟨_, e2⟩
 have e := e1.symm.trans e2
 exact congrArg (fun q : Res => pB (pA q.1)) e
abbrev Z7b  : ((List Z7)) → Res → Prop := fun r q => ∃ (ex : List Row), q = ((.p (.lst .sh (r.map Zs))), ex)
theorem Zcc  : ∀ a b q, Z7b  a q → Z7b  b q → a = b := by
 rintro a b q ⟨_, e1⟩ ⟨_, e2⟩
 have e := e1.symm.trans e2
 exact lmap_inj Z2i (congrArg (fun q : Res => pL (pA q.1)) e)
abbrev Z5X  : ((List Z7) × Int) → Res → Prop := fun r q => ∃ (ex : List Row), q = ((.p (.tup [(.lst .sh (r.1.map Zs)), (.v (.int .i64 r.2))])), ex)
theorem Zd5  : ∀ a b q, Z5X  a q → Z5X  b q → a = b := by
 rintro a b q ⟨_, e1⟩ ⟨_, e2⟩
 have e := e1.symm.trans e2
 exact Prod.ext (lmap_inj Z2i (congrArg (fun q : Res => pL ((pT (pA q.1)).getD 0 .junk)) e)) (congrArg (fun q : Res => pI ((pT (pA q.1)).getD 1 .junk)) e)
abbrev Z1J  : (Bool) → Res → Prop := fun r q => ∃ (ex : List Row), q = ((bv r), ex)
theorem Z8f  : ∀ a b q, Z1J  a q → Z1J  b q → a = b := by
 rintro a b q ⟨_, e1⟩ ⟨_, e2⟩
 have e := e1.symm.trans e2
 exact congrArg (fun q : Res => pB (pA q.1)) e
abbrev Z29  : ((List Z7)) → Res → Prop := fun r q => ∃ (ex : List Row), q = ((.p (.lst .sh (r.map Zs))), ex)
theorem Z9b  : ∀ a b q, Z29  a q → Z29  b q → a = b := by
 rintro a b q ⟨_, e1⟩ ⟨_, e2⟩
 have e := e1.symm.trans e2
 exact lmap_inj Z2i (congrArg (fun q : Res => pL (pA q.1)) e)
abbrev Z55  : ((List Z7) × Int) → Res → Prop := fun r q => ∃ (ex : List Row), q = ((.p (.tup [(.lst .sh (r.1.map Zs)), (.v (.int .i64 r.2))])), ex)
theorem Zc3  : ∀ a b q, Z55  a q → Z55  b q → a = b := by
 rintro a b q ⟨_, e1⟩ ⟨_, e2⟩
 have e := e1.symm.trans e2
 exact Prod.ext (lmap_inj Z2i (congrArg (fun q : Res => pL ((pT (pA q.1)).getD 0 .junk)) e)) (congrArg (fun q : Res => pI ((pT (pA q.1)).getD 1 .junk)) e)
abbrev Z6k  : (Z8) → Res → Prop := fun r q => ∃ (ex : List Row), q = ((.p (.agg (ZE r .sh .sh))), ex)
theorem Zdg  : ∀ a b q, Z6k  a q → Z6k  b q → a = b := by
 rintro a b q ⟨_, e1⟩ ⟨_, e2⟩
 have e := e1.symm.trans e2
 exact Z2v (congrArg (fun q : Res => pC (pA q.1)) e)
abbrev Z3L (zl : List Int) (z6 : Int) (zd : Int) (zh : List Zq) (zn : Own) (zb : Own) : (Int × Int × Int) → Res → Prop := fun r q => ∃ (ex : List Row), q = ((.p (.tup [])), [(Zj (Zk.mk zl r.1 z6 zd zh (Zi.mk r.2.1 r.2.2)) zn zb)] ++ ex)
theorem Zb9 (zl : List Int) (z6 : Int) (zd : Int) (zh : List Zq) (zn : Own) (zb : Own) : ∀ a b q, Z3L zl z6 zd zh zn zb a q → Z3L zl z6 zd zh zn zb b q → a = b := by
 rintro a b q ⟨_, e1⟩ ⟨_, e2⟩
 have e := e1.symm.trans e2
 exact Prod.ext (congrArg (fun q : Res => pI (pA (cellAt q 0 1))) e) (Prod.ext (congrArg (fun q : Res => pI (pA (cellAt q 0 5))) e) (congrArg (fun q : Res => pI (pA (cellAt q 0 6))) e))
abbrev Z4p  : ((Own × (List Z7))) → Res → Prop := fun r q => ∃ (ex : List Row), q = ((.p (.lst r.1 (r.2.map Zs))), ex)
theorem Zbu  : ∀ a b q, Z4p  a q → Z4p  b q → a = b := by
 rintro a b q ⟨_, e1⟩ ⟨_, e2⟩
 have e := e1.symm.trans e2
 exact Prod.ext (congrArg (fun q : Res => pOwn (pA q.1)) e) (lmap_inj Z2i (congrArg (fun q : Res => pL (pA q.1)) e))
abbrev Z4N  : (Int) → Res → Prop := fun r q => ∃ (ex : List Row), q = ((iv r), ex)
theorem Zdf  : ∀ a b q, Z4N  a q → Z4N  b q → a = b := by
 rintro a b q ⟨_, e1⟩ ⟨_, e2⟩
 have e := e1.symm.trans e2
 exact congrArg (fun q : Res => pI (pA q.1)) e
abbrev Z5a (zZ : Int) : (Bool) → Res → Prop := fun r q => ∃ (ex : List Row), q = ((bv r), [[(iv zZ)]] ++ ex)
theorem Zbz (zZ : Int) : ∀ a b q, Z5a zZ a q → Z5a zZ b q → a = b := by
 rintro a b q ⟨_, e1⟩ ⟨_, e2⟩
 have e := e1.symm.trans e2
 exact congrArg (fun q : Res => pB (pA q.1)) e
abbrev Z1j (zZ : Int) : (Int) → Res → Prop := fun r q => ∃ (ex : List Row), q = ((iv r), [[(iv zZ)]] ++ ex)
theorem Z5F (zZ : Int) : ∀ a b q, Z1j zZ a q → Z1j zZ b q → a = b := by
 rintro a b q ⟨_, e1⟩ ⟨_, e2⟩
 have e := e1.symm.trans e2
 exact congrArg (fun q : Res => pI (pA q.1)) e
abbrev Z2z (zZ : Int) : (Bool) → Res → Prop := fun r q => ∃ (ex : List Row), q = ((bv r), [[(iv zZ)]] ++ ex)
theorem Z7r (zZ : Int) : ∀ a b q, Z2z zZ a q → Z2z zZ b q → a = b := by
 rintro a b q ⟨_, e1⟩ ⟨_, e2⟩
 have e := e1.symm.trans e2
 exact congrArg (fun q : Res => pB (pA q.1)) e
abbrev Z5G  : (Bool) → Res → Prop := fun r q => ∃ (ex : List Row), q = ((bv r), ex)
theorem Zc8  : ∀ a b q, Z5G  a q → Z5G  b q → a = b := by
 rintro a b q ⟨_, e1⟩ ⟨_, e2⟩
 have e := e1.symm.trans e2
 exact congrArg (fun q : Res => pB (pA q.1)) e
abbrev Z2X (zl : List Int) (z6 : Int) (zd : Int) (zh : List Zq) (zn : Own) (zb : Own) : (Int × Int × Int × Int) → Res → Prop := fun r q => ∃ (ex : List Row), q = ((iv r.1), [(Zj (Zk.mk zl r.2.1 z6 zd zh (Zi.mk r.2.2.1 r.2.2.2)) zn zb)] ++ ex)
theorem Zam (zl : List Int) (z6 : Int) (zd : Int) (zh : List Zq) (zn : Own) (zb : Own) : ∀ a b q, Z2X zl z6 zd zh zn zb a q → Z2X zl z6 zd zh zn zb b q → a = b := by
 rintro a b q ⟨_, e1⟩ ⟨_, e2⟩
 have e := e1.symm.trans e2
 exact Prod.ext (congrArg (fun q : Res => pI (pA q.1)) e) (Prod.ext (congrArg (fun q : Res => pI (pA (cellAt q 0 1))) e) (Prod.ext (congrArg (fun q : Res => pI (pA (cellAt q 0 5))) e) (congrArg (fun q : Res => pI (pA (cellAt q 0 6))) e)))
abbrev Z2s (zl : List Int) (z6 : Int) (zd : Int) (zn : Own) : (Z8 × Int × (List Zq) × Int × Int) → Res → Prop := fun r q => ∃ (p0_4 : Own) (ex : List Row), okApp p0_4 = true ∧ q = ((.p (.agg (ZE r.1 .sh .sh))), [(Zj (Zk.mk zl r.2.1 z6 zd r.2.2.1 (Zi.mk r.2.2.2.1 r.2.2.2.2)) zn p0_4)] ++ ex)
theorem Za8 (zl : List Int) (z6 : Int) (zd : Int) (zn : Own) : ∀ a b q, Z2s zl z6 zd zn a q → Z2s zl z6 zd zn b q → a = b := by
 rintro a b q ⟨_, _, _, e1⟩ ⟨_, _, _, e2⟩
 have e := e1.symm.trans e2
 exact Prod.ext (Z2v (congrArg (fun q : Res => pC (pA q.1)) e)) (Prod.ext (congrArg (fun q : Res => pI (pA (cellAt q 0 1))) e) (Prod.ext (lmap_inj Z3v (congrArg (fun q : Res => pL (pA (cellAt q 0 4))) e)) (Prod.ext (congrArg (fun q : Res => pI (pA (cellAt q 0 5))) e) (congrArg (fun q : Res => pI (pA (cellAt q 0 6))) e))))
abbrev Z2q (zl : List Int) (z6 : Int) (zd : Int) (zh : List Zq) (zn : Own) (zb : Own) : (Int × (Own × (List Z7)) × Bool × Int × Int × Int) → Res → Prop := fun r q => ∃ (ex : List Row), q = ((.p (.tup [(.v (.int .i64 r.1)), (.lst r.2.1.1 (r.2.1.2.map Zs)), (.v (.bool r.2.2.1))])), [(Zj (Zk.mk zl r.2.2.2.1 z6 zd zh (Zi.mk r.2.2.2.2.1 r.2.2.2.2.2)) zn zb)] ++ ex)
theorem Z9Y (zl : List Int) (z6 : Int) (zd : Int) (zh : List Zq) (zn : Own) (zb : Own) : ∀ a b q, Z2q zl z6 zd zh zn zb a q → Z2q zl z6 zd zh zn zb b q → a = b := by
 rintro a b q ⟨_, e1⟩ ⟨_, e2⟩
 have e := e1.symm.trans e2
 exact Prod.ext (congrArg (fun q : Res => pI ((pT (pA q.1)).getD 0 .junk)) e) (Prod.ext (Prod.ext (congrArg (fun q : Res => pOwn ((pT (pA q.1)).getD 1 .junk)) e) (lmap_inj Z2i (congrArg (fun q : Res => pL ((pT (pA q.1)).getD 1 .junk)) e))) (Prod.ext (congrArg (fun q : Res => pB ((pT (pA q.1)).getD 2 .junk)) e) (Prod.ext (congrArg (fun q : Res => pI (pA (cellAt q 0 1))) e) (Prod.ext (congrArg (fun q : Res => pI (pA (cellAt q 0 5))) e) (congrArg (fun q : Res => pI (pA (cellAt q 0 6))) e)))))
abbrev Z51  : ((List Z7)) → Res → Prop := fun r q => ∃ (ex : List Row), q = ((.p (.lst .sh (r.map Zs))), ex)
theorem Z9X  : ∀ a b q, Z51  a q → Z51  b q → a = b := by
 rintro a b q ⟨_, e1⟩ ⟨_, e2⟩
 have e := e1.symm.trans e2
 exact lmap_inj Z2i (congrArg (fun q : Res => pL (pA q.1)) e)
abbrev Z4B  : ((List Z7) × Int) → Res → Prop := fun r q => ∃ (ex : List Row), q = ((.p (.tup [(.lst .sh (r.1.map Zs)), (.v (.int .i64 r.2))])), ex)
theorem Zci  : ∀ a b q, Z4B  a q → Z4B  b q → a = b := by
 rintro a b q ⟨_, e1⟩ ⟨_, e2⟩
 have e := e1.symm.trans e2
 exact Prod.ext (lmap_inj Z2i (congrArg (fun q : Res => pL ((pT (pA q.1)).getD 0 .junk)) e)) (congrArg (fun q : Res => pI ((pT (pA q.1)).getD 1 .junk)) e)
abbrev Z3M  : ((List Z7)) → Res → Prop := fun r q => ∃ (p0_0 : Own) (ex : List Row), q = ((.p (.tup [])), [[(.p (.lst p0_0 (r.map Zs)))]] ++ ex)
theorem Z9N  : ∀ a b q, Z3M  a q → Z3M  b q → a = b := by
 rintro a b q ⟨_, _, e1⟩ ⟨_, _, e2⟩
 have e := e1.symm.trans e2
 exact lmap_inj Z2i (congrArg (fun q : Res => pL (pA (cellAt q 0 0))) e)
abbrev Z18 (zl : List Int) (z6 : Int) (zd : Int) (zh : List Zq) (zn : Own) (zb : Own) : (Z8 × Int × Int × Int) → Res → Prop := fun r q => ∃ (ex : List Row), q = ((.p (.agg (ZE r.1 .sh .sh))), [(Zj (Zk.mk zl r.2.1 z6 zd zh (Zi.mk r.2.2.1 r.2.2.2)) zn zb)] ++ ex)
theorem Z7w (zl : List Int) (z6 : Int) (zd : Int) (zh : List Zq) (zn : Own) (zb : Own) : ∀ a b q, Z18 zl z6 zd zh zn zb a q → Z18 zl z6 zd zh zn zb b q → a = b := by
 rintro a b q ⟨_, e1⟩ ⟨_, e2⟩
 have e := e1.symm.trans e2
 exact Prod.ext (Z2v (congrArg (fun q : Res => pC (pA q.1)) e)) (Prod.ext (congrArg (fun q : Res => pI (pA (cellAt q 0 1))) e) (Prod.ext (congrArg (fun q : Res => pI (pA (cellAt q 0 5))) e) (congrArg (fun q : Res => pI (pA (cellAt q 0 6))) e)))
abbrev Z6j  : ((List ByteArray)) → Res → Prop := fun r q => ∃ (ex : List Row), q = ((.p (.lst .sh (r.map eS))), ex)
theorem Zcp  : ∀ a b q, Z6j  a q → Z6j  b q → a = b := by
 rintro a b q ⟨_, e1⟩ ⟨_, e2⟩
 have e := e1.symm.trans e2
 exact lmap_inj eS_inj (congrArg (fun q : Res => pL (pA q.1)) e)
abbrev Z1g (zl : List Int) (z6 : Int) (zd : Int) (zh : List Zq) (z1 : Int) (z2 : Int) (zn : Own) (zb : Own) : (Int × Int) → Res → Prop := fun r q => ∃ (ex : List Row), q = ((iv r.1), [(Zj (Zk.mk zl r.2 z6 zd zh (Zi.mk z1 z2)) zn zb)] ++ ex)
theorem Z5x (zl : List Int) (z6 : Int) (zd : Int) (zh : List Zq) (z1 : Int) (z2 : Int) (zn : Own) (zb : Own) : ∀ a b q, Z1g zl z6 zd zh z1 z2 zn zb a q → Z1g zl z6 zd zh z1 z2 zn zb b q → a = b := by
 rintro a b q ⟨_, e1⟩ ⟨_, e2⟩
 have e := e1.symm.trans e2
 exact Prod.ext (congrArg (fun q : Res => pI (pA q.1)) e) (congrArg (fun q : Res => pI (pA (cellAt q 0 1))) e)
abbrev Z23 (zl : List Int) (zn : Own) : (Z8 × Bool × Int × Int × Int × (List Zq) × Int × Int) → Res → Prop := fun r q => ∃ (p0_4 : Own) (ex : List Row), okApp p0_4 = true ∧ q = ((.p (.tup [(.agg (ZE r.1 .sh .sh)), (.v (.bool r.2.1))])), [(Zj (Zk.mk zl r.2.2.1 r.2.2.2.1 r.2.2.2.2.1 r.2.2.2.2.2.1 (Zi.mk r.2.2.2.2.2.2.1 r.2.2.2.2.2.2.2)) zn p0_4)] ++ ex)
theorem Zaz (zl : List Int) (zn : Own) : ∀ a b q, Z23 zl zn a q → Z23 zl zn b q → a = b := by
 rintro a b q ⟨_, _, _, e1⟩ ⟨_, _, _, e2⟩
 have e := e1.symm.trans e2
 exact Prod.ext (Z2v (congrArg (fun q : Res => pC ((pT (pA q.1)).getD 0 .junk)) e)) (Prod.ext (congrArg (fun q : Res => pB ((pT (pA q.1)).getD 1 .junk)) e) (Prod.ext (congrArg (fun q : Res => pI (pA (cellAt q 0 1))) e) (Prod.ext (congrArg (fun q : Res => pI (pA (cellAt q 0 2))) e) (Prod.ext (congrArg (fun q : Res => pI (pA (cellAt q 0 3))) e) (Prod.ext (lmap_inj Z3v (congrArg (fun q : Res => pL (pA (cellAt q 0 4))) e)) (Prod.ext (congrArg (fun q : Res => pI (pA (cellAt q 0 5))) e) (congrArg (fun q : Res => pI (pA (cellAt q 0 6))) e)))))))
abbrev Z3J (zl : List Int) (zn : Own) : (Z8 × Bool × Int × Int × Int × (List Zq) × Int × Int) → Res → Prop := fun r q => ∃ (p0_4 : Own) (ex : List Row), okApp p0_4 = true ∧ q = ((.p (.tup [(.agg (ZE r.1 .sh .sh)), (.v (.bool r.2.1))])), [(Zj (Zk.mk zl r.2.2.1 r.2.2.2.1 r.2.2.2.2.1 r.2.2.2.2.2.1 (Zi.mk r.2.2.2.2.2.2.1 r.2.2.2.2.2.2.2)) zn p0_4)] ++ ex)
theorem ZaF (zl : List Int) (zn : Own) : ∀ a b q, Z3J zl zn a q → Z3J zl zn b q → a = b := by
 rintro a b q ⟨_, _, _, e1⟩ ⟨_, _, _, e2⟩
 have e := e1.symm.trans e2
 exact Prod.ext (Z2v (congrArg (fun q : Res => pC ((pT (pA q.1)).getD 0 .junk)) e)) (Prod.ext (congrArg (fun q : Res => pB ((pT (pA q.1)).getD 1 .junk)) e) (Prod.ext (congrArg (fun q : Res => pI (pA (cellAt q 0 1))) e) (Prod.ext (congrArg (fun q : Res => pI (pA (cellAt q 0 2))) e) (Prod.ext (congrArg (fun q : Res => pI (pA (cellAt q 0 3))) e) (Prod.ext (lmap_inj Z3v (congrArg (fun q : Res => pL (pA (cellAt q 0 4))) e)) (Prod.ext (congrArg (fun q : Res => pI (pA (cellAt q 0 5))) e) (congrArg (fun q : Res => pI (pA (cellAt q 0 6))) e)))))))
abbrev Z1U (zl : List Int) (z6 : Int) (zd : Int) (zh : List Zq) (z1 : Int) (z2 : Int) (zn : Own) (zb : Own) : (Int × Int) → Res → Prop := fun r q => ∃ (ex : List Row), q = ((iv r.1), [(Zj (Zk.mk zl r.2 z6 zd zh (Zi.mk z1 z2)) zn zb)] ++ ex)
theorem Z7h (zl : List Int) (z6 : Int) (zd : Int) (zh : List Zq) (z1 : Int) (z2 : Int) (zn : Own) (zb : Own) : ∀ a b q, Z1U zl z6 zd zh z1 z2 zn zb a q → Z1U zl z6 zd zh z1 z2 zn zb b q → a = b := by
 rintro a b q ⟨_, e1⟩ ⟨_, e2⟩
 have e := e1.symm.trans e2
 exact Prod.ext (congrArg (fun q : Res => pI (pA q.1)) e) (congrArg (fun q : Res => pI (pA (cellAt q 0 1))) e)
abbrev Z1K (zl : List Int) (z6 : Int) (zd : Int) (zh : List Zq) (zn : Own) (zb : Own) : (Int × Int × Int × Int × Int) → Res → Prop := fun r q => ∃ (ex : List Row), q = ((.p (.tup [(.v (.int .i64 r.1)), (.v (.int .i64 r.2.1))])), [(Zj (Zk.mk zl r.2.2.1 z6 zd zh (Zi.mk r.2.2.2.1 r.2.2.2.2)) zn zb)] ++ ex)
theorem Za3 (zl : List Int) (z6 : Int) (zd : Int) (zh : List Zq) (zn : Own) (zb : Own) : ∀ a b q, Z1K zl z6 zd zh zn zb a q → Z1K zl z6 zd zh zn zb b q → a = b := by
 rintro a b q ⟨_, e1⟩ ⟨_, e2⟩
 have e := e1.symm.trans e2
 exact Prod.ext (congrArg (fun q : Res => pI ((pT (pA q.1)).getD 0 .junk)) e) (Prod.ext (congrArg (fun q : Res => pI ((pT (pA q.1)).getD 1 .junk)) e) (Prod.ext (congrArg (fun q : Res => pI (pA (cellAt q 0 1))) e) (Prod.ext (congrArg (fun q : Res => pI (pA (cellAt q 0 5))) e) (congrArg (fun q : Res => pI (pA (cellAt q 0 6))) e))))
abbrev Z2r (zl : List Int) (z6 : Int) (zd : Int) (zh : List Zq) (zn : Own) (zb : Own) : (Z8 × Int × Int × Int) → Res → Prop := fun r q => ∃ (ex : List Row), q = ((.p (.agg (ZE r.1 .sh .sh))), [(Zj (Zk.mk zl r.2.1 z6 zd zh (Zi.mk r.2.2.1 r.2.2.2)) zn zb)] ++ ex)
theorem Z9V (zl : List Int) (z6 : Int) (zd : Int) (zh : List Zq) (zn : Own) (zb : Own) : ∀ a b q, Z2r zl z6 zd zh zn zb a q → Z2r zl z6 zd zh zn zb b q → a = b := by
 rintro a b q ⟨_, e1⟩ ⟨_, e2⟩
 have e := e1.symm.trans e2
 exact Prod.ext (Z2v (congrArg (fun q : Res => pC (pA q.1)) e)) (Prod.ext (congrArg (fun q : Res => pI (pA (cellAt q 0 1))) e) (Prod.ext (congrArg (fun q : Res => pI (pA (cellAt q 0 5))) e) (congrArg (fun q : Res => pI (pA (cellAt q 0 6))) e)))
abbrev Z26 (zl : List Int) (zn : Own) : (Z8 × Int × Int × Int × (List Zq) × Int × Int) → Res → Prop := fun r q => ∃ (p0_4 : Own) (ex : List Row), okApp p0_4 = true ∧ q = ((.p (.agg (ZE r.1 .sh .sh))), [(Zj (Zk.mk zl r.2.1 r.2.2.1 r.2.2.2.1 r.2.2.2.2.1 (Zi.mk r.2.2.2.2.2.1 r.2.2.2.2.2.2)) zn p0_4)] ++ ex)
theorem Z8g (zl : List Int) (zn : Own) : ∀ a b q, Z26 zl zn a q → Z26 zl zn b q → a = b := by
 rintro a b q ⟨_, _, _, e1⟩ ⟨_, _, _, e2⟩
 have e := e1.symm.trans e2
 exact Prod.ext (Z2v (congrArg (fun q : Res => pC (pA q.1)) e)) (Prod.ext (congrArg (fun q : Res => pI (pA (cellAt q 0 1))) e) (Prod.ext (congrArg (fun q : Res => pI (pA (cellAt q 0 2))) e) (Prod.ext (congrArg (fun q : Res => pI (pA (cellAt q 0 3))) e) (Prod.ext (lmap_inj Z3v (congrArg (fun q : Res => pL (pA (cellAt q 0 4))) e)) (Prod.ext (congrArg (fun q : Res => pI (pA (cellAt q 0 5))) e) (congrArg (fun q : Res => pI (pA (cellAt q 0 6))) e))))))
abbrev Z2h (zl : List Int) (zn : Own) : (Z8 × Int × Int × Int × (List Zq) × Int × Int) → Res → Prop := fun r q => ∃ (p0_4 : Own) (ex : List Row), okApp p0_4 = true ∧ q = ((.p (.agg (ZE r.1 .sh .sh))), [(Zj (Zk.mk zl r.2.1 r.2.2.1 r.2.2.2.1 r.2.2.2.2.1 (Zi.mk r.2.2.2.2.2.1 r.2.2.2.2.2.2)) zn p0_4)] ++ ex)
theorem Z8b (zl : List Int) (zn : Own) : ∀ a b q, Z2h zl zn a q → Z2h zl zn b q → a = b := by
 rintro a b q ⟨_, _, _, e1⟩ ⟨_, _, _, e2⟩
 have e := e1.symm.trans e2
 exact Prod.ext (Z2v (congrArg (fun q : Res => pC (pA q.1)) e)) (Prod.ext (congrArg (fun q : Res => pI (pA (cellAt q 0 1))) e) (Prod.ext (congrArg (fun q : Res => pI (pA (cellAt q 0 2))) e) (Prod.ext (congrArg (fun q : Res => pI (pA (cellAt q 0 3))) e) (Prod.ext (lmap_inj Z3v (congrArg (fun q : Res => pL (pA (cellAt q 0 4))) e)) (Prod.ext (congrArg (fun q : Res => pI (pA (cellAt q 0 5))) e) (congrArg (fun q : Res => pI (pA (cellAt q 0 6))) e))))))
abbrev Z2b  : (ZD × Zi) → Res → Prop := fun r q => ∃ (ex : List Row), q = ((.p (.tup [(.agg (Z1u r.1 .sh .sh)), (.agg (Z16 r.2))])), ex)
theorem Zaa  : ∀ a b q, Z2b  a q → Z2b  b q → a = b := by
 rintro a b q ⟨_, e1⟩ ⟨_, e2⟩
 have e := e1.symm.trans e2
 exact Prod.ext (Z8h (congrArg (fun q : Res => pC ((pT (pA q.1)).getD 0 .junk)) e)) (Z6D (congrArg (fun q : Res => pC ((pT (pA q.1)).getD 1 .junk)) e))
abbrev Z2G  : (Bool) → Res → Prop := fun r q => ∃ (ex : List Row), q = ((bv r), ex)
theorem Z9P  : ∀ a b q, Z2G  a q → Z2G  b q → a = b := by
 rintro a b q ⟨_, e1⟩ ⟨_, e2⟩
 have e := e1.symm.trans e2
 exact congrArg (fun q : Res => pB (pA q.1)) e
abbrev Z58  : (Bool) → Res → Prop := fun r q => ∃ (ex : List Row), q = ((bv r), ex)
theorem Zbw  : ∀ a b q, Z58  a q → Z58  b q → a = b := by
 rintro a b q ⟨_, e1⟩ ⟨_, e2⟩
 have e := e1.symm.trans e2
 exact congrArg (fun q : Res => pB (pA q.1)) e
abbrev Z4r  : ((List Int)) → Res → Prop := fun r q => ∃ (ex : List Row), q = ((.p (.lst .sh (r.map (eI .u8)))), ex)
theorem Zcx  : ∀ a b q, Z4r  a q → Z4r  b q → a = b := by
 rintro a b q ⟨_, e1⟩ ⟨_, e2⟩
 have e := e1.symm.trans e2
 exact lmap_inj eI_inj (congrArg (fun q : Res => pL (pA q.1)) e)
abbrev Z4u  : (ByteArray) → Res → Prop := fun r q => ∃ (ex : List Row), q = ((.p (.v (.string r))), ex)
theorem Zb8  : ∀ a b q, Z4u  a q → Z4u  b q → a = b := by
 rintro a b q ⟨_, e1⟩ ⟨_, e2⟩
 have e := e1.symm.trans e2
 exact congrArg (fun q : Res => pS (pA q.1)) e
abbrev Z1z  : (Bool) → Res → Prop := fun r q => ∃ (ex : List Row), q = ((bv r), ex)
theorem Z6Q  : ∀ a b q, Z1z  a q → Z1z  b q → a = b := by
 rintro a b q ⟨_, e1⟩ ⟨_, e2⟩
 have e := e1.symm.trans e2
 exact congrArg (fun q : Res => pB (pA q.1)) e
abbrev Z1k  : (Bool) → Res → Prop := fun r q => ∃ (ex : List Row), q = ((bv r), ex)
theorem Z8c  : ∀ a b q, Z1k  a q → Z1k  b q → a = b := by
 rintro a b q ⟨_, e1⟩ ⟨_, e2⟩
 have e := e1.symm.trans e2
 exact congrArg (fun q : Res => pB (pA q.1)) e
noncomputable def Z4D (x0 : Int) (x1 : Int) (x2 : Int) (x3 : Int) : Option (Bool) := pick fun r => RRun (Z1k) (EE 5 [(iv x0), (iv x1), (iv x2), (iv x3)] []) r
theorem Z85 (x0 : Int) (x1 : Int) (x2 : Int) (x3 : Int) : Sim (Z1k) (Z4D x0 x1 x2 x3) (EE 5 [(iv x0), (iv x1), (iv x2), (iv x3)] []) := fun _ h => pick_to h
noncomputable def Z4M  : Option (Bool) := pick fun r => RRun (Z2G) (EE 15 [] []) r
theorem Z9j  : Sim (Z2G) (Z4M) (EE 15 [] []) := fun _ h => pick_to h
noncomputable def Z4s (x0 : ByteArray) : Option (ZD × Zi) := pick fun r => RRun (Z2b) (EE 16 [(.p (.v (.string x0)))] []) r
theorem Z5l (x0 : ByteArray) : Sim (Z2b) (Z4s x0) (EE 16 [(.p (.v (.string x0)))] []) := fun _ h => pick_to h
noncomputable def Z14 (x1 : ByteArray) (zl : List Int) (zp : Int) : Option (Bool × Int) := pick fun r => ∀ (z6 : Int) (zd : Int) (zh : List Zq) (z1 : Int) (z2 : Int) (zn : Own) (zb : Own) (zu : okApp zb = true), RRun (Z38 zl z6 zd zh z1 z2 zn zb) (EE 27 [(.ptr 0 0), (.p (.v (.string x1)))] [(Zj (Zk.mk zl zp z6 zd zh (Zi.mk z1 z2)) zn zb)]) r
theorem Z1a (x1 : ByteArray) (zl : List Int) (zp : Int) (z6 : Int) (zd : Int) (zh : List Zq) (z1 : Int) (z2 : Int) (zn : Own) (zb : Own) (zu : okApp zb = true) : Sim (Z38 zl z6 zd zh z1 z2 zn zb) (Z14 x1 zl zp) (EE 27 [(.ptr 0 0), (.p (.v (.string x1)))] [(Zj (Zk.mk zl zp z6 zd zh (Zi.mk z1 z2)) zn zb)]) := fun _ h => pick_to h z6 zd zh z1 z2 zn zb zu
noncomputable def Z2F (zl : List Int) (zp : Int) (z6 : Int) (zd : Int) (zh : List Zq) (z1 : Int) (z2 : Int) : Option (Z8 × Int × Int × Int × (List Zq) × Int × Int) := pick fun r => ∀ (zn : Own) (zb : Own) (zu : okApp zb = true), RRun (Z2h zl zn) (EE 28 [(.ptr 0 0)] [(Zj (Zk.mk zl zp z6 zd zh (Zi.mk z1 z2)) zn zb)]) r
theorem Z7Z (zl : List Int) (zp : Int) (z6 : Int) (zd : Int) (zh : List Zq) (z1 : Int) (z2 : Int) (zn : Own) (zb : Own) (zu : okApp zb = true) : Sim (Z2h zl zn) (Z2F zl zp z6 zd zh z1 z2) (EE 28 [(.ptr 0 0)] [(Zj (Zk.mk zl zp z6 zd zh (Zi.mk z1 z2)) zn zb)]) := fun _ h => pick_to h zn zb zu
noncomputable def Z3X (zl : List Int) (zp : Int) (z6 : Int) (zd : Int) (zh : List Zq) (z1 : Int) (z2 : Int) : Option (Z8 × Int × Int × Int × (List Zq) × Int × Int) := pick fun r => ∀ (zn : Own) (zb : Own) (zu : okApp zb = true), RRun (Z26 zl zn) (EE 35 [(.ptr 0 0)] [(Zj (Zk.mk zl zp z6 zd zh (Zi.mk z1 z2)) zn zb)]) r
theorem Z7U (zl : List Int) (zp : Int) (z6 : Int) (zd : Int) (zh : List Zq) (z1 : Int) (z2 : Int) (zn : Own) (zb : Own) (zu : okApp zb = true) : Sim (Z26 zl zn) (Z3X zl zp z6 zd zh z1 z2) (EE 35 [(.ptr 0 0)] [(Zj (Zk.mk zl zp z6 zd zh (Zi.mk z1 z2)) zn zb)]) := fun _ h => pick_to h zn zb zu
noncomputable def Z3e (x3 : List Z8) (zl : List Int) (zp : Int) (z6 : Int) (zd : Int) (zh : List Zq) (z1 : Int) (z2 : Int) : Option (Z8 × Int × Int × Int × (List Zq) × Int × Int) := pick fun r => ∀ (b1 : Z8) (ox3 : Own) (zn : Own) (zb : Own) (zB : Own) (zy : Own) (hox3 : okApp ox3 = true) (zu : okApp zb = true) (zP : okApp zB = true) (zJ : okApp zy = true), RRun (Z26 zl zn) (ZaJ 1 (.ptr 0 0) (.ptr 1 0) (.p (.lst ox3 (x3.map ZR))) [(Zj (Zk.mk zl zp z6 zd zh (Zi.mk z1 z2)) zn zb), (Zr b1 zB zy)]) r
theorem Z6M (x3 : List Z8) (zl : List Int) (zp : Int) (z6 : Int) (zd : Int) (zh : List Zq) (z1 : Int) (z2 : Int) (b1 : Z8) (ox3 : Own) (zn : Own) (zb : Own) (zB : Own) (zy : Own) (hox3 : okApp ox3 = true) (zu : okApp zb = true) (zP : okApp zB = true) (zJ : okApp zy = true) : Sim (Z26 zl zn) (Z3e x3 zl zp z6 zd zh z1 z2) (ZaJ 1 (.ptr 0 0) (.ptr 1 0) (.p (.lst ox3 (x3.map ZR))) [(Zj (Zk.mk zl zp z6 zd zh (Zi.mk z1 z2)) zn zb), (Zr b1 zB zy)]) := fun _ h => pick_to h b1 ox3 zn zb zB zy hox3 zu zP zJ
noncomputable def Z1B (b0 : Zk) : Option (Int) := pick fun r => ∀ (zn : Own) (zb : Own) (zu : okApp zb = true), RRun (Z3I b0 zn zb) (EE 41 [(.ptr 0 0)] [(Zj b0 zn zb)]) r
theorem Z1F (b0 : Zk) (zn : Own) (zb : Own) (zu : okApp zb = true) : Sim (Z3I b0 zn zb) (Z1B b0) (EE 41 [(.ptr 0 0)] [(Zj b0 zn zb)]) := fun _ h => pick_to h zn zb zu
noncomputable def Z7p (x0 : List Int) (x1 : Int) : Option (Int × Int) := pick fun r => ∀ (ox0 : Own), RRun (Z4I) (EE 45 [(.p (.lst ox0 (x0.map (eI .u8)))), (iv x1)] []) r
theorem ZaY (x0 : List Int) (x1 : Int) (ox0 : Own) : Sim (Z4I) (Z7p x0 x1) (EE 45 [(.p (.lst ox0 (x0.map (eI .u8)))), (iv x1)] []) := fun _ h => pick_to h ox0
noncomputable def Z5e (x0 : List Int) : Option (Int × Int) := pick fun r => ∀ (ox0 : Own), RRun (Z4a) (EE 53 [(.p (.lst ox0 (x0.map (eI .u8))))] []) r
theorem Z8F (x0 : List Int) (ox0 : Own) : Sim (Z4a) (Z5e x0) (EE 53 [(.p (.lst ox0 (x0.map (eI .u8))))] []) := fun _ h => pick_to h ox0
noncomputable def Z63 (x0 : Int) (x1 : List Z8) : Option (Z8) := pick fun r => ∀ (ox1 : Own), RRun (Z5j) (EE 36 [(iv x0), (.p (.lst ox1 (x1.map ZR)))] []) r
theorem Z99 (x0 : Int) (x1 : List Z8) (ox1 : Own) : Sim (Z5j) (Z63 x0 x1) (EE 36 [(iv x0), (.p (.lst ox1 (x1.map ZR)))] []) := fun _ h => pick_to h ox1
noncomputable def Z5r (zl : List Int) (zp : Int) (z6 : Int) (zd : Int) (zh : List Zq) (z1 : Int) (z2 : Int) : Option (Z8 × Bool × Int × Int × Int × (List Zq) × Int × Int) := pick fun r => ∀ (zn : Own) (zb : Own) (zu : okApp zb = true), RRun (Z3J zl zn) (EE 42 [(.ptr 0 0)] [(Zj (Zk.mk zl zp z6 zd zh (Zi.mk z1 z2)) zn zb)]) r
theorem Zan (zl : List Int) (zp : Int) (z6 : Int) (zd : Int) (zh : List Zq) (z1 : Int) (z2 : Int) (zn : Own) (zb : Own) (zu : okApp zb = true) : Sim (Z3J zl zn) (Z5r zl zp z6 zd zh z1 z2) (EE 42 [(.ptr 0 0)] [(Zj (Zk.mk zl zp z6 zd zh (Zi.mk z1 z2)) zn zb)]) := fun _ h => pick_to h zn zb zu
noncomputable def Z1W (zl : List Int) (zp : Int) : Option (Int × Int) := pick fun r => ∀ (z6 : Int) (zd : Int) (zh : List Zq) (z1 : Int) (z2 : Int) (zn : Own) (zb : Own) (zu : okApp zb = true), RRun (Z4x zl z6 zd zh z1 z2 zn zb) (EE 46 [(.ptr 0 0)] [(Zj (Zk.mk zl zp z6 zd zh (Zi.mk z1 z2)) zn zb)]) r
theorem Z2j (zl : List Int) (zp : Int) (z6 : Int) (zd : Int) (zh : List Zq) (z1 : Int) (z2 : Int) (zn : Own) (zb : Own) (zu : okApp zb = true) : Sim (Z4x zl z6 zd zh z1 z2 zn zb) (Z1W zl zp) (EE 46 [(.ptr 0 0)] [(Zj (Zk.mk zl zp z6 zd zh (Zi.mk z1 z2)) zn zb)]) := fun _ h => pick_to h z6 zd zh z1 z2 zn zb zu
noncomputable def Z1v (x0 : Int) : Option (Z7) := pick fun r => RRun (Z7q) (EE 48 [(iv x0)] []) r
theorem Z1p (x0 : Int) : Sim (Z7q) (Z1v x0) (EE 48 [(iv x0)] []) := fun _ h => pick_to h
noncomputable def Z2u (x0 : Bool) (x1 : List Z7) : Option (Z8) := pick fun r => ∀ (ox1 : Own), RRun (Z6k) (EE 47 [(bv x0), (.p (.lst ox1 (x1.map Zs)))] []) r
theorem Z2E (x0 : Bool) (x1 : List Z7) (ox1 : Own) : Sim (Z6k) (Z2u x0 x1) (EE 47 [(bv x0), (.p (.lst ox1 (x1.map Zs)))] []) := fun _ h => pick_to h ox1
noncomputable def Z8e (x0 : List Z7) : Option ((List Z7) × Int) := pick fun r => ∀ (ox0 : Own), RRun (Z5X) (EE 54 [(.p (.lst ox0 (x0.map Zs)))] []) r
theorem ZcD (x0 : List Z7) (ox0 : Own) : Sim (Z5X) (Z8e x0) (EE 54 [(.p (.lst ox0 (x0.map Zs)))] []) := fun _ h => pick_to h ox0
noncomputable def Z30 (x0 : List Z7) : Option (Bool) := pick fun r => ∀ (ox0 : Own), RRun (Z2y) (EE 65 [(.p (.lst ox0 (x0.map Zs))), (.clo 66 [] [])] []) r
theorem Z7n (x0 : List Z7) (ox0 : Own) : Sim (Z2y) (Z30 x0) (EE 65 [(.p (.lst ox0 (x0.map Zs))), (.clo 66 [] [])] []) := fun _ h => pick_to h ox0
noncomputable def Z3z (x0 : List Z7) : Option (Int) := pick fun r => ∀ (ox0 : Own), RRun (Z1n) (EE 73 [(.p (.lst ox0 (x0.map Zs))), (.clo 66 [] [])] []) r
theorem Z86 (x0 : List Z7) (ox0 : Own) : Sim (Z1n) (Z3z x0) (EE 73 [(.p (.lst ox0 (x0.map Zs))), (.clo 66 [] [])] []) := fun _ h => pick_to h ox0
noncomputable def Z2A (x0 : List Z7) (x7 : Int) (x8 : Int) : Option (Int) := pick fun r => ∀ (ox0 : Own), RRun (Z1n) (ZaG 0 (.p (.lst ox0 (x0.map Zs))) (.clo 66 [] []) (iv x7) (iv x8) []) r
theorem Z57 (x0 : List Z7) (x7 : Int) (x8 : Int) (ox0 : Own) : Sim (Z1n) (Z2A x0 x7 x8) (ZaG 0 (.p (.lst ox0 (x0.map Zs))) (.clo 66 [] []) (iv x7) (iv x8) []) := fun _ h => pick_to h ox0
noncomputable def Z7c (x0 : Z7) : Option (Bool) := pick fun r => RRun (Z5U) (EE 66 [(.p (.agg (ZG x0)))] []) r
theorem Zc4 (x0 : Z7) : Sim (Z5U) (Z7c x0) (EE 66 [(.p (.agg (ZG x0)))] []) := fun _ h => pick_to h
noncomputable def Z4y (x0 : Z7) : Option (Bool) := pick fun r => RRun (Z4z) (EE 67 [(.p (.agg (ZG x0)))] []) r
theorem Z7t (x0 : Z7) : Sim (Z4z) (Z4y x0) (EE 67 [(.p (.agg (ZG x0)))] []) := fun _ h => pick_to h
noncomputable def Z79 (x0 : List Z7) : Option ((List Z7)) := pick fun r => ∀ (ox0 : Own), RRun (Z7b) (EE 68 [(.p (.lst ox0 (x0.map Zs)))] []) r
theorem Z98 (x0 : List Z7) (ox0 : Own) : Sim (Z7b) (Z79 x0) (EE 68 [(.p (.lst ox0 (x0.map Zs)))] []) := fun _ h => pick_to h ox0
noncomputable def Z5A (x0 : List Z7) : Option ((List Z7) × Int) := pick fun r => ∀ (ox0 : Own), RRun (Z55) (EE 55 [(.p (.lst ox0 (x0.map Zs)))] []) r
theorem Z8X (x0 : List Z7) (ox0 : Own) : Sim (Z55) (Z5A x0) (EE 55 [(.p (.lst ox0 (x0.map Zs)))] []) := fun _ h => pick_to h ox0
noncomputable def Z3T (x0 : List Z7) : Option (Bool) := pick fun r => ∀ (ox0 : Own), RRun (Z1J) (EE 69 [(.p (.lst ox0 (x0.map Zs)))] []) r
theorem Z65 (x0 : List Z7) (ox0 : Own) : Sim (Z1J) (Z3T x0) (EE 69 [(.p (.lst ox0 (x0.map Zs)))] []) := fun _ h => pick_to h ox0
noncomputable def Z3R (x3 : Int) (x6 : List Z7) (x7 : Int) (x8 : Int) : Option (Bool) := pick fun r => ∀ (ox6 : Own), RRun (Z1J) (Zbb 0 (iv x3) (.p (.lst ox6 (x6.map Zs))) (iv x7) (iv x8) []) r
theorem Z6J (x3 : Int) (x6 : List Z7) (x7 : Int) (x8 : Int) (ox6 : Own) : Sim (Z1J) (Z3R x3 x6 x7 x8) (Zbb 0 (iv x3) (.p (.lst ox6 (x6.map Zs))) (iv x7) (iv x8) []) := fun _ h => pick_to h ox6
noncomputable def Z6p (x0 : List Z7) : Option ((List Z7)) := pick fun r => ∀ (ox0 : Own), RRun (Z29) (EE 70 [(.p (.lst ox0 (x0.map Zs)))] []) r
theorem ZbC (x0 : List Z7) (ox0 : Own) : Sim (Z29) (Z6p x0) (EE 70 [(.p (.lst ox0 (x0.map Zs)))] []) := fun _ h => pick_to h ox0
noncomputable def Z4T (x3 : List Z7) (x4 : Int) (x7 : List Z7) (x8 : Int) (x9 : Int) : Option ((List Z7)) := pick fun r => ∀ (ox3 : Own) (ox7 : Own) (hox3 : okApp ox3 = true), RRun (Z29) (ZaS 0 (.p (.lst ox3 (x3.map Zs))) (iv x4) (.p (.lst ox7 (x7.map Zs))) (iv x8) (iv x9) []) r
theorem Z80 (x3 : List Z7) (x4 : Int) (x7 : List Z7) (x8 : Int) (x9 : Int) (ox3 : Own) (ox7 : Own) (hox3 : okApp ox3 = true) : Sim (Z29) (Z4T x3 x4 x7 x8 x9) (ZaS 0 (.p (.lst ox3 (x3.map Zs))) (iv x4) (.p (.lst ox7 (x7.map Zs))) (iv x8) (iv x9) []) := fun _ h => pick_to h ox3 ox7 hox3
noncomputable def Z2M (x1 : Int) (zl : List Int) (zp : Int) (z6 : Int) (zd : Int) (zh : List Zq) (z1 : Int) (z2 : Int) : Option (Z8 × Int × (List Zq) × Int × Int) := pick fun r => ∀ (zn : Own) (zb : Own) (zu : okApp zb = true), RRun (Z2s zl z6 zd zn) (EE 49 [(.ptr 0 0), (iv x1)] [(Zj (Zk.mk zl zp z6 zd zh (Zi.mk z1 z2)) zn zb)]) r
theorem Z9D (x1 : Int) (zl : List Int) (zp : Int) (z6 : Int) (zd : Int) (zh : List Zq) (z1 : Int) (z2 : Int) (zn : Own) (zb : Own) (zu : okApp zb = true) : Sim (Z2s zl z6 zd zn) (Z2M x1 zl zp z6 zd zh z1 z2) (EE 49 [(.ptr 0 0), (iv x1)] [(Zj (Zk.mk zl zp z6 zd zh (Zi.mk z1 z2)) zn zb)]) := fun _ h => pick_to h zn zb zu
noncomputable def ZT (x1 : Int) (x2 : Int) (zl : List Int) (z1 : Int) (z2 : Int) : Option (Int × Int × Int) := pick fun r => ∀ (zp : Int) (z6 : Int) (zd : Int) (zh : List Zq) (zn : Own) (zb : Own) (zu : okApp zb = true), RRun (Z3L zl z6 zd zh zn zb) (EE 29 [(.ptr 0 0), (iv x1), (iv x2)] [(Zj (Zk.mk zl zp z6 zd zh (Zi.mk z1 z2)) zn zb)]) r
theorem ZW (x1 : Int) (x2 : Int) (zl : List Int) (zp : Int) (z6 : Int) (zd : Int) (zh : List Zq) (z1 : Int) (z2 : Int) (zn : Own) (zb : Own) (zu : okApp zb = true) : Sim (Z3L zl z6 zd zh zn zb) (ZT x1 x2 zl z1 z2) (EE 29 [(.ptr 0 0), (iv x1), (iv x2)] [(Zj (Zk.mk zl zp z6 zd zh (Zi.mk z1 z2)) zn zb)]) := fun _ h => pick_to h zp z6 zd zh zn zb zu
noncomputable def Z4q (x0 : Int) : Option ((Own × (List Z7))) := pick fun r => RRun (Z4p) (EE 56 [(iv x0)] []) r
theorem Z6c (x0 : Int) : Sim (Z4p) (Z4q x0) (EE 56 [(iv x0)] []) := fun _ h => pick_to h
noncomputable def Z4f (x1 : Int) (x2 : Int) (zl : List Int) (zp : Int) (z6 : Int) (zd : Int) (zh : List Zq) (z1 : Int) (z2 : Int) : Option (Int × Int × Int × Int) := pick fun r => ∀ (zn : Own) (zb : Own) (zu : okApp zb = true), RRun (Z2X zl z6 zd zh zn zb) (EE 57 [(.ptr 0 0), (iv x1), (iv x2)] [(Zj (Zk.mk zl zp z6 zd zh (Zi.mk z1 z2)) zn zb)]) r
theorem Z7i (x1 : Int) (x2 : Int) (zl : List Int) (zp : Int) (z6 : Int) (zd : Int) (zh : List Zq) (z1 : Int) (z2 : Int) (zn : Own) (zb : Own) (zu : okApp zb = true) : Sim (Z2X zl z6 zd zh zn zb) (Z4f x1 x2 zl zp z6 zd zh z1 z2) (EE 57 [(.ptr 0 0), (iv x1), (iv x2)] [(Zj (Zk.mk zl zp z6 zd zh (Zi.mk z1 z2)) zn zb)]) := fun _ h => pick_to h zn zb zu
noncomputable def Z7z (x0 : Int) : Option (Int) := pick fun r => RRun (Z4N) (EE 71 [(iv x0)] []) r
theorem Zb6 (x0 : Int) : Sim (Z4N) (Z7z x0) (EE 71 [(iv x0)] []) := fun _ h => pick_to h
noncomputable def Z4X (x0 : List Z7) (x1 : Int) : Option (Bool) := pick fun r => ∀ (ox0 : Own), RRun (Z5G) (EE 19 [(.p (.lst ox0 (x0.map Zs))), (iv x1)] []) r
theorem Z8Y (x0 : List Z7) (x1 : Int) (ox0 : Own) : Sim (Z5G) (Z4X x0 x1) (EE 19 [(.p (.lst ox0 (x0.map Zs))), (iv x1)] []) := fun _ h => pick_to h ox0
noncomputable def Z2Y (x0 : List Z7) (zZ : Int) : Option (Bool) := pick fun r => ∀ (ox0 : Own), RRun (Z2z zZ) (EE 30 [(.p (.lst ox0 (x0.map Zs))), (.clo 31 [] [(.ptr 0 0)])] [[(iv zZ)]]) r
theorem Z7k (x0 : List Z7) (zZ : Int) (ox0 : Own) : Sim (Z2z zZ) (Z2Y x0 zZ) (EE 30 [(.p (.lst ox0 (x0.map Zs))), (.clo 31 [] [(.ptr 0 0)])] [[(iv zZ)]]) := fun _ h => pick_to h ox0
noncomputable def Z3A (x0 : List Z7) (zZ : Int) : Option (Int) := pick fun r => ∀ (ox0 : Own), RRun (Z1j zZ) (EE 37 [(.p (.lst ox0 (x0.map Zs))), (.clo 31 [] [(.ptr 0 0)])] [[(iv zZ)]]) r
theorem Z84 (x0 : List Z7) (zZ : Int) (ox0 : Own) : Sim (Z1j zZ) (Z3A x0 zZ) (EE 37 [(.p (.lst ox0 (x0.map Zs))), (.clo 31 [] [(.ptr 0 0)])] [[(iv zZ)]]) := fun _ h => pick_to h ox0
noncomputable def Z2B (x0 : List Z7) (x7 : Int) (x8 : Int) (zZ : Int) : Option (Int) := pick fun r => ∀ (ox0 : Own), RRun (Z1j zZ) (ZaP 1 (.p (.lst ox0 (x0.map Zs))) (.clo 31 [] [(.ptr 0 0)]) (iv x7) (iv x8) [[(iv zZ)]]) r
theorem Z59 (x0 : List Z7) (x7 : Int) (x8 : Int) (zZ : Int) (ox0 : Own) : Sim (Z1j zZ) (Z2B x0 x7 x8 zZ) (ZaP 1 (.p (.lst ox0 (x0.map Zs))) (.clo 31 [] [(.ptr 0 0)]) (iv x7) (iv x8) [[(iv zZ)]]) := fun _ h => pick_to h ox0
noncomputable def Z5K (x0 : Z7) (zZ : Int) : Option (Bool) := pick fun r => RRun (Z5a zZ) (EE 31 [(.p (.agg (ZG x0))), (.ptr 0 0)] [[(iv zZ)]]) r
theorem Zbn (x0 : Z7) (zZ : Int) : Sim (Z5a zZ) (Z5K x0 zZ) (EE 31 [(.p (.agg (ZG x0))), (.ptr 0 0)] [[(iv zZ)]]) := fun _ h => pick_to h
noncomputable def Z5h (x1 : Int) (zl : List Int) (zp : Int) (z6 : Int) (zd : Int) (zh : List Zq) (z1 : Int) (z2 : Int) : Option (Z8 × Int × Int × Int) := pick fun r => ∀ (zn : Own) (zb : Own) (zu : okApp zb = true), RRun (Z18 zl z6 zd zh zn zb) (EE 50 [(.ptr 0 0), (iv x1)] [(Zj (Zk.mk zl zp z6 zd zh (Zi.mk z1 z2)) zn zb)]) r
theorem Za0 (x1 : Int) (zl : List Int) (zp : Int) (z6 : Int) (zd : Int) (zh : List Zq) (z1 : Int) (z2 : Int) (zn : Own) (zb : Own) (zu : okApp zb = true) : Sim (Z18 zl z6 zd zh zn zb) (Z5h x1 zl zp z6 zd zh z1 z2) (EE 50 [(.ptr 0 0), (iv x1)] [(Zj (Zk.mk zl zp z6 zd zh (Zi.mk z1 z2)) zn zb)]) := fun _ h => pick_to h zn zb zu
noncomputable def Z2C (x1 : Int) (x5 : Bool) (x8 : Int) (zl : List Int) (zp : Int) (z6 : Int) (zd : Int) (zh : List Zq) (z1 : Int) (z2 : Int) (z11 : List Z7) : Option (Z8 × Int × Int × Int) := pick fun r => ∀ (b1 : Z8) (zn : Own) (zb : Own) (zB : Own) (zy : Own) (z1c : Own) (zu : okApp zb = true) (zP : okApp zB = true) (zJ : okApp zy = true), RRun (Z18 zl z6 zd zh zn zb) (ZaR 1 (.ptr 0 0) (iv x1) (.ptr 1 0) (bv x5) (.ptr 2 0) (.clo 58 [] [(.ptr 2 0)]) (iv x8) [(Zj (Zk.mk zl zp z6 zd zh (Zi.mk z1 z2)) zn zb), (Zr b1 zB zy), [(.p (.lst z1c (z11.map Zs)))]]) r
theorem Z6i (x1 : Int) (x5 : Bool) (x8 : Int) (zl : List Int) (zp : Int) (z6 : Int) (zd : Int) (zh : List Zq) (z1 : Int) (z2 : Int) (b1 : Z8) (z11 : List Z7) (zn : Own) (zb : Own) (zB : Own) (zy : Own) (z1c : Own) (zu : okApp zb = true) (zP : okApp zB = true) (zJ : okApp zy = true) : Sim (Z18 zl z6 zd zh zn zb) (Z2C x1 x5 x8 zl zp z6 zd zh z1 z2 z11) (ZaR 1 (.ptr 0 0) (iv x1) (.ptr 1 0) (bv x5) (.ptr 2 0) (.clo 58 [] [(.ptr 2 0)]) (iv x8) [(Zj (Zk.mk zl zp z6 zd zh (Zi.mk z1 z2)) zn zb), (Zr b1 zB zy), [(.p (.lst z1c (z11.map Zs)))]]) := fun _ h => pick_to h b1 zn zb zB zy z1c zu zP zJ
noncomputable def Z3f (zl : List Int) (zp : Int) (z6 : Int) (zd : Int) (zh : List Zq) (z1 : Int) (z2 : Int) : Option (Int × (Own × (List Z7)) × Bool × Int × Int × Int) := pick fun r => ∀ (zn : Own) (zb : Own) (zu : okApp zb = true), RRun (Z2q zl z6 zd zh zn zb) (EE 60 [(.ptr 0 0)] [(Zj (Zk.mk zl zp z6 zd zh (Zi.mk z1 z2)) zn zb)]) r
theorem Z6O (zl : List Int) (zp : Int) (z6 : Int) (zd : Int) (zh : List Zq) (z1 : Int) (z2 : Int) (zn : Own) (zb : Own) (zu : okApp zb = true) : Sim (Z2q zl z6 zd zh zn zb) (Z3f zl zp z6 zd zh z1 z2) (EE 60 [(.ptr 0 0)] [(Zj (Zk.mk zl zp z6 zd zh (Zi.mk z1 z2)) zn zb)]) := fun _ h => pick_to h zn zb zu
noncomputable def Z3O (x0 : List Z7) (zZ : List Z7) : Option ((List Z7)) := pick fun r => ∀ (ox0 : Own) (z8L : Own), RRun (Z3M) (EE 58 [(.p (.lst ox0 (x0.map Zs))), (.ptr 0 0)] [[(.p (.lst z8L (zZ.map Zs)))]]) r
theorem Z6q (x0 : List Z7) (zZ : List Z7) (ox0 : Own) (z8L : Own) : Sim (Z3M) (Z3O x0 zZ) (EE 58 [(.p (.lst ox0 (x0.map Zs))), (.ptr 0 0)] [[(.p (.lst z8L (zZ.map Zs)))]]) := fun _ h => pick_to h ox0 z8L
noncomputable def Z75 (x0 : List Z7) (x1 : List Z7) : Option ((List Z7) × Int) := pick fun r => ∀ (ox0 : Own) (ox1 : Own), RRun (Z4B) (EE 59 [(.p (.lst ox0 (x0.map Zs))), (.p (.lst ox1 (x1.map Zs)))] []) r
theorem Zc2 (x0 : List Z7) (x1 : List Z7) (ox0 : Own) (ox1 : Own) : Sim (Z4B) (Z75 x0 x1) (EE 59 [(.p (.lst ox0 (x0.map Zs))), (.p (.lst ox1 (x1.map Zs)))] []) := fun _ h => pick_to h ox0 ox1
noncomputable def Z5Z (x0 : List (List Z7)) : Option ((List Z7)) := pick fun r => ∀ (ox0 : Own), RRun (Z51) (EE 72 [(.p (.lst ox0 (x0.map (eL Zs))))] []) r
theorem Z9M (x0 : List (List Z7)) (ox0 : Own) : Sim (Z51) (Z5Z x0) (EE 72 [(.p (.lst ox0 (x0.map (eL Zs))))] []) := fun _ h => pick_to h ox0
noncomputable def Z2T (x1 : Int) (zl : List Int) (zp : Int) (z6 : Int) (zd : Int) (zh : List Zq) (z1 : Int) (z2 : Int) : Option (Z8 × Bool × Int × Int × Int × (List Zq) × Int × Int) := pick fun r => ∀ (zn : Own) (zb : Own) (zu : okApp zb = true), RRun (Z23 zl zn) (EE 51 [(.ptr 0 0), (iv x1)] [(Zj (Zk.mk zl zp z6 zd zh (Zi.mk z1 z2)) zn zb)]) r
theorem Za7 (x1 : Int) (zl : List Int) (zp : Int) (z6 : Int) (zd : Int) (zh : List Zq) (z1 : Int) (z2 : Int) (zn : Own) (zb : Own) (zu : okApp zb = true) : Sim (Z23 zl zn) (Z2T x1 zl zp z6 zd zh z1 z2) (EE 51 [(.ptr 0 0), (iv x1)] [(Zj (Zk.mk zl zp z6 zd zh (Zi.mk z1 z2)) zn zb)]) := fun _ h => pick_to h zn zb zu
noncomputable def Z7F  : Option ((List ByteArray)) := pick fun r => RRun (Z6j) (EE 62 [] []) r
theorem Zcf  : Sim (Z6j) (Z7F) (EE 62 [] []) := fun _ h => pick_to h
noncomputable def Z3k (x0 : List ByteArray) (zl : List Int) (zp : Int) : Option (Int × Int) := pick fun r => ∀ (z6 : Int) (zd : Int) (zh : List Zq) (z1 : Int) (z2 : Int) (ox0 : Own) (zn : Own) (zb : Own) (zu : okApp zb = true), RRun (Z1g zl z6 zd zh z1 z2 zn zb) (EE 61 [(.p (.lst ox0 (x0.map eS))), (.clo 27 [(.ptr 0 0)] [])] [(Zj (Zk.mk zl zp z6 zd zh (Zi.mk z1 z2)) zn zb)]) r
theorem Z7Q (x0 : List ByteArray) (zl : List Int) (zp : Int) (z6 : Int) (zd : Int) (zh : List Zq) (z1 : Int) (z2 : Int) (ox0 : Own) (zn : Own) (zb : Own) (zu : okApp zb = true) : Sim (Z1g zl z6 zd zh z1 z2 zn zb) (Z3k x0 zl zp) (EE 61 [(.p (.lst ox0 (x0.map eS))), (.clo 27 [(.ptr 0 0)] [])] [(Zj (Zk.mk zl zp z6 zd zh (Zi.mk z1 z2)) zn zb)]) := fun _ h => pick_to h z6 zd zh z1 z2 ox0 zn zb zu
noncomputable def Z1q (x0 : List ByteArray) (x7 : Int) (x8 : Int) (zl : List Int) (zp : Int) : Option (Int × Int) := pick fun r => ∀ (z6 : Int) (zd : Int) (zh : List Zq) (z1 : Int) (z2 : Int) (ox0 : Own) (zn : Own) (zb : Own) (zu : okApp zb = true), RRun (Z1g zl z6 zd zh z1 z2 zn zb) (Zb2 1 (.p (.lst ox0 (x0.map eS))) (.clo 27 [(.ptr 0 0)] []) (iv x7) (iv x8) [(Zj (Zk.mk zl zp z6 zd zh (Zi.mk z1 z2)) zn zb)]) r
theorem Z56 (x0 : List ByteArray) (x7 : Int) (x8 : Int) (zl : List Int) (zp : Int) (z6 : Int) (zd : Int) (zh : List Zq) (z1 : Int) (z2 : Int) (ox0 : Own) (zn : Own) (zb : Own) (zu : okApp zb = true) : Sim (Z1g zl z6 zd zh z1 z2 zn zb) (Z1q x0 x7 x8 zl zp) (Zb2 1 (.p (.lst ox0 (x0.map eS))) (.clo 27 [(.ptr 0 0)] []) (iv x7) (iv x8) [(Zj (Zk.mk zl zp z6 zd zh (Zi.mk z1 z2)) zn zb)]) := fun _ h => pick_to h z6 zd zh z1 z2 ox0 zn zb zu
noncomputable def Z3Y (x1 : Z8) (x2 : Bool) (zl : List Int) (zp : Int) (z6 : Int) (zd : Int) (zh : List Zq) (z1 : Int) (z2 : Int) : Option (Z8 × Int × Int × Int) := pick fun r => ∀ (z20 : Own) (z1H : Own) (zn : Own) (zb : Own) (zu : okApp zb = true), RRun (Z2r zl z6 zd zh zn zb) (EE 43 [(.ptr 0 0), (.p (.agg (ZE x1 z20 z1H))), (bv x2)] [(Zj (Zk.mk zl zp z6 zd zh (Zi.mk z1 z2)) zn zb)]) r
theorem Z9E (x1 : Z8) (x2 : Bool) (zl : List Int) (zp : Int) (z6 : Int) (zd : Int) (zh : List Zq) (z1 : Int) (z2 : Int) (z20 : Own) (z1H : Own) (zn : Own) (zb : Own) (zu : okApp zb = true) : Sim (Z2r zl z6 zd zh zn zb) (Z3Y x1 x2 zl zp z6 zd zh z1 z2) (EE 43 [(.ptr 0 0), (.p (.agg (ZE x1 z20 z1H))), (bv x2)] [(Zj (Zk.mk zl zp z6 zd zh (Zi.mk z1 z2)) zn zb)]) := fun _ h => pick_to h z20 z1H zn zb zu
noncomputable def Z3Z (x1 : Int) (zl : List Int) (zp : Int) (z6 : Int) (zd : Int) (zh : List Zq) (z1 : Int) (z2 : Int) : Option (Int × Int × Int × Int × Int) := pick fun r => ∀ (zn : Own) (zb : Own) (zu : okApp zb = true), RRun (Z1K zl z6 zd zh zn zb) (EE 52 [(.ptr 0 0), (iv x1)] [(Zj (Zk.mk zl zp z6 zd zh (Zi.mk z1 z2)) zn zb)]) r
theorem Z9L (x1 : Int) (zl : List Int) (zp : Int) (z6 : Int) (zd : Int) (zh : List Zq) (z1 : Int) (z2 : Int) (zn : Own) (zb : Own) (zu : okApp zb = true) : Sim (Z1K zl z6 zd zh zn zb) (Z3Z x1 zl zp z6 zd zh z1 z2) (EE 52 [(.ptr 0 0), (iv x1)] [(Zj (Zk.mk zl zp z6 zd zh (Zi.mk z1 z2)) zn zb)]) := fun _ h => pick_to h zn zb zu
noncomputable def Z3h (zl : List Int) (zp : Int) (z6 : Int) (zd : Int) (zh : List Zq) (z1 : Int) (z2 : Int) : Option (Int × Int) := pick fun r => ∀ (zn : Own) (zb : Own) (zu : okApp zb = true), RRun (Z1U zl z6 zd zh z1 z2 zn zb) (EE 63 [(.ptr 0 0)] [(Zj (Zk.mk zl zp z6 zd zh (Zi.mk z1 z2)) zn zb)]) r
theorem Z6y (zl : List Int) (zp : Int) (z6 : Int) (zd : Int) (zh : List Zq) (z1 : Int) (z2 : Int) (zn : Own) (zb : Own) (zu : okApp zb = true) : Sim (Z1U zl z6 zd zh z1 z2 zn zb) (Z3h zl zp z6 zd zh z1 z2) (EE 63 [(.ptr 0 0)] [(Zj (Zk.mk zl zp z6 zd zh (Zi.mk z1 z2)) zn zb)]) := fun _ h => pick_to h zn zb zu
noncomputable def Z2n (x3 : Int) (x4 : Int) (zl : List Int) (zp : Int) (z6 : Int) (zd : Int) (zh : List Zq) (z1 : Int) (z2 : Int) : Option (Int × Int) := pick fun r => ∀ (zn : Own) (zb : Own) (zu : okApp zb = true), RRun (Z1U zl z6 zd zh z1 z2 zn zb) (Zb0 1 (.ptr 0 0) (iv x3) (iv x4) [(Zj (Zk.mk zl zp z6 zd zh (Zi.mk z1 z2)) zn zb)]) r
theorem Z66 (x3 : Int) (x4 : Int) (zl : List Int) (zp : Int) (z6 : Int) (zd : Int) (zh : List Zq) (z1 : Int) (z2 : Int) (zn : Own) (zb : Own) (zu : okApp zb = true) : Sim (Z1U zl z6 zd zh z1 z2 zn zb) (Z2n x3 x4 zl zp z6 zd zh z1 z2) (Zb0 1 (.ptr 0 0) (iv x3) (iv x4) [(Zj (Zk.mk zl zp z6 zd zh (Zi.mk z1 z2)) zn zb)]) := fun _ h => pick_to h zn zb zu
noncomputable def Z3i (x3 : List Z8) (zl : List Int) (zp : Int) (z6 : Int) (zd : Int) (zh : List Zq) (z1 : Int) (z2 : Int) : Option (Z8 × Int × Int × Int × (List Zq) × Int × Int) := pick fun r => ∀ (b1 : Z8) (ox3 : Own) (zn : Own) (zb : Own) (zB : Own) (zy : Own) (hox3 : okApp ox3 = true) (zu : okApp zb = true) (zP : okApp zB = true) (zJ : okApp zy = true), RRun (Z2h zl zn) (ZaX 1 (.ptr 0 0) (.ptr 1 0) (.p (.lst ox3 (x3.map ZR))) [(Zj (Zk.mk zl zp z6 zd zh (Zi.mk z1 z2)) zn zb), (Zr b1 zB zy)]) r
theorem Z6x (x3 : List Z8) (zl : List Int) (zp : Int) (z6 : Int) (zd : Int) (zh : List Zq) (z1 : Int) (z2 : Int) (b1 : Z8) (ox3 : Own) (zn : Own) (zb : Own) (zB : Own) (zy : Own) (hox3 : okApp ox3 = true) (zu : okApp zb = true) (zP : okApp zB = true) (zJ : okApp zy = true) : Sim (Z2h zl zn) (Z3i x3 zl zp z6 zd zh z1 z2) (ZaX 1 (.ptr 0 0) (.ptr 1 0) (.p (.lst ox3 (x3.map ZR))) [(Zj (Zk.mk zl zp z6 zd zh (Zi.mk z1 z2)) zn zb), (Zr b1 zB zy)]) := fun _ h => pick_to h b1 ox3 zn zb zB zy hox3 zu zP zJ
noncomputable def Z4C (x50 : List Zq) (x51 : Int) (x52 : Int) (z1O : List Int) (zQ : Int) (zI : Int) (zS : Int) (zK : Int) (zU : Int) (zV : Int) (zM : Int) (zO : Int) (zN : List Z7) (zL : List Z8) (z13 : Bool) : Option (ZD × Zi) := pick fun r => ∀ (b0 : ZD) (b1 : Zi) (z1G : Int) (z1w : Int) (z1d : List Zq) (z1o : Int) (ox50 : Own) (zH : Own) (zF : Own) (z28 : Own) (z17 : Own) (z10 : Own) (zX : Own) (z1r : okApp zH = true) (z1l : okApp zF = true) (z2g : okApp z17 = true), RRun (Z2b) (ZaH 0 (.ptr 0 0) (.ptr 1 0) (.ptr 2 0) (.ptr 3 0) (.p (.lst ox50 (x50.map Z1y))) (iv x51) (iv x52) [(Zv b0 zH zF), (ZC b1), (Zj (Zk.mk z1O z1G zQ z1w z1d (Zi.mk zI zS)) z28 z17), (Zv (ZD.mk (Z8.mk zK zU zV zM zO zN zL) z1o z13) z10 zX)]) r
theorem Z8q (x50 : List Zq) (x51 : Int) (x52 : Int) (b0 : ZD) (b1 : Zi) (z1O : List Int) (z1G : Int) (zQ : Int) (z1w : Int) (z1d : List Zq) (zI : Int) (zS : Int) (zK : Int) (zU : Int) (zV : Int) (zM : Int) (zO : Int) (zN : List Z7) (zL : List Z8) (z1o : Int) (z13 : Bool) (ox50 : Own) (zH : Own) (zF : Own) (z28 : Own) (z17 : Own) (z10 : Own) (zX : Own) (z1r : okApp zH = true) (z1l : okApp zF = true) (z2g : okApp z17 = true) : Sim (Z2b) (Z4C x50 x51 x52 z1O zQ zI zS zK zU zV zM zO zN zL z13) (ZaH 0 (.ptr 0 0) (.ptr 1 0) (.ptr 2 0) (.ptr 3 0) (.p (.lst ox50 (x50.map Z1y))) (iv x51) (iv x52) [(Zv b0 zH zF), (ZC b1), (Zj (Zk.mk z1O z1G zQ z1w z1d (Zi.mk zI zS)) z28 z17), (Zv (ZD.mk (Z8.mk zK zU zV zM zO zN zL) z1o z13) z10 zX)]) := fun _ h => pick_to h b0 b1 z1G z1w z1d z1o ox50 zH zF z28 z17 z10 zX z1r z1l z2g
noncomputable def Z5L (x0 : Int) : Option (Bool) := pick fun r => RRun (Z58) (EE 18 [(iv x0)] []) r
theorem Zbo (x0 : Int) : Sim (Z58) (Z5L x0) (EE 18 [(iv x0)] []) := fun _ h => pick_to h
noncomputable def Z6e (x0 : Int) : Option ((List Int)) := pick fun r => RRun (Z4r) (EE 20 [(iv x0)] []) r
theorem Z9S (x0 : Int) : Sim (Z4r) (Z6e x0) (EE 20 [(iv x0)] []) := fun _ h => pick_to h
noncomputable def Z4A (x0 : Int) : Option (ByteArray) := pick fun r => RRun (Z4u) (EE 21 [(iv x0)] []) r
theorem Z7u (x0 : Int) : Sim (Z4u) (Z4A x0) (EE 21 [(iv x0)] []) := fun _ h => pick_to h
noncomputable def Z3N (x0 : List Z7) (x1 : List Z7) : Option (Bool) := pick fun r => ∀ (ox0 : Own) (ox1 : Own), RRun (Z1z) (EE 22 [(.p (.lst ox0 (x0.map Zs))), (.p (.lst ox1 (x1.map Zs)))] []) r
theorem Z9r (x0 : List Z7) (x1 : List Z7) (ox0 : Own) (ox1 : Own) : Sim (Z1z) (Z3N x0 x1) (EE 22 [(.p (.lst ox0 (x0.map Zs))), (.p (.lst ox1 (x1.map Zs)))] []) := fun _ h => pick_to h ox0 ox1
noncomputable def Z45 (x1 : List Z7) (x12 : List Z7) (x13 : Int) (x14 : Int) : Option (Bool) := pick fun r => ∀ (ox1 : Own) (ox12 : Own), RRun (Z1z) (ZaC 0 (.p (.lst ox1 (x1.map Zs))) (.p (.lst ox12 (x12.map Zs))) (iv x13) (iv x14) []) r
theorem Z61 (x1 : List Z7) (x12 : List Z7) (x13 : Int) (x14 : Int) (ox1 : Own) (ox12 : Own) : Sim (Z1z) (Z45 x1 x12 x13 x14) (ZaC 0 (.p (.lst ox1 (x1.map Zs))) (.p (.lst ox12 (x12.map Zs))) (iv x13) (iv x14) []) := fun _ h => pick_to h ox1 ox12
end Go.Proofs.YtadodmjdkphddaaDoor.N2
end
