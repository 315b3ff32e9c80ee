/- The functions, read typed: their types, and what they stand for. No condition. -/
import Derived.Test.YtadodmjdkphddaaDoorSim
import Derived.Test.YtadodmjdkphddaaDoorEqs

section
set_option linter.unusedSimpArgs false
set_option linter.unusedVariables false
namespace Go.Proofs.YtadodmjdkphddaaDoor.N2
open Go Go.Abs
set_option linter.unusedVariables false
set_option maxRecDepth 100000
structure Z8 where
 Lo : Int
 Hi : Int
 deriving Inhabited
def Z57 (a : Z8) : List PV := [(eI .i64) a.Lo, (eI .i64) a.Hi]
def Zv (a : Z8) : PV := .agg (Z57 a)
def ZF (a : Z8) : List PV := [(eI .i64) a.Lo, (eI .i64) a.Hi]
def Z1B (a : Z8) : Row := [.p ((eI .i64) a.Lo), .p ((eI .i64) a.Hi)]
theorem Z9X {a b : Z8} (h : Z57 a = Z57 b) : a = b := by
 have h0 : a.Lo = b.Lo := eI_inj _ _ (congrArg (fun l => l.getD 0 .junk) h)
 have h1 : a.Hi = b.Hi := eI_inj _ _ (congrArg (fun l => l.getD 1 .junk) h)
 cases a; cases b
 cases h0
 cases h1
 rfl
theorem Z2w (a b : Z8) (h : Zv a = Zv b) : a = b := Z9X (congrArg pC h)
structure Z3 where
 Kind : Int
 Lo : Int
 Hi : Int
 Mode : Int
 Ref : Int
 Set : (List Z8)
 Kids : (List Z3)
instance : Inhabited Z3 := ⟨⟨default, default, default, default, default, default, default⟩⟩
mutual
def ZD : Z3 → PV
 | ⟨Kind_, Lo_, Hi_, Mode_, Ref_, Set_, Kids_⟩ => .agg [(eI .i64) Kind_, (eI .i64) Lo_, (eI .i64) Hi_, (eI .i64) Mode_, (eI .i64) Ref_, (eL Zv) Set_, .lst .sh (Z42 Kids_)]
def Z42 : List Z3 → List PV
 | [] => []
 | x :: r => ZD x :: Z42 r
end
theorem Zaj : ∀ l, Z42 l = l.map ZD
 | [] => rfl
 | x :: r => by rw [Z42, Zaj r]; rfl
def Z1T (a : Z3) : List PV := [(eI .i64) a.Kind, (eI .i64) a.Lo, (eI .i64) a.Hi, (eI .i64) a.Mode, (eI .i64) a.Ref, (eL Zv) a.Set, (eL ZD) a.Kids]
theorem Z3d (a : Z3) : ZD a = .agg (Z1T a) := by
 cases a; rw [ZD, Zaj]; rfl
theorem Z3R (a : Z3) : pcells (ZD a) = Z1T a := by rw [Z3d]; rfl
theorem ZbW (a : Z3) : (pcells (ZD a)).length = 7 := by rw [Z3d]; rfl
def Zz (a : Z3) (o0 o1 : Own) : List PV := [(eI .i64) a.Kind, (eI .i64) a.Lo, (eI .i64) a.Hi, (eI .i64) a.Mode, (eI .i64) a.Ref, .lst o0 (a.Set.map Zv), .lst o1 (a.Kids.map ZD)]
def Zo (a : Z3) (o0 o1 : Own) : Row := [.p ((eI .i64) a.Kind), .p ((eI .i64) a.Lo), .p ((eI .i64) a.Hi), .p ((eI .i64) a.Mode), .p ((eI .i64) a.Ref), .p (.lst o0 (a.Set.map Zv)), .p (.lst o1 (a.Kids.map ZD))]
mutual
theorem Zai : ∀ a b : Z3, ZD a = ZD b → a = b
 | ⟨Kind_, Lo_, Hi_, Mode_, Ref_, Set_, Kids_⟩, ⟨Kind_2, Lo_2, Hi_2, Mode_2, Ref_2, Set_2, Kids_2⟩, h => by
  rw [ZD, ZD] at h
  have h0 : Kind_ = Kind_2 := eI_inj _ _ (congrArg (fun l => (pC l).getD 0 .junk) h)
  have h1 : Lo_ = Lo_2 := eI_inj _ _ (congrArg (fun l => (pC l).getD 1 .junk) h)
  have h2 : Hi_ = Hi_2 := eI_inj _ _ (congrArg (fun l => (pC l).getD 2 .junk) h)
  have h3 : Mode_ = Mode_2 := eI_inj _ _ (congrArg (fun l => (pC l).getD 3 .junk) h)
  have h4 : Ref_ = Ref_2 := eI_inj _ _ (congrArg (fun l => (pC l).getD 4 .junk) h)
  have h5 : Set_ = Set_2 := (eL_inj Z2w) _ _ (congrArg (fun l => (pC l).getD 5 .junk) h)
  have h6 : Kids_ = Kids_2 := Z9U Kids_ Kids_2 (congrArg (fun l => pL ((pC l).getD 6 .junk)) h)
  subst h0
  subst h1
  subst h2
  subst h3
  subst h4
  subst h5
  subst h6
  rfl
theorem Z9U : ∀ a b : List Z3, Z42 a = Z42 b → a = b
 | [], [], _ => rfl
 | [], _ :: _, h => by simp [Z42] at h
 | _ :: _, [], h => by simp [Z42] at h
 | x :: r, y :: t, h => by
  simp only [Z42, List.cons.injEq] at h
  rw [Zai x y h.1, Z9U r t h.2]
end
theorem Z2H {a b : Z3} (h : Z1T a = Z1T b) : a = b := Zai a b (by rw [Z3d, Z3d, h])
structure ZC where
 Root : Z3
 Groups : Int
 Fold : Bool
 deriving Inhabited
def Z8H (a : ZC) : List PV := [(eI .i64) a.Root.Kind, (eI .i64) a.Root.Lo, (eI .i64) a.Root.Hi, (eI .i64) a.Root.Mode, (eI .i64) a.Root.Ref, (eL Zv) a.Root.Set, (eL ZD) a.Root.Kids, (eI .i64) a.Groups, eB a.Fold]
def ZaP (a : ZC) : PV := .agg (Z8H a)
def Z1j (a : ZC) (o0 o1 : Own) : List PV := [(eI .i64) a.Root.Kind, (eI .i64) a.Root.Lo, (eI .i64) a.Root.Hi, (eI .i64) a.Root.Mode, (eI .i64) a.Root.Ref, .lst o0 (a.Root.Set.map Zv), .lst o1 (a.Root.Kids.map ZD), (eI .i64) a.Groups, eB a.Fold]
def Zw (a : ZC) (o0 o1 : Own) : Row := [.p ((eI .i64) a.Root.Kind), .p ((eI .i64) a.Root.Lo), .p ((eI .i64) a.Root.Hi), .p ((eI .i64) a.Root.Mode), .p ((eI .i64) a.Root.Ref), .p (.lst o0 (a.Root.Set.map Zv)), .p (.lst o1 (a.Root.Kids.map ZD)), .p ((eI .i64) a.Groups), .p (eB a.Fold)]
theorem Z99 {a b : ZC} (h : Z8H a = Z8H b) : a = b := by
 have h0 : a.Root = b.Root := Z2H (congrArg (fun l => (l.drop 0).take 7) h)
 have h1 : a.Groups = b.Groups := eI_inj _ _ (congrArg (fun l => l.getD 7 .junk) h)
 have h2 : a.Fold = b.Fold := eB_inj _ _ (congrArg (fun l => l.getD 8 .junk) h)
 cases a; cases b
 cases h0
 cases h1
 cases h2
 rfl
theorem Zhq (a b : ZC) (h : ZaP a = ZaP b) : a = b := Z99 (congrArg pC h)
structure Zj where
 Code : Int
 At : Int
 deriving Inhabited
def Z9H (a : Zj) : List PV := [(eI .i64) a.Code, (eI .i64) a.At]
def ZbT (a : Zj) : PV := .agg (Z9H a)
def Z1Y (a : Zj) : List PV := [(eI .i64) a.Code, (eI .i64) a.At]
def ZE (a : Zj) : Row := [.p ((eI .i64) a.Code), .p ((eI .i64) a.At)]
theorem Z7q {a b : Zj} (h : Z9H a = Z9H b) : a = b := by
 have h0 : a.Code = b.Code := eI_inj _ _ (congrArg (fun l => l.getD 0 .junk) h)
 have h1 : a.At = b.At := eI_inj _ _ (congrArg (fun l => l.getD 1 .junk) h)
 cases a; cases b
 cases h0
 cases h1
 rfl
theorem ZiH (a b : Zj) (h : ZbT a = ZbT b) : a = b := Z7q (congrArg pC h)
structure Zq where
 group : Int
 at_ : Int
 deriving Inhabited
def Z70 (a : Zq) : List PV := [(eI .i64) a.group, (eI .i64) a.at_]
def Z1E (a : Zq) : PV := .agg (Z70 a)
def Z8P (a : Zq) : List PV := [(eI .i64) a.group, (eI .i64) a.at_]
def Z8M (a : Zq) : Row := [.p ((eI .i64) a.group), .p ((eI .i64) a.at_)]
theorem Zcr {a b : Zq} (h : Z70 a = Z70 b) : a = b := by
 have h0 : a.group = b.group := eI_inj _ _ (congrArg (fun l => l.getD 0 .junk) h)
 have h1 : a.at_ = b.at_ := eI_inj _ _ (congrArg (fun l => l.getD 1 .junk) h)
 cases a; cases b
 cases h0
 cases h1
 rfl
theorem Z3X (a b : Zq) (h : Z1E a = Z1E b) : a = b := Zcr (congrArg pC h)
structure Zk where
 b : (List Int)
 at_ : Int
 groups : Int
 deep : Int
 refs : (List Zq)
 fault : Zj
 deriving Inhabited
def Z9i (a : Zk) : List PV := [(eL (eI .u8)) a.b, (eI .i64) a.at_, (eI .i64) a.groups, (eI .i64) a.deep, (eL Z1E) a.refs, (eI .i64) a.fault.Code, (eI .i64) a.fault.At]
def Zbl (a : Zk) : PV := .agg (Z9i a)
def Zei (a : Zk) (o0 o1 : Own) : List PV := [.lst o0 (a.b.map (eI .u8)), (eI .i64) a.at_, (eI .i64) a.groups, (eI .i64) a.deep, .lst o1 (a.refs.map Z1E), (eI .i64) a.fault.Code, (eI .i64) a.fault.At]
def Zi (a : Zk) (o0 o1 : Own) : Row := [.p (.lst o0 (a.b.map (eI .u8))), .p ((eI .i64) a.at_), .p ((eI .i64) a.groups), .p ((eI .i64) a.deep), .p (.lst o1 (a.refs.map Z1E)), .p ((eI .i64) a.fault.Code), .p ((eI .i64) a.fault.At)]
theorem ZcI {a b : Zk} (h : Z9i a = Z9i b) : a = b := by
 have h0 : a.b = b.b := (eL_inj eI_inj) _ _ (congrArg (fun l => l.getD 0 .junk) h)
 have h1 : a.at_ = b.at_ := eI_inj _ _ (congrArg (fun l => l.getD 1 .junk) h)
 have h2 : a.groups = b.groups := eI_inj _ _ (congrArg (fun l => l.getD 2 .junk) h)
 have h3 : a.deep = b.deep := eI_inj _ _ (congrArg (fun l => l.getD 3 .junk) h)
 have h4 : a.refs = b.refs := (eL_inj Z3X) _ _ (congrArg (fun l => l.getD 4 .junk) h)
 have h5 : a.fault = b.fault := Z7q (congrArg (fun l => (l.drop 5).take 2) h)
 cases a; cases b
 cases h0
 cases h1
 cases h2
 cases h3
 cases h4
 cases h5
 rfl
theorem Zhz (a b : Zk) (h : Zbl a = Zbl b) : a = b := ZcI (congrArg pC h)
end Go.Proofs.YtadodmjdkphddaaDoor.N2
end
section
set_option linter.unusedSimpArgs false
set_option linter.unusedVariables false
namespace Go.Proofs.YtadodmjdkphddaaDoor.N2
open Go Go.Abs
set_option linter.unusedVariables false
set_option maxRecDepth 100000
abbrev Z3r (zl : List Int) (z7 : Int) (zd : Int) (zh : List Zq) (z2 : Int) (z6 : Int) (zn : Own) (zb : Own) : (Bool × Int) → Res → Prop := fun r q => ∃ (ex : List Row), q = ((bv r.1), [(Zi (Zk.mk zl r.2 z7 zd zh (Zj.mk z2 z6)) zn zb)] ++ ex)
theorem Zch (zl : List Int) (z7 : Int) (zd : Int) (zh : List Zq) (z2 : Int) (z6 : Int) (zn : Own) (zb : Own) : ∀ a b q, Z3r zl z7 zd zh z2 z6 zn zb a q → Z3r zl z7 zd zh z2 z6 zn zb b q → a = b := by
 rintro a b q ⟨_, e1⟩ ⟨_, e2⟩
 have e := e1.symm.trans e2
 exact Prod.ext (congrArg (fun q : Res => pB (pA q.1)) e) (congrArg (fun q : Res => pI (pA (cellAt q 0 1))) e)
abbrev Z4E  : (Int × Int) → Res → Prop := fun r q => ∃ (ex : List Row), q = ((.p (.tup [(.v (.int .i32 r.1)), (.v (.int .i64 r.2))])), ex)
theorem Za3  : ∀ a b q, Z4E  a q → Z4E  b q → a = b := by
 rintro a b q ⟨_, e1⟩ ⟨_, e2⟩
 have e := e1.symm.trans e2
 exact Prod.ext (congrArg (fun q : Res => pI ((pT (pA q.1)).getD 0 .junk)) e) (congrArg (fun q : Res => pI ((pT (pA q.1)).getD 1 .junk)) e)
abbrev Z5j  : (Int × Int) → Res → Prop := fun r q => ∃ (ex : List Row), q = ((.p (.tup [(.v (.int .i64 r.1)), (.v (.int .i64 r.2))])), ex)
theorem Zf2  : ∀ a b q, Z5j  a q → Z5j  b q → a = b := by
 rintro a b q ⟨_, e1⟩ ⟨_, e2⟩
 have e := e1.symm.trans e2
 exact Prod.ext (congrArg (fun q : Res => pI ((pT (pA q.1)).getD 0 .junk)) e) (congrArg (fun q : Res => pI ((pT (pA q.1)).getD 1 .junk)) e)
abbrev Z4g (b0 : Zk) (zn : Own) (zb : Own) : (Int) → Res → Prop := fun r q => ∃ (ex : List Row), q = ((iv r), [(Zi b0 zn zb)] ++ ex)
theorem Zcq (b0 : Zk) (zn : Own) (zb : Own) : ∀ a b q, Z4g b0 zn zb a q → Z4g b0 zn zb b q → a = b := by
 rintro a b q ⟨_, e1⟩ ⟨_, e2⟩
 have e := e1.symm.trans e2
 exact congrArg (fun q : Res => pI (pA q.1)) e
abbrev Z5V  : (Z3) → Res → Prop := fun r q => ∃ (ex : List Row), q = ((.p (.agg (Zz r .sh .sh))), ex)
theorem ZdH  : ∀ a b q, Z5V  a q → Z5V  b q → a = b := by
 rintro a b q ⟨_, e1⟩ ⟨_, e2⟩
 have e := e1.symm.trans e2
 exact Z2H (congrArg (fun q : Res => pC (pA q.1)) e)
abbrev Z53 (zl : List Int) (z7 : Int) (zd : Int) (zh : List Zq) (z2 : Int) (z6 : Int) (zn : Own) (zb : Own) : (Int × Int) → Res → Prop := fun r q => ∃ (ex : List Row), q = ((iv r.1), [(Zi (Zk.mk zl r.2 z7 zd zh (Zj.mk z2 z6)) zn zb)] ++ ex)
theorem Zck (zl : List Int) (z7 : Int) (zd : Int) (zh : List Zq) (z2 : Int) (z6 : Int) (zn : Own) (zb : Own) : ∀ a b q, Z53 zl z7 zd zh z2 z6 zn zb a q → Z53 zl z7 zd zh z2 z6 zn zb b q → a = b := by
 rintro a b q ⟨_, e1⟩ ⟨_, e2⟩
 have e := e1.symm.trans e2
 exact Prod.ext (congrArg (fun q : Res => pI (pA q.1)) e) (congrArg (fun q : Res => pI (pA (cellAt q 0 1))) e)
abbrev Z8n  : (Z8) → Res → Prop := fun r q => ∃ (ex : List Row), q = ((.p (.agg (ZF r))), ex)
theorem Zf3  : ∀ a b q, Z8n  a q → Z8n  b q → a = b := by
 rintro a b q ⟨_, e1⟩ ⟨_, e2⟩
 have e := e1.symm.trans e2
 exact Z9X (congrArg (fun q : Res => pC (pA q.1)) e)
abbrev Z56  : (Bool) → Res → Prop := fun r q => ∃ (ex : List Row), q = ((bv r), ex)
theorem Zcd  : ∀ a b q, Z56  a q → Z56  b q → a = b := by
 rintro a b q ⟨_, e1⟩ ⟨_, e2⟩
 have e := e1.symm.trans e2
 exact congrArg (fun q : Res => pB (pA q.1)) e
abbrev Z6D  : (Bool) → Res → Prop := fun r q => ∃ (ex : List Row), q = ((bv r), ex)
theorem ZdN  : ∀ a b q, Z6D  a q → Z6D  b q → a = b := by
 rintro a b q ⟨_, e1⟩ ⟨_, e2⟩
 have e := e1.symm.trans e2
 exact congrArg (fun q : Res => pB (pA q.1)) e
abbrev Z1p  : (Int) → Res → Prop := fun r q => ∃ (ex : List Row), q = ((iv r), ex)
theorem Z6g  : ∀ a b q, Z1p  a q → Z1p  b q → a = b := by
 rintro a b q ⟨_, e1⟩ ⟨_, e2⟩
 have e := e1.symm.trans e2
 exact congrArg (fun q : Res => pI (pA q.1)) e
abbrev Z2K  : (Bool) → Res → Prop := fun r q => ∃ (ex : List Row), q = ((bv r), ex)
theorem Z8x  : ∀ a b q, Z2K  a q → Z2K  b q → a = b := by
 rintro a b q ⟨_, e1⟩ ⟨_, e2⟩
 have e := e1.symm.trans e2
 exact congrArg (fun q : Res => pB (pA q.1)) e
abbrev Z82  : ((List Z8)) → Res → Prop := fun r q => ∃ (ex : List Row), q = ((.p (.lst .sh (r.map Zv))), ex)
theorem ZdR  : ∀ a b q, Z82  a q → Z82  b q → a = b := by
 rintro a b q ⟨_, e1⟩ ⟨_, e2⟩
 have e := e1.symm.trans e2
 exact lmap_inj Z2w (congrArg (fun q : Res => pL (pA q.1)) e)
abbrev Z6M  : ((List Z8) × Int) → Res → Prop := fun r q => ∃ (ex : List Row), q = ((.p (.tup [(.lst .sh (r.1.map Zv)), (.v (.int .i64 r.2))])), ex)
theorem Zew  : ∀ a b q, Z6M  a q → Z6M  b q → a = b := by
 rintro a b q ⟨_, e1⟩ ⟨_, e2⟩
 have e := e1.symm.trans e2
 exact Prod.ext (lmap_inj Z2w (congrArg (fun q : Res => pL ((pT (pA q.1)).getD 0 .junk)) e)) (congrArg (fun q : Res => pI ((pT (pA q.1)).getD 1 .junk)) e)
abbrev Z1P  : (Bool) → Res → Prop := fun r q => ∃ (ex : List Row), q = ((bv r), ex)
theorem Z9c  : ∀ a b q, Z1P  a q → Z1P  b q → a = b := by
 rintro a b q ⟨_, e1⟩ ⟨_, e2⟩
 have e := e1.symm.trans e2
 exact congrArg (fun q : Res => pB (pA q.1)) e
abbrev Z2i  : ((List Z8)) → Res → Prop := fun r q => ∃ (ex : List Row), q = ((.p (.lst .sh (r.map Zv))), ex)
theorem Zak  : ∀ a b q, Z2i  a q → Z2i  b q → a = b := by
 rintro a b q ⟨_, e1⟩ ⟨_, e2⟩
 have e := e1.symm.trans e2
 exact lmap_inj Z2w (congrArg (fun q : Res => pL (pA q.1)) e)
abbrev Z5E  : ((List Z8) × Int) → Res → Prop := fun r q => ∃ (ex : List Row), q = ((.p (.tup [(.lst .sh (r.1.map Zv)), (.v (.int .i64 r.2))])), ex)
theorem Zdz  : ∀ a b q, Z5E  a q → Z5E  b q → a = b := by
 rintro a b q ⟨_, e1⟩ ⟨_, e2⟩
 have e := e1.symm.trans e2
 exact Prod.ext (lmap_inj Z2w (congrArg (fun q : Res => pL ((pT (pA q.1)).getD 0 .junk)) e)) (congrArg (fun q : Res => pI ((pT (pA q.1)).getD 1 .junk)) e)
abbrev Z78  : (Z3) → Res → Prop := fun r q => ∃ (ex : List Row), q = ((.p (.agg (Zz r .sh .sh))), ex)
theorem Zf4  : ∀ a b q, Z78  a q → Z78  b q → a = b := by
 rintro a b q ⟨_, e1⟩ ⟨_, e2⟩
 have e := e1.symm.trans e2
 exact Z2H (congrArg (fun q : Res => pC (pA q.1)) e)
abbrev Z4d (zl : List Int) (z7 : Int) (zd : Int) (zh : List Zq) (zn : Own) (zb : Own) : (Int × Int × Int) → Res → Prop := fun r q => ∃ (ex : List Row), q = ((.p (.tup [])), [(Zi (Zk.mk zl r.1 z7 zd zh (Zj.mk r.2.1 r.2.2)) zn zb)] ++ ex)
theorem Zc8 (zl : List Int) (z7 : Int) (zd : Int) (zh : List Zq) (zn : Own) (zb : Own) : ∀ a b q, Z4d zl z7 zd zh zn zb a q → Z4d zl z7 zd zh zn zb b q → a = b := by
 rintro a b q ⟨_, e1⟩ ⟨_, e2⟩
 have e := e1.symm.trans e2
 exact Prod.ext (congrArg (fun q : Res => pI (pA (cellAt q 0 1))) e) (Prod.ext (congrArg (fun q : Res => pI (pA (cellAt q 0 5))) e) (congrArg (fun q : Res => pI (pA (cellAt q 0 6))) e))
abbrev Z4X  : ((Own × (List Z8))) → Res → Prop := fun r q => ∃ (ex : List Row), q = ((.p (.lst r.1 (r.2.map Zv))), ex)
theorem ZcM  : ∀ a b q, Z4X  a q → Z4X  b q → a = b := by
 rintro a b q ⟨_, e1⟩ ⟨_, e2⟩
 have e := e1.symm.trans e2
 exact Prod.ext (congrArg (fun q : Res => pOwn (pA q.1)) e) (lmap_inj Z2w (congrArg (fun q : Res => pL (pA q.1)) e))
abbrev Z5i  : (Int) → Res → Prop := fun r q => ∃ (ex : List Row), q = ((iv r), ex)
theorem Zf0  : ∀ a b q, Z5i  a q → Z5i  b q → a = b := by
 rintro a b q ⟨_, e1⟩ ⟨_, e2⟩
 have e := e1.symm.trans e2
 exact congrArg (fun q : Res => pI (pA q.1)) e
abbrev Z5K (zZ : Int) : (Bool) → Res → Prop := fun r q => ∃ (ex : List Row), q = ((bv r), [[(iv zZ)]] ++ ex)
theorem ZcT (zZ : Int) : ∀ a b q, Z5K zZ a q → Z5K zZ b q → a = b := by
 rintro a b q ⟨_, e1⟩ ⟨_, e2⟩
 have e := e1.symm.trans e2
 exact congrArg (fun q : Res => pB (pA q.1)) e
abbrev Z1r (zZ : Int) : (Int) → Res → Prop := fun r q => ∃ (ex : List Row), q = ((iv r), [[(iv zZ)]] ++ ex)
theorem Z6f (zZ : Int) : ∀ a b q, Z1r zZ a q → Z1r zZ b q → a = b := by
 rintro a b q ⟨_, e1⟩ ⟨_, e2⟩
 have e := e1.symm.trans e2
 exact congrArg (fun q : Res => pI (pA q.1)) e
abbrev Z2N (zZ : Int) : (Bool) → Res → Prop := fun r q => ∃ (ex : List Row), q = ((bv r), [[(iv zZ)]] ++ ex)
theorem Z8q (zZ : Int) : ∀ a b q, Z2N zZ a q → Z2N zZ b q → a = b := by
 rintro a b q ⟨_, e1⟩ ⟨_, e2⟩
 have e := e1.symm.trans e2
 exact congrArg (fun q : Res => pB (pA q.1)) e
abbrev Z6p  : (Bool) → Res → Prop := fun r q => ∃ (ex : List Row), q = ((bv r), ex)
theorem Zdu  : ∀ a b q, Z6p  a q → Z6p  b q → a = b := by
 rintro a b q ⟨_, e1⟩ ⟨_, e2⟩
 have e := e1.symm.trans e2
 exact congrArg (fun q : Res => pB (pA q.1)) e
abbrev Z3g (zl : List Int) (z7 : Int) (zd : Int) (zh : List Zq) (zn : Own) (zb : Own) : (Int × Int × Int × Int) → Res → Prop := fun r q => ∃ (ex : List Row), q = ((iv r.1), [(Zi (Zk.mk zl r.2.1 z7 zd zh (Zj.mk r.2.2.1 r.2.2.2)) zn zb)] ++ ex)
theorem Zbu (zl : List Int) (z7 : Int) (zd : Int) (zh : List Zq) (zn : Own) (zb : Own) : ∀ a b q, Z3g zl z7 zd zh zn zb a q → Z3g zl z7 zd zh zn zb b q → a = b := by
 rintro a b q ⟨_, e1⟩ ⟨_, e2⟩
 have e := e1.symm.trans e2
 exact Prod.ext (congrArg (fun q : Res => pI (pA q.1)) e) (Prod.ext (congrArg (fun q : Res => pI (pA (cellAt q 0 1))) e) (Prod.ext (congrArg (fun q : Res => pI (pA (cellAt q 0 5))) e) (congrArg (fun q : Res => pI (pA (cellAt q 0 6))) e)))
abbrev Z2E (zl : List Int) (z7 : Int) (zd : Int) (zn : Own) : (Z3 × Int × (List Zq) × Int × Int) → Res → Prop := fun r q => ∃ (p0_4 : Own) (ex : List Row), okApp p0_4 = true ∧ q = ((.p (.agg (Zz r.1 .sh .sh))), [(Zi (Zk.mk zl r.2.1 z7 zd r.2.2.1 (Zj.mk r.2.2.2.1 r.2.2.2.2)) zn p0_4)] ++ ex)
theorem Zb3 (zl : List Int) (z7 : Int) (zd : Int) (zn : Own) : ∀ a b q, Z2E zl z7 zd zn a q → Z2E zl z7 zd zn b q → a = b := by
 rintro a b q ⟨_, _, _, e1⟩ ⟨_, _, _, e2⟩
 have e := e1.symm.trans e2
 exact Prod.ext (Z2H (congrArg (fun q : Res => pC (pA q.1)) e)) (Prod.ext (congrArg (fun q : Res => pI (pA (cellAt q 0 1))) e) (Prod.ext (lmap_inj Z3X (congrArg (fun q : Res => pL (pA (cellAt q 0 4))) e)) (Prod.ext (congrArg (fun q : Res => pI (pA (cellAt q 0 5))) e) (congrArg (fun q : Res => pI (pA (cellAt q 0 6))) e))))
abbrev Z2G (zl : List Int) (z7 : Int) (zd : Int) (zh : List Zq) (zn : Own) (zb : Own) : (Int × (Own × (List Z8)) × Bool × Int × Int × Int) → Res → Prop := fun r q => ∃ (ex : List Row), q = ((.p (.tup [(.v (.int .i64 r.1)), (.lst r.2.1.1 (r.2.1.2.map Zv)), (.v (.bool r.2.2.1))])), [(Zi (Zk.mk zl r.2.2.2.1 z7 zd zh (Zj.mk r.2.2.2.2.1 r.2.2.2.2.2)) zn zb)] ++ ex)
theorem Zb5 (zl : List Int) (z7 : Int) (zd : Int) (zh : List Zq) (zn : Own) (zb : Own) : ∀ a b q, Z2G zl z7 zd zh zn zb a q → Z2G zl z7 zd zh zn zb b q → a = b := by
 rintro a b q ⟨_, e1⟩ ⟨_, e2⟩
 have e := e1.symm.trans e2
 exact Prod.ext (congrArg (fun q : Res => pI ((pT (pA q.1)).getD 0 .junk)) e) (Prod.ext (Prod.ext (congrArg (fun q : Res => pOwn ((pT (pA q.1)).getD 1 .junk)) e) (lmap_inj Z2w (congrArg (fun q : Res => pL ((pT (pA q.1)).getD 1 .junk)) e))) (Prod.ext (congrArg (fun q : Res => pB ((pT (pA q.1)).getD 2 .junk)) e) (Prod.ext (congrArg (fun q : Res => pI (pA (cellAt q 0 1))) e) (Prod.ext (congrArg (fun q : Res => pI (pA (cellAt q 0 5))) e) (congrArg (fun q : Res => pI (pA (cellAt q 0 6))) e)))))
abbrev Z5y  : ((List Z8)) → Res → Prop := fun r q => ∃ (ex : List Row), q = ((.p (.lst .sh (r.map Zv))), ex)
theorem Zb6  : ∀ a b q, Z5y  a q → Z5y  b q → a = b := by
 rintro a b q ⟨_, e1⟩ ⟨_, e2⟩
 have e := e1.symm.trans e2
 exact lmap_inj Z2w (congrArg (fun q : Res => pL (pA q.1)) e)
abbrev Z5d  : ((List Z8) × Int) → Res → Prop := fun r q => ∃ (ex : List Row), q = ((.p (.tup [(.lst .sh (r.1.map Zv)), (.v (.int .i64 r.2))])), ex)
theorem ZdO  : ∀ a b q, Z5d  a q → Z5d  b q → a = b := by
 rintro a b q ⟨_, e1⟩ ⟨_, e2⟩
 have e := e1.symm.trans e2
 exact Prod.ext (lmap_inj Z2w (congrArg (fun q : Res => pL ((pT (pA q.1)).getD 0 .junk)) e)) (congrArg (fun q : Res => pI ((pT (pA q.1)).getD 1 .junk)) e)
abbrev Z4j  : ((List Z8)) → Res → Prop := fun r q => ∃ (p0_0 : Own) (ex : List Row), q = ((.p (.tup [])), [[(.p (.lst p0_0 (r.map Zv)))]] ++ ex)
theorem ZaS  : ∀ a b q, Z4j  a q → Z4j  b q → a = b := by
 rintro a b q ⟨_, _, e1⟩ ⟨_, _, e2⟩
 have e := e1.symm.trans e2
 exact lmap_inj Z2w (congrArg (fun q : Res => pL (pA (cellAt q 0 0))) e)
abbrev Z19 (zl : List Int) (z7 : Int) (zd : Int) (zh : List Zq) (zn : Own) (zb : Own) : (Z3 × Int × Int × Int) → Res → Prop := fun r q => ∃ (ex : List Row), q = ((.p (.agg (Zz r.1 .sh .sh))), [(Zi (Zk.mk zl r.2.1 z7 zd zh (Zj.mk r.2.2.1 r.2.2.2)) zn zb)] ++ ex)
theorem Z8w (zl : List Int) (z7 : Int) (zd : Int) (zh : List Zq) (zn : Own) (zb : Own) : ∀ a b q, Z19 zl z7 zd zh zn zb a q → Z19 zl z7 zd zh zn zb b q → a = b := by
 rintro a b q ⟨_, e1⟩ ⟨_, e2⟩
 have e := e1.symm.trans e2
 exact Prod.ext (Z2H (congrArg (fun q : Res => pC (pA q.1)) e)) (Prod.ext (congrArg (fun q : Res => pI (pA (cellAt q 0 1))) e) (Prod.ext (congrArg (fun q : Res => pI (pA (cellAt q 0 5))) e) (congrArg (fun q : Res => pI (pA (cellAt q 0 6))) e)))
abbrev Z72  : ((List ByteArray)) → Res → Prop := fun r q => ∃ (ex : List Row), q = ((.p (.lst .sh (r.map eS))), ex)
theorem Zel  : ∀ a b q, Z72  a q → Z72  b q → a = b := by
 rintro a b q ⟨_, e1⟩ ⟨_, e2⟩
 have e := e1.symm.trans e2
 exact lmap_inj eS_inj (congrArg (fun q : Res => pL (pA q.1)) e)
abbrev Z1m (zl : List Int) (z7 : Int) (zd : Int) (zh : List Zq) (z2 : Int) (z6 : Int) (zn : Own) (zb : Own) : (Int × Int) → Res → Prop := fun r q => ∃ (ex : List Row), q = ((iv r.1), [(Zi (Zk.mk zl r.2 z7 zd zh (Zj.mk z2 z6)) zn zb)] ++ ex)
theorem Z6b (zl : List Int) (z7 : Int) (zd : Int) (zh : List Zq) (z2 : Int) (z6 : Int) (zn : Own) (zb : Own) : ∀ a b q, Z1m zl z7 zd zh z2 z6 zn zb a q → Z1m zl z7 zd zh z2 z6 zn zb b q → a = b := by
 rintro a b q ⟨_, e1⟩ ⟨_, e2⟩
 have e := e1.symm.trans e2
 exact Prod.ext (congrArg (fun q : Res => pI (pA q.1)) e) (congrArg (fun q : Res => pI (pA (cellAt q 0 1))) e)
abbrev Z2b (zl : List Int) (zn : Own) : (Z3 × Bool × Int × Int × Int × (List Zq) × Int × Int) → Res → Prop := fun r q => ∃ (p0_4 : Own) (ex : List Row), okApp p0_4 = true ∧ q = ((.p (.tup [(.agg (Zz r.1 .sh .sh)), (.v (.bool r.2.1))])), [(Zi (Zk.mk zl r.2.2.1 r.2.2.2.1 r.2.2.2.2.1 r.2.2.2.2.2.1 (Zj.mk r.2.2.2.2.2.2.1 r.2.2.2.2.2.2.2)) zn p0_4)] ++ ex)
theorem Zbz (zl : List Int) (zn : Own) : ∀ a b q, Z2b zl zn a q → Z2b zl zn b q → a = b := by
 rintro a b q ⟨_, _, _, e1⟩ ⟨_, _, _, e2⟩
 have e := e1.symm.trans e2
 exact Prod.ext (Z2H (congrArg (fun q : Res => pC ((pT (pA q.1)).getD 0 .junk)) e)) (Prod.ext (congrArg (fun q : Res => pB ((pT (pA q.1)).getD 1 .junk)) e) (Prod.ext (congrArg (fun q : Res => pI (pA (cellAt q 0 1))) e) (Prod.ext (congrArg (fun q : Res => pI (pA (cellAt q 0 2))) e) (Prod.ext (congrArg (fun q : Res => pI (pA (cellAt q 0 3))) e) (Prod.ext (lmap_inj Z3X (congrArg (fun q : Res => pL (pA (cellAt q 0 4))) e)) (Prod.ext (congrArg (fun q : Res => pI (pA (cellAt q 0 5))) e) (congrArg (fun q : Res => pI (pA (cellAt q 0 6))) e)))))))
abbrev Z4e (zl : List Int) (zn : Own) : (Z3 × Bool × Int × Int × Int × (List Zq) × Int × Int) → Res → Prop := fun r q => ∃ (p0_4 : Own) (ex : List Row), okApp p0_4 = true ∧ q = ((.p (.tup [(.agg (Zz r.1 .sh .sh)), (.v (.bool r.2.1))])), [(Zi (Zk.mk zl r.2.2.1 r.2.2.2.1 r.2.2.2.2.1 r.2.2.2.2.2.1 (Zj.mk r.2.2.2.2.2.2.1 r.2.2.2.2.2.2.2)) zn p0_4)] ++ ex)
theorem Zcb (zl : List Int) (zn : Own) : ∀ a b q, Z4e zl zn a q → Z4e zl zn b q → a = b := by
 rintro a b q ⟨_, _, _, e1⟩ ⟨_, _, _, e2⟩
 have e := e1.symm.trans e2
 exact Prod.ext (Z2H (congrArg (fun q : Res => pC ((pT (pA q.1)).getD 0 .junk)) e)) (Prod.ext (congrArg (fun q : Res => pB ((pT (pA q.1)).getD 1 .junk)) e) (Prod.ext (congrArg (fun q : Res => pI (pA (cellAt q 0 1))) e) (Prod.ext (congrArg (fun q : Res => pI (pA (cellAt q 0 2))) e) (Prod.ext (congrArg (fun q : Res => pI (pA (cellAt q 0 3))) e) (Prod.ext (lmap_inj Z3X (congrArg (fun q : Res => pL (pA (cellAt q 0 4))) e)) (Prod.ext (congrArg (fun q : Res => pI (pA (cellAt q 0 5))) e) (congrArg (fun q : Res => pI (pA (cellAt q 0 6))) e)))))))
abbrev Z24 (zl : List Int) (z7 : Int) (zd : Int) (zh : List Zq) (z2 : Int) (z6 : Int) (zn : Own) (zb : Own) : (Int × Int) → Res → Prop := fun r q => ∃ (ex : List Row), q = ((iv r.1), [(Zi (Zk.mk zl r.2 z7 zd zh (Zj.mk z2 z6)) zn zb)] ++ ex)
theorem Z87 (zl : List Int) (z7 : Int) (zd : Int) (zh : List Zq) (z2 : Int) (z6 : Int) (zn : Own) (zb : Own) : ∀ a b q, Z24 zl z7 zd zh z2 z6 zn zb a q → Z24 zl z7 zd zh z2 z6 zn zb b q → a = b := by
 rintro a b q ⟨_, e1⟩ ⟨_, e2⟩
 have e := e1.symm.trans e2
 exact Prod.ext (congrArg (fun q : Res => pI (pA q.1)) e) (congrArg (fun q : Res => pI (pA (cellAt q 0 1))) e)
abbrev Z1Q (zl : List Int) (z7 : Int) (zd : Int) (zh : List Zq) (zn : Own) (zb : Own) : (Int × Int × Int × Int × Int) → Res → Prop := fun r q => ∃ (ex : List Row), q = ((.p (.tup [(.v (.int .i64 r.1)), (.v (.int .i64 r.2.1))])), [(Zi (Zk.mk zl r.2.2.1 z7 zd zh (Zj.mk r.2.2.2.1 r.2.2.2.2)) zn zb)] ++ ex)
theorem Zb4 (zl : List Int) (z7 : Int) (zd : Int) (zh : List Zq) (zn : Own) (zb : Own) : ∀ a b q, Z1Q zl z7 zd zh zn zb a q → Z1Q zl z7 zd zh zn zb b q → a = b := by
 rintro a b q ⟨_, e1⟩ ⟨_, e2⟩
 have e := e1.symm.trans e2
 exact Prod.ext (congrArg (fun q : Res => pI ((pT (pA q.1)).getD 0 .junk)) e) (Prod.ext (congrArg (fun q : Res => pI ((pT (pA q.1)).getD 1 .junk)) e) (Prod.ext (congrArg (fun q : Res => pI (pA (cellAt q 0 1))) e) (Prod.ext (congrArg (fun q : Res => pI (pA (cellAt q 0 5))) e) (congrArg (fun q : Res => pI (pA (cellAt q 0 6))) e))))
abbrev Z2F (zl : List Int) (z7 : Int) (zd : Int) (zh : List Zq) (zn : Own) (zb : Own) : (Z3 × Int × Int × Int) → Res → Prop := fun r q => ∃ (ex : List Row), q = ((.p (.agg (Zz r.1 .sh .sh))), [(Zi (Zk.mk zl r.2.1 z7 zd zh (Zj.mk r.2.2.1 r.2.2.2)) zn zb)] ++ ex)
theorem Zbe (zl : List Int) (z7 : Int) (zd : Int) (zh : List Zq) (zn : Own) (zb : Own) : ∀ a b q, Z2F zl z7 zd zh zn zb a q → Z2F zl z7 zd zh zn zb b q → a = b := by
 rintro a b q ⟨_, e1⟩ ⟨_, e2⟩
 have e := e1.symm.trans e2
 exact Prod.ext (Z2H (congrArg (fun q : Res => pC (pA q.1)) e)) (Prod.ext (congrArg (fun q : Res => pI (pA (cellAt q 0 1))) e) (Prod.ext (congrArg (fun q : Res => pI (pA (cellAt q 0 5))) e) (congrArg (fun q : Res => pI (pA (cellAt q 0 6))) e)))
abbrev Z2h (zl : List Int) (zn : Own) : (Z3 × Int × Int × Int × (List Zq) × Int × Int) → Res → Prop := fun r q => ∃ (p0_4 : Own) (ex : List Row), okApp p0_4 = true ∧ q = ((.p (.agg (Zz r.1 .sh .sh))), [(Zi (Zk.mk zl r.2.1 r.2.2.1 r.2.2.2.1 r.2.2.2.2.1 (Zj.mk r.2.2.2.2.2.1 r.2.2.2.2.2.2)) zn p0_4)] ++ ex)
theorem Z9o (zl : List Int) (zn : Own) : ∀ a b q, Z2h zl zn a q → Z2h zl zn b q → a = b := by
 rintro a b q ⟨_, _, _, e1⟩ ⟨_, _, _, e2⟩
 have e := e1.symm.trans e2
 exact Prod.ext (Z2H (congrArg (fun q : Res => pC (pA q.1)) e)) (Prod.ext (congrArg (fun q : Res => pI (pA (cellAt q 0 1))) e) (Prod.ext (congrArg (fun q : Res => pI (pA (cellAt q 0 2))) e) (Prod.ext (congrArg (fun q : Res => pI (pA (cellAt q 0 3))) e) (Prod.ext (lmap_inj Z3X (congrArg (fun q : Res => pL (pA (cellAt q 0 4))) e)) (Prod.ext (congrArg (fun q : Res => pI (pA (cellAt q 0 5))) e) (congrArg (fun q : Res => pI (pA (cellAt q 0 6))) e))))))
abbrev Z2v (zl : List Int) (zn : Own) : (Z3 × Int × Int × Int × (List Zq) × Int × Int) → Res → Prop := fun r q => ∃ (p0_4 : Own) (ex : List Row), okApp p0_4 = true ∧ q = ((.p (.agg (Zz r.1 .sh .sh))), [(Zi (Zk.mk zl r.2.1 r.2.2.1 r.2.2.2.1 r.2.2.2.2.1 (Zj.mk r.2.2.2.2.2.1 r.2.2.2.2.2.2)) zn p0_4)] ++ ex)
theorem Z9k (zl : List Int) (zn : Own) : ∀ a b q, Z2v zl zn a q → Z2v zl zn b q → a = b := by
 rintro a b q ⟨_, _, _, e1⟩ ⟨_, _, _, e2⟩
 have e := e1.symm.trans e2
 exact Prod.ext (Z2H (congrArg (fun q : Res => pC (pA q.1)) e)) (Prod.ext (congrArg (fun q : Res => pI (pA (cellAt q 0 1))) e) (Prod.ext (congrArg (fun q : Res => pI (pA (cellAt q 0 2))) e) (Prod.ext (congrArg (fun q : Res => pI (pA (cellAt q 0 3))) e) (Prod.ext (lmap_inj Z3X (congrArg (fun q : Res => pL (pA (cellAt q 0 4))) e)) (Prod.ext (congrArg (fun q : Res => pI (pA (cellAt q 0 5))) e) (congrArg (fun q : Res => pI (pA (cellAt q 0 6))) e))))))
abbrev Z2o  : (ZC × Zj) → Res → Prop := fun r q => ∃ (ex : List Row), q = ((.p (.tup [(.agg (Z1j r.1 .sh .sh)), (.agg (Z1Y r.2))])), ex)
theorem Zbp  : ∀ a b q, Z2o  a q → Z2o  b q → a = b := by
 rintro a b q ⟨_, e1⟩ ⟨_, e2⟩
 have e := e1.symm.trans e2
 exact Prod.ext (Z99 (congrArg (fun q : Res => pC ((pT (pA q.1)).getD 0 .junk)) e)) (Z7q (congrArg (fun q : Res => pC ((pT (pA q.1)).getD 1 .junk)) e))
abbrev Z6O  : (Int) → Res → Prop := fun r q => ∃ (ex : List Row), q = ((iv r), ex)
theorem ZeC  : ∀ a b q, Z6O  a q → Z6O  b q → a = b := by
 rintro a b q ⟨_, e1⟩ ⟨_, e2⟩
 have e := e1.symm.trans e2
 exact congrArg (fun q : Res => pI (pA q.1)) e
abbrev Z4l  : (Int) → Res → Prop := fun r q => ∃ (ex : List Row), q = ((iv r), ex)
theorem Zet  : ∀ a b q, Z4l  a q → Z4l  b q → a = b := by
 rintro a b q ⟨_, e1⟩ ⟨_, e2⟩
 have e := e1.symm.trans e2
 exact congrArg (fun q : Res => pI (pA q.1)) e
abbrev Z6r  : (Int) → Res → Prop := fun r q => ∃ (ex : List Row), q = ((iv r), ex)
theorem Zf1  : ∀ a b q, Z6r  a q → Z6r  b q → a = b := by
 rintro a b q ⟨_, e1⟩ ⟨_, e2⟩
 have e := e1.symm.trans e2
 exact congrArg (fun q : Res => pI (pA q.1)) e
abbrev Z21  : (Int × Int) → Res → Prop := fun r q => ∃ (ex : List Row), q = ((.p (.tup [(.v (.int .i64 r.1)), (.v (.int .i64 r.2))])), ex)
theorem Z9p  : ∀ a b q, Z21  a q → Z21  b q → a = b := by
 rintro a b q ⟨_, e1⟩ ⟨_, e2⟩
 have e := e1.symm.trans e2
 exact Prod.ext (congrArg (fun q : Res => pI ((pT (pA q.1)).getD 0 .junk)) e) (congrArg (fun q : Res => pI ((pT (pA q.1)).getD 1 .junk)) e)
abbrev Z3h  : (Int) → Res → Prop := fun r q => ∃ (ex : List Row), q = ((iv r), ex)
theorem Zc3  : ∀ a b q, Z3h  a q → Z3h  b q → a = b := by
 rintro a b q ⟨_, e1⟩ ⟨_, e2⟩
 have e := e1.symm.trans e2
 exact congrArg (fun q : Res => pI (pA q.1)) e
abbrev Z5H  : (Bool) → Res → Prop := fun r q => ∃ (ex : List Row), q = ((bv r), ex)
theorem ZcN  : ∀ a b q, Z5H  a q → Z5H  b q → a = b := by
 rintro a b q ⟨_, e1⟩ ⟨_, e2⟩
 have e := e1.symm.trans e2
 exact congrArg (fun q : Res => pB (pA q.1)) e
abbrev Z1t  : (Int) → Res → Prop := fun r q => ∃ (ex : List Row), q = ((iv r), ex)
theorem Z6v  : ∀ a b q, Z1t  a q → Z1t  b q → a = b := by
 rintro a b q ⟨_, e1⟩ ⟨_, e2⟩
 have e := e1.symm.trans e2
 exact congrArg (fun q : Res => pI (pA q.1)) e
abbrev Z2U  : (Bool) → Res → Prop := fun r q => ∃ (ex : List Row), q = ((bv r), ex)
theorem Z8R  : ∀ a b q, Z2U  a q → Z2U  b q → a = b := by
 rintro a b q ⟨_, e1⟩ ⟨_, e2⟩
 have e := e1.symm.trans e2
 exact congrArg (fun q : Res => pB (pA q.1)) e
abbrev Z49  : (Bool) → Res → Prop := fun r q => ∃ (ex : List Row), q = ((bv r), ex)
theorem ZdD  : ∀ a b q, Z49  a q → Z49  b q → a = b := by
 rintro a b q ⟨_, e1⟩ ⟨_, e2⟩
 have e := e1.symm.trans e2
 exact congrArg (fun q : Res => pB (pA q.1)) e
abbrev Z6d  : (Int) → Res → Prop := fun r q => ∃ (ex : List Row), q = ((iv r), ex)
theorem Ze5  : ∀ a b q, Z6d  a q → Z6d  b q → a = b := by
 rintro a b q ⟨_, e1⟩ ⟨_, e2⟩
 have e := e1.symm.trans e2
 exact congrArg (fun q : Res => pI (pA q.1)) e
abbrev Z4k  : (Bool) → Res → Prop := fun r q => ∃ (ex : List Row), q = ((bv r), ex)
theorem ZaZ  : ∀ a b q, Z4k  a q → Z4k  b q → a = b := by
 rintro a b q ⟨_, e1⟩ ⟨_, e2⟩
 have e := e1.symm.trans e2
 exact congrArg (fun q : Res => pB (pA q.1)) e
abbrev Z1k  : (Bool) → Res → Prop := fun r q => ∃ (ex : List Row), q = ((bv r), ex)
theorem Z9s  : ∀ a b q, Z1k  a q → Z1k  b q → a = b := by
 rintro a b q ⟨_, e1⟩ ⟨_, e2⟩
 have e := e1.symm.trans e2
 exact congrArg (fun q : Res => pB (pA q.1)) e
noncomputable def Z5s (x0 : ByteArray) (x1 : Int) : Option (Bool) := pick fun r => RRun (Z1k) (EE 11 [(.p (.v (.string x0))), (iv x1)] []) r
theorem Z9d (x0 : ByteArray) (x1 : Int) : Sim (Z1k) (Z5s x0 x1) (EE 11 [(.p (.v (.string x0))), (iv x1)] []) := fun _ h => pick_to h
noncomputable def Z5h  : Option (Bool) := pick fun r => RRun (Z4k) (EE 23 [] []) r
theorem ZaC  : Sim (Z4k) (Z5h) (EE 23 [] []) := fun _ h => pick_to h
noncomputable def Z50 (x0 : ByteArray) : Option (ZC × Zj) := pick fun r => RRun (Z2o) (EE 16 [(.p (.v (.string x0)))] []) r
theorem Z6Z (x0 : ByteArray) : Sim (Z2o) (Z50 x0) (EE 16 [(.p (.v (.string x0)))] []) := fun _ h => pick_to h
noncomputable def Z16 (x1 : ByteArray) (zl : List Int) (zp : Int) : Option (Bool × Int) := pick fun r => ∀ (z7 : Int) (zd : Int) (zh : List Zq) (z2 : Int) (z6 : Int) (zn : Own) (zb : Own) (zu : okApp zb = true), RRun (Z3r zl z7 zd zh z2 z6 zn zb) (EE 27 [(.ptr 0 0), (.p (.v (.string x1)))] [(Zi (Zk.mk zl zp z7 zd zh (Zj.mk z2 z6)) zn zb)]) r
theorem Z1b (x1 : ByteArray) (zl : List Int) (zp : Int) (z7 : Int) (zd : Int) (zh : List Zq) (z2 : Int) (z6 : Int) (zn : Own) (zb : Own) (zu : okApp zb = true) : Sim (Z3r zl z7 zd zh z2 z6 zn zb) (Z16 x1 zl zp) (EE 27 [(.ptr 0 0), (.p (.v (.string x1)))] [(Zi (Zk.mk zl zp z7 zd zh (Zj.mk z2 z6)) zn zb)]) := fun _ h => pick_to h z7 zd zh z2 z6 zn zb zu
noncomputable def Z2X (zl : List Int) (zp : Int) (z7 : Int) (zd : Int) (zh : List Zq) (z2 : Int) (z6 : Int) : Option (Z3 × Int × Int × Int × (List Zq) × Int × Int) := pick fun r => ∀ (zn : Own) (zb : Own) (zu : okApp zb = true), RRun (Z2v zl zn) (EE 28 [(.ptr 0 0)] [(Zi (Zk.mk zl zp z7 zd zh (Zj.mk z2 z6)) zn zb)]) r
theorem Z8V (zl : List Int) (zp : Int) (z7 : Int) (zd : Int) (zh : List Zq) (z2 : Int) (z6 : Int) (zn : Own) (zb : Own) (zu : okApp zb = true) : Sim (Z2v zl zn) (Z2X zl zp z7 zd zh z2 z6) (EE 28 [(.ptr 0 0)] [(Zi (Zk.mk zl zp z7 zd zh (Zj.mk z2 z6)) zn zb)]) := fun _ h => pick_to h zn zb zu
noncomputable def Z4B (zl : List Int) (zp : Int) (z7 : Int) (zd : Int) (zh : List Zq) (z2 : Int) (z6 : Int) : Option (Z3 × Int × Int × Int × (List Zq) × Int × Int) := pick fun r => ∀ (zn : Own) (zb : Own) (zu : okApp zb = true), RRun (Z2h zl zn) (EE 35 [(.ptr 0 0)] [(Zi (Zk.mk zl zp z7 zd zh (Zj.mk z2 z6)) zn zb)]) r
theorem Z8T (zl : List Int) (zp : Int) (z7 : Int) (zd : Int) (zh : List Zq) (z2 : Int) (z6 : Int) (zn : Own) (zb : Own) (zu : okApp zb = true) : Sim (Z2h zl zn) (Z4B zl zp z7 zd zh z2 z6) (EE 35 [(.ptr 0 0)] [(Zi (Zk.mk zl zp z7 zd zh (Zj.mk z2 z6)) zn zb)]) := fun _ h => pick_to h zn zb zu
noncomputable def Z3G (x3 : List Z3) (zl : List Int) (zp : Int) (z7 : Int) (zd : Int) (zh : List Zq) (z2 : Int) (z6 : Int) : Option (Z3 × Int × Int × Int × (List Zq) × Int × Int) := pick fun r => ∀ (b1 : Z3) (ox3 : Own) (zn : Own) (zb : Own) (zB : Own) (zy : Own) (hox3 : okApp ox3 = true) (zu : okApp zb = true) (zP : okApp zB = true) (zI : okApp zy = true), RRun (Z2h zl zn) (ZbM 1 (.ptr 0 0) (.ptr 1 0) (.p (.lst ox3 (x3.map ZD))) [(Zi (Zk.mk zl zp z7 zd zh (Zj.mk z2 z6)) zn zb), (Zo b1 zB zy)]) r
theorem Z7p (x3 : List Z3) (zl : List Int) (zp : Int) (z7 : Int) (zd : Int) (zh : List Zq) (z2 : Int) (z6 : Int) (b1 : Z3) (ox3 : Own) (zn : Own) (zb : Own) (zB : Own) (zy : Own) (hox3 : okApp ox3 = true) (zu : okApp zb = true) (zP : okApp zB = true) (zI : okApp zy = true) : Sim (Z2h zl zn) (Z3G x3 zl zp z7 zd zh z2 z6) (ZbM 1 (.ptr 0 0) (.ptr 1 0) (.p (.lst ox3 (x3.map ZD))) [(Zi (Zk.mk zl zp z7 zd zh (Zj.mk z2 z6)) zn zb), (Zo b1 zB zy)]) := fun _ h => pick_to h b1 ox3 zn zb zB zy hox3 zu zP zI
noncomputable def Z1F (b0 : Zk) : Option (Int) := pick fun r => ∀ (zn : Own) (zb : Own) (zu : okApp zb = true), RRun (Z4g b0 zn zb) (EE 41 [(.ptr 0 0)] [(Zi b0 zn zb)]) r
theorem Z1K (b0 : Zk) (zn : Own) (zb : Own) (zu : okApp zb = true) : Sim (Z4g b0 zn zb) (Z1F b0) (EE 41 [(.ptr 0 0)] [(Zi b0 zn zb)]) := fun _ h => pick_to h zn zb zu
noncomputable def Z8p (x0 : List Int) (x1 : Int) : Option (Int × Int) := pick fun r => ∀ (ox0 : Own), RRun (Z5j) (EE 45 [(.p (.lst ox0 (x0.map (eI .u8)))), (iv x1)] []) r
theorem Zc2 (x0 : List Int) (x1 : Int) (ox0 : Own) : Sim (Z5j) (Z8p x0 x1) (EE 45 [(.p (.lst ox0 (x0.map (eI .u8)))), (iv x1)] []) := fun _ h => pick_to h ox0
noncomputable def Z5R (x0 : List Int) : Option (Int × Int) := pick fun r => ∀ (ox0 : Own), RRun (Z4E) (EE 53 [(.p (.lst ox0 (x0.map (eI .u8))))] []) r
theorem Z9w (x0 : List Int) (ox0 : Own) : Sim (Z4E) (Z5R x0) (EE 53 [(.p (.lst ox0 (x0.map (eI .u8))))] []) := fun _ h => pick_to h ox0
noncomputable def Z6I (x0 : Int) (x1 : List Z3) : Option (Z3) := pick fun r => ∀ (ox1 : Own), RRun (Z5V) (EE 36 [(iv x0), (.p (.lst ox1 (x1.map ZD)))] []) r
theorem Zah (x0 : Int) (x1 : List Z3) (ox1 : Own) : Sim (Z5V) (Z6I x0 x1) (EE 36 [(iv x0), (.p (.lst ox1 (x1.map ZD)))] []) := fun _ h => pick_to h ox1
noncomputable def Z66 (zl : List Int) (zp : Int) (z7 : Int) (zd : Int) (zh : List Zq) (z2 : Int) (z6 : Int) : Option (Z3 × Bool × Int × Int × Int × (List Zq) × Int × Int) := pick fun r => ∀ (zn : Own) (zb : Own) (zu : okApp zb = true), RRun (Z4e zl zn) (EE 42 [(.ptr 0 0)] [(Zi (Zk.mk zl zp z7 zd zh (Zj.mk z2 z6)) zn zb)]) r
theorem ZbG (zl : List Int) (zp : Int) (z7 : Int) (zd : Int) (zh : List Zq) (z2 : Int) (z6 : Int) (zn : Own) (zb : Own) (zu : okApp zb = true) : Sim (Z4e zl zn) (Z66 zl zp z7 zd zh z2 z6) (EE 42 [(.ptr 0 0)] [(Zi (Zk.mk zl zp z7 zd zh (Zj.mk z2 z6)) zn zb)]) := fun _ h => pick_to h zn zb zu
noncomputable def Z25 (zl : List Int) (zp : Int) : Option (Int × Int) := pick fun r => ∀ (z7 : Int) (zd : Int) (zh : List Zq) (z2 : Int) (z6 : Int) (zn : Own) (zb : Own) (zu : okApp zb = true), RRun (Z53 zl z7 zd zh z2 z6 zn zb) (EE 46 [(.ptr 0 0)] [(Zi (Zk.mk zl zp z7 zd zh (Zj.mk z2 z6)) zn zb)]) r
theorem Z2t (zl : List Int) (zp : Int) (z7 : Int) (zd : Int) (zh : List Zq) (z2 : Int) (z6 : Int) (zn : Own) (zb : Own) (zu : okApp zb = true) : Sim (Z53 zl z7 zd zh z2 z6 zn zb) (Z25 zl zp) (EE 46 [(.ptr 0 0)] [(Zi (Zk.mk zl zp z7 zd zh (Zj.mk z2 z6)) zn zb)]) := fun _ h => pick_to h z7 zd zh z2 z6 zn zb zu
noncomputable def Z1A (x0 : Int) : Option (Z8) := pick fun r => RRun (Z8n) (EE 48 [(iv x0)] []) r
theorem Z1v (x0 : Int) : Sim (Z8n) (Z1A x0) (EE 48 [(iv x0)] []) := fun _ h => pick_to h
noncomputable def Z2I (x0 : Bool) (x1 : List Z8) : Option (Z3) := pick fun r => ∀ (ox1 : Own), RRun (Z78) (EE 47 [(bv x0), (.p (.lst ox1 (x1.map Zv)))] []) r
theorem Z2R (x0 : Bool) (x1 : List Z8) (ox1 : Own) : Sim (Z78) (Z2I x0 x1) (EE 47 [(bv x0), (.p (.lst ox1 (x1.map Zv)))] []) := fun _ h => pick_to h ox1
noncomputable def Z9a (x0 : List Z8) : Option ((List Z8) × Int) := pick fun r => ∀ (ox0 : Own), RRun (Z6M) (EE 54 [(.p (.lst ox0 (x0.map Zv)))] []) r
theorem Zec (x0 : List Z8) (ox0 : Own) : Sim (Z6M) (Z9a x0) (EE 54 [(.p (.lst ox0 (x0.map Zv)))] []) := fun _ h => pick_to h ox0
noncomputable def Z3o (x0 : List Z8) : Option (Bool) := pick fun r => ∀ (ox0 : Own), RRun (Z2K) (EE 65 [(.p (.lst ox0 (x0.map Zv))), (.clo 66 [] [])] []) r
theorem Z8e (x0 : List Z8) (ox0 : Own) : Sim (Z2K) (Z3o x0) (EE 65 [(.p (.lst ox0 (x0.map Zv))), (.clo 66 [] [])] []) := fun _ h => pick_to h ox0
noncomputable def Z3Y (x0 : List Z8) : Option (Int) := pick fun r => ∀ (ox0 : Own), RRun (Z1p) (EE 73 [(.p (.lst ox0 (x0.map Zv))), (.clo 66 [] [])] []) r
theorem Z94 (x0 : List Z8) (ox0 : Own) : Sim (Z1p) (Z3Y x0) (EE 73 [(.p (.lst ox0 (x0.map Zv))), (.clo 66 [] [])] []) := fun _ h => pick_to h ox0
noncomputable def Z2L (x0 : List Z8) (x7 : Int) (x8 : Int) : Option (Int) := pick fun r => ∀ (ox0 : Own), RRun (Z1p) (Zcf 0 (.p (.lst ox0 (x0.map Zv))) (.clo 66 [] []) (iv x7) (iv x8) []) r
theorem Z5J (x0 : List Z8) (x7 : Int) (x8 : Int) (ox0 : Own) : Sim (Z1p) (Z2L x0 x7 x8) (Zcf 0 (.p (.lst ox0 (x0.map Zv))) (.clo 66 [] []) (iv x7) (iv x8) []) := fun _ h => pick_to h ox0
noncomputable def Z7G (x0 : Z8) : Option (Bool) := pick fun r => RRun (Z6D) (EE 66 [(.p (.agg (ZF x0)))] []) r
theorem Zdy (x0 : Z8) : Sim (Z6D) (Z7G x0) (EE 66 [(.p (.agg (ZF x0)))] []) := fun _ h => pick_to h
noncomputable def Z52 (x0 : Z8) : Option (Bool) := pick fun r => RRun (Z56) (EE 67 [(.p (.agg (ZF x0)))] []) r
theorem Z8y (x0 : Z8) : Sim (Z56) (Z52 x0) (EE 67 [(.p (.agg (ZF x0)))] []) := fun _ h => pick_to h
noncomputable def Z7Q (x0 : List Z8) : Option ((List Z8)) := pick fun r => ∀ (ox0 : Own), RRun (Z82) (EE 68 [(.p (.lst ox0 (x0.map Zv)))] []) r
theorem Zag (x0 : List Z8) (ox0 : Own) : Sim (Z82) (Z7Q x0) (EE 68 [(.p (.lst ox0 (x0.map Zv)))] []) := fun _ h => pick_to h ox0
noncomputable def Z6i (x0 : List Z8) : Option ((List Z8) × Int) := pick fun r => ∀ (ox0 : Own), RRun (Z5E) (EE 55 [(.p (.lst ox0 (x0.map Zv)))] []) r
theorem Z9Z (x0 : List Z8) (ox0 : Own) : Sim (Z5E) (Z6i x0) (EE 55 [(.p (.lst ox0 (x0.map Zv)))] []) := fun _ h => pick_to h ox0
noncomputable def Z4t (x0 : List Z8) : Option (Bool) := pick fun r => ∀ (ox0 : Own), RRun (Z1P) (EE 69 [(.p (.lst ox0 (x0.map Zv)))] []) r
theorem Z6J (x0 : List Z8) (ox0 : Own) : Sim (Z1P) (Z4t x0) (EE 69 [(.p (.lst ox0 (x0.map Zv)))] []) := fun _ h => pick_to h ox0
noncomputable def Z4p (x3 : Int) (x6 : List Z8) (x7 : Int) (x8 : Int) : Option (Bool) := pick fun r => ∀ (ox6 : Own), RRun (Z1P) (Zc6 0 (iv x3) (.p (.lst ox6 (x6.map Zv))) (iv x7) (iv x8) []) r
theorem Z7y (x3 : Int) (x6 : List Z8) (x7 : Int) (x8 : Int) (ox6 : Own) : Sim (Z1P) (Z4p x3 x6 x7 x8) (Zc6 0 (iv x3) (.p (.lst ox6 (x6.map Zv))) (iv x7) (iv x8) []) := fun _ h => pick_to h ox6
noncomputable def Z7i (x0 : List Z8) : Option ((List Z8)) := pick fun r => ∀ (ox0 : Own), RRun (Z2i) (EE 70 [(.p (.lst ox0 (x0.map Zv)))] []) r
theorem Zd4 (x0 : List Z8) (ox0 : Own) : Sim (Z2i) (Z7i x0) (EE 70 [(.p (.lst ox0 (x0.map Zv)))] []) := fun _ h => pick_to h ox0
noncomputable def Z5q (x3 : List Z8) (x4 : Int) (x7 : List Z8) (x8 : Int) (x9 : Int) : Option ((List Z8)) := pick fun r => ∀ (ox3 : Own) (ox7 : Own) (hox3 : okApp ox3 = true), RRun (Z2i) (ZbZ 0 (.p (.lst ox3 (x3.map Zv))) (iv x4) (.p (.lst ox7 (x7.map Zv))) (iv x8) (iv x9) []) r
theorem Z8U (x3 : List Z8) (x4 : Int) (x7 : List Z8) (x8 : Int) (x9 : Int) (ox3 : Own) (ox7 : Own) (hox3 : okApp ox3 = true) : Sim (Z2i) (Z5q x3 x4 x7 x8 x9) (ZbZ 0 (.p (.lst ox3 (x3.map Zv))) (iv x4) (.p (.lst ox7 (x7.map Zv))) (iv x8) (iv x9) []) := fun _ h => pick_to h ox3 ox7 hox3
noncomputable def Z38 (x1 : Int) (zl : List Int) (zp : Int) (z7 : Int) (zd : Int) (zh : List Zq) (z2 : Int) (z6 : Int) : Option (Z3 × Int × (List Zq) × Int × Int) := pick fun r => ∀ (zn : Own) (zb : Own) (zu : okApp zb = true), RRun (Z2E zl z7 zd zn) (EE 49 [(.ptr 0 0), (iv x1)] [(Zi (Zk.mk zl zp z7 zd zh (Zj.mk z2 z6)) zn zb)]) r
theorem ZaR (x1 : Int) (zl : List Int) (zp : Int) (z7 : Int) (zd : Int) (zh : List Zq) (z2 : Int) (z6 : Int) (zn : Own) (zb : Own) (zu : okApp zb = true) : Sim (Z2E zl z7 zd zn) (Z38 x1 zl zp z7 zd zh z2 z6) (EE 49 [(.ptr 0 0), (iv x1)] [(Zi (Zk.mk zl zp z7 zd zh (Zj.mk z2 z6)) zn zb)]) := fun _ h => pick_to h zn zb zu
noncomputable def ZS (x1 : Int) (x2 : Int) (zl : List Int) (z2 : Int) (z6 : Int) : Option (Int × Int × Int) := pick fun r => ∀ (zp : Int) (z7 : Int) (zd : Int) (zh : List Zq) (zn : Own) (zb : Own) (zu : okApp zb = true), RRun (Z4d zl z7 zd zh zn zb) (EE 29 [(.ptr 0 0), (iv x1), (iv x2)] [(Zi (Zk.mk zl zp z7 zd zh (Zj.mk z2 z6)) zn zb)]) r
theorem ZV (x1 : Int) (x2 : Int) (zl : List Int) (zp : Int) (z7 : Int) (zd : Int) (zh : List Zq) (z2 : Int) (z6 : Int) (zn : Own) (zb : Own) (zu : okApp zb = true) : Sim (Z4d zl z7 zd zh zn zb) (ZS x1 x2 zl z2 z6) (EE 29 [(.ptr 0 0), (iv x1), (iv x2)] [(Zi (Zk.mk zl zp z7 zd zh (Zj.mk z2 z6)) zn zb)]) := fun _ h => pick_to h zp z7 zd zh zn zb zu
noncomputable def Z4W (x0 : Int) : Option ((Own × (List Z8))) := pick fun r => RRun (Z4X) (EE 56 [(iv x0)] []) r
theorem Z6W (x0 : Int) : Sim (Z4X) (Z4W x0) (EE 56 [(iv x0)] []) := fun _ h => pick_to h
noncomputable def Z4L (x1 : Int) (x2 : Int) (zl : List Int) (zp : Int) (z7 : Int) (zd : Int) (zh : List Zq) (z2 : Int) (z6 : Int) : Option (Int × Int × Int × Int) := pick fun r => ∀ (zn : Own) (zb : Own) (zu : okApp zb = true), RRun (Z3g zl z7 zd zh zn zb) (EE 57 [(.ptr 0 0), (iv x1), (iv x2)] [(Zi (Zk.mk zl zp z7 zd zh (Zj.mk z2 z6)) zn zb)]) r
theorem Z85 (x1 : Int) (x2 : Int) (zl : List Int) (zp : Int) (z7 : Int) (zd : Int) (zh : List Zq) (z2 : Int) (z6 : Int) (zn : Own) (zb : Own) (zu : okApp zb = true) : Sim (Z3g zl z7 zd zh zn zb) (Z4L x1 x2 zl zp z7 zd zh z2 z6) (EE 57 [(.ptr 0 0), (iv x1), (iv x2)] [(Zi (Zk.mk zl zp z7 zd zh (Zj.mk z2 z6)) zn zb)]) := fun _ h => pick_to h zn zb zu
noncomputable def Z8r (x0 : Int) : Option (Int) := pick fun r => RRun (Z5i) (EE 71 [(iv x0)] []) r
theorem ZbQ (x0 : Int) : Sim (Z5i) (Z8r x0) (EE 71 [(iv x0)] []) := fun _ h => pick_to h
noncomputable def Z6k (x0 : List Z8) (x1 : Int) : Option (Bool) := pick fun r => ∀ (ox0 : Own), RRun (Z6p) (EE 19 [(.p (.lst ox0 (x0.map Zv))), (iv x1)] []) r
theorem Zdd (x0 : List Z8) (x1 : Int) (ox0 : Own) : Sim (Z6p) (Z6k x0 x1) (EE 19 [(.p (.lst ox0 (x0.map Zv))), (iv x1)] []) := fun _ h => pick_to h ox0
noncomputable def Z3i (x0 : List Z8) (zZ : Int) : Option (Bool) := pick fun r => ∀ (ox0 : Own), RRun (Z2N zZ) (EE 30 [(.p (.lst ox0 (x0.map Zv))), (.clo 31 [] [(.ptr 0 0)])] [[(iv zZ)]]) r
theorem Z8f (x0 : List Z8) (zZ : Int) (ox0 : Own) : Sim (Z2N zZ) (Z3i x0 zZ) (EE 30 [(.p (.lst ox0 (x0.map Zv))), (.clo 31 [] [(.ptr 0 0)])] [[(iv zZ)]]) := fun _ h => pick_to h ox0
noncomputable def Z3W (x0 : List Z8) (zZ : Int) : Option (Int) := pick fun r => ∀ (ox0 : Own), RRun (Z1r zZ) (EE 37 [(.p (.lst ox0 (x0.map Zv))), (.clo 31 [] [(.ptr 0 0)])] [[(iv zZ)]]) r
theorem Z95 (x0 : List Z8) (zZ : Int) (ox0 : Own) : Sim (Z1r zZ) (Z3W x0 zZ) (EE 37 [(.p (.lst ox0 (x0.map Zv))), (.clo 31 [] [(.ptr 0 0)])] [[(iv zZ)]]) := fun _ h => pick_to h ox0
noncomputable def Z2P (x0 : List Z8) (x7 : Int) (x8 : Int) (zZ : Int) : Option (Int) := pick fun r => ∀ (ox0 : Own), RRun (Z1r zZ) (ZbI 1 (.p (.lst ox0 (x0.map Zv))) (.clo 31 [] [(.ptr 0 0)]) (iv x7) (iv x8) [[(iv zZ)]]) r
theorem Z5L (x0 : List Z8) (x7 : Int) (x8 : Int) (zZ : Int) (ox0 : Own) : Sim (Z1r zZ) (Z2P x0 x7 x8 zZ) (ZbI 1 (.p (.lst ox0 (x0.map Zv))) (.clo 31 [] [(.ptr 0 0)]) (iv x7) (iv x8) [[(iv zZ)]]) := fun _ h => pick_to h ox0
noncomputable def Z6x (x0 : Z8) (zZ : Int) : Option (Bool) := pick fun r => RRun (Z5K zZ) (EE 31 [(.p (.agg (ZF x0))), (.ptr 0 0)] [[(iv zZ)]]) r
theorem Zcw (x0 : Z8) (zZ : Int) : Sim (Z5K zZ) (Z6x x0 zZ) (EE 31 [(.p (.agg (ZF x0))), (.ptr 0 0)] [[(iv zZ)]]) := fun _ h => pick_to h
noncomputable def Z5Q (x1 : Int) (zl : List Int) (zp : Int) (z7 : Int) (zd : Int) (zh : List Zq) (z2 : Int) (z6 : Int) : Option (Z3 × Int × Int × Int) := pick fun r => ∀ (zn : Own) (zb : Own) (zu : okApp zb = true), RRun (Z19 zl z7 zd zh zn zb) (EE 50 [(.ptr 0 0), (iv x1)] [(Zi (Zk.mk zl zp z7 zd zh (Zj.mk z2 z6)) zn zb)]) r
theorem Zbh (x1 : Int) (zl : List Int) (zp : Int) (z7 : Int) (zd : Int) (zh : List Zq) (z2 : Int) (z6 : Int) (zn : Own) (zb : Own) (zu : okApp zb = true) : Sim (Z19 zl z7 zd zh zn zb) (Z5Q x1 zl zp z7 zd zh z2 z6) (EE 50 [(.ptr 0 0), (iv x1)] [(Zi (Zk.mk zl zp z7 zd zh (Zj.mk z2 z6)) zn zb)]) := fun _ h => pick_to h zn zb zu
noncomputable def Z2Q (x1 : Int) (x5 : Bool) (x8 : Int) (zl : List Int) (zp : Int) (z7 : Int) (zd : Int) (zh : List Zq) (z2 : Int) (z6 : Int) (z10 : List Z8) : Option (Z3 × Int × Int × Int) := pick fun r => ∀ (b1 : Z3) (zn : Own) (zb : Own) (zB : Own) (zy : Own) (z1f : Own) (zu : okApp zb = true) (zP : okApp zB = true) (zI : okApp zy = true), RRun (Z19 zl z7 zd zh zn zb) (Zc7 1 (.ptr 0 0) (iv x1) (.ptr 1 0) (bv x5) (.ptr 2 0) (.clo 58 [] [(.ptr 2 0)]) (iv x8) [(Zi (Zk.mk zl zp z7 zd zh (Zj.mk z2 z6)) zn zb), (Zo b1 zB zy), [(.p (.lst z1f (z10.map Zv)))]]) r
theorem Z75 (x1 : Int) (x5 : Bool) (x8 : Int) (zl : List Int) (zp : Int) (z7 : Int) (zd : Int) (zh : List Zq) (z2 : Int) (z6 : Int) (b1 : Z3) (z10 : List Z8) (zn : Own) (zb : Own) (zB : Own) (zy : Own) (z1f : Own) (zu : okApp zb = true) (zP : okApp zB = true) (zI : okApp zy = true) : Sim (Z19 zl z7 zd zh zn zb) (Z2Q x1 x5 x8 zl zp z7 zd zh z2 z6 z10) (Zc7 1 (.ptr 0 0) (iv x1) (.ptr 1 0) (bv x5) (.ptr 2 0) (.clo 58 [] [(.ptr 2 0)]) (iv x8) [(Zi (Zk.mk zl zp z7 zd zh (Zj.mk z2 z6)) zn zb), (Zo b1 zB zy), [(.p (.lst z1f (z10.map Zv)))]]) := fun _ h => pick_to h b1 zn zb zB zy z1f zu zP zI
noncomputable def Z3F (zl : List Int) (zp : Int) (z7 : Int) (zd : Int) (zh : List Zq) (z2 : Int) (z6 : Int) : Option (Int × (Own × (List Z8)) × Bool × Int × Int × Int) := pick fun r => ∀ (zn : Own) (zb : Own) (zu : okApp zb = true), RRun (Z2G zl z7 zd zh zn zb) (EE 60 [(.ptr 0 0)] [(Zi (Zk.mk zl zp z7 zd zh (Zj.mk z2 z6)) zn zb)]) r
theorem Z7C (zl : List Int) (zp : Int) (z7 : Int) (zd : Int) (zh : List Zq) (z2 : Int) (z6 : Int) (zn : Own) (zb : Own) (zu : okApp zb = true) : Sim (Z2G zl z7 zd zh zn zb) (Z3F zl zp z7 zd zh z2 z6) (EE 60 [(.ptr 0 0)] [(Zi (Zk.mk zl zp z7 zd zh (Zj.mk z2 z6)) zn zb)]) := fun _ h => pick_to h zn zb zu
noncomputable def Z4h (x0 : List Z8) (zZ : List Z8) : Option ((List Z8)) := pick fun r => ∀ (ox0 : Own) (z9Q : Own), RRun (Z4j) (EE 58 [(.p (.lst ox0 (x0.map Zv))), (.ptr 0 0)] [[(.p (.lst z9Q (zZ.map Zv)))]]) r
theorem Z7f (x0 : List Z8) (zZ : List Z8) (ox0 : Own) (z9Q : Own) : Sim (Z4j) (Z4h x0 zZ) (EE 58 [(.p (.lst ox0 (x0.map Zv))), (.ptr 0 0)] [[(.p (.lst z9Q (zZ.map Zv)))]]) := fun _ h => pick_to h ox0 z9Q
noncomputable def Z81 (x0 : List Z8) (x1 : List Z8) : Option ((List Z8) × Int) := pick fun r => ∀ (ox0 : Own) (ox1 : Own), RRun (Z5d) (EE 59 [(.p (.lst ox0 (x0.map Zv))), (.p (.lst ox1 (x1.map Zv)))] []) r
theorem ZdC (x0 : List Z8) (x1 : List Z8) (ox0 : Own) (ox1 : Own) : Sim (Z5d) (Z81 x0 x1) (EE 59 [(.p (.lst ox0 (x0.map Zv))), (.p (.lst ox1 (x1.map Zv)))] []) := fun _ h => pick_to h ox0 ox1
noncomputable def Z6H (x0 : List (List Z8)) : Option ((List Z8)) := pick fun r => ∀ (ox0 : Own), RRun (Z5y) (EE 72 [(.p (.lst ox0 (x0.map (eL Zv))))] []) r
theorem ZaU (x0 : List (List Z8)) (ox0 : Own) : Sim (Z5y) (Z6H x0) (EE 72 [(.p (.lst ox0 (x0.map (eL Zv))))] []) := fun _ h => pick_to h ox0
noncomputable def Z3c (x1 : Int) (zl : List Int) (zp : Int) (z7 : Int) (zd : Int) (zh : List Zq) (z2 : Int) (z6 : Int) : Option (Z3 × Bool × Int × Int × Int × (List Zq) × Int × Int) := pick fun r => ∀ (zn : Own) (zb : Own) (zu : okApp zb = true), RRun (Z2b zl zn) (EE 51 [(.ptr 0 0), (iv x1)] [(Zi (Zk.mk zl zp z7 zd zh (Zj.mk z2 z6)) zn zb)]) r
theorem Zb2 (x1 : Int) (zl : List Int) (zp : Int) (z7 : Int) (zd : Int) (zh : List Zq) (z2 : Int) (z6 : Int) (zn : Own) (zb : Own) (zu : okApp zb = true) : Sim (Z2b zl zn) (Z3c x1 zl zp z7 zd zh z2 z6) (EE 51 [(.ptr 0 0), (iv x1)] [(Zi (Zk.mk zl zp z7 zd zh (Zj.mk z2 z6)) zn zb)]) := fun _ h => pick_to h zn zb zu
noncomputable def Z8C  : Option ((List ByteArray)) := pick fun r => RRun (Z72) (EE 62 [] []) r
theorem ZdJ  : Sim (Z72) (Z8C) (EE 62 [] []) := fun _ h => pick_to h
noncomputable def Z3I (x0 : List ByteArray) (zl : List Int) (zp : Int) : Option (Int × Int) := pick fun r => ∀ (z7 : Int) (zd : Int) (zh : List Zq) (z2 : Int) (z6 : Int) (ox0 : Own) (zn : Own) (zb : Own) (zu : okApp zb = true), RRun (Z1m zl z7 zd zh z2 z6 zn zb) (EE 61 [(.p (.lst ox0 (x0.map eS))), (.clo 27 [(.ptr 0 0)] [])] [(Zi (Zk.mk zl zp z7 zd zh (Zj.mk z2 z6)) zn zb)]) r
theorem Z8Q (x0 : List ByteArray) (zl : List Int) (zp : Int) (z7 : Int) (zd : Int) (zh : List Zq) (z2 : Int) (z6 : Int) (ox0 : Own) (zn : Own) (zb : Own) (zu : okApp zb = true) : Sim (Z1m zl z7 zd zh z2 z6 zn zb) (Z3I x0 zl zp) (EE 61 [(.p (.lst ox0 (x0.map eS))), (.clo 27 [(.ptr 0 0)] [])] [(Zi (Zk.mk zl zp z7 zd zh (Zj.mk z2 z6)) zn zb)]) := fun _ h => pick_to h z7 zd zh z2 z6 ox0 zn zb zu
noncomputable def Z1w (x0 : List ByteArray) (x7 : Int) (x8 : Int) (zl : List Int) (zp : Int) : Option (Int × Int) := pick fun r => ∀ (z7 : Int) (zd : Int) (zh : List Zq) (z2 : Int) (z6 : Int) (ox0 : Own) (zn : Own) (zb : Own) (zu : okApp zb = true), RRun (Z1m zl z7 zd zh z2 z6 zn zb) (ZbN 1 (.p (.lst ox0 (x0.map eS))) (.clo 27 [(.ptr 0 0)] []) (iv x7) (iv x8) [(Zi (Zk.mk zl zp z7 zd zh (Zj.mk z2 z6)) zn zb)]) r
theorem Z5A (x0 : List ByteArray) (x7 : Int) (x8 : Int) (zl : List Int) (zp : Int) (z7 : Int) (zd : Int) (zh : List Zq) (z2 : Int) (z6 : Int) (ox0 : Own) (zn : Own) (zb : Own) (zu : okApp zb = true) : Sim (Z1m zl z7 zd zh z2 z6 zn zb) (Z1w x0 x7 x8 zl zp) (ZbN 1 (.p (.lst ox0 (x0.map eS))) (.clo 27 [(.ptr 0 0)] []) (iv x7) (iv x8) [(Zi (Zk.mk zl zp z7 zd zh (Zj.mk z2 z6)) zn zb)]) := fun _ h => pick_to h z7 zd zh z2 z6 ox0 zn zb zu
noncomputable def Z4z (x1 : Z3) (x2 : Bool) (zl : List Int) (zp : Int) (z7 : Int) (zd : Int) (zh : List Zq) (z2 : Int) (z6 : Int) : Option (Z3 × Int × Int × Int) := pick fun r => ∀ (z2a : Own) (z1M : Own) (zn : Own) (zb : Own) (zu : okApp zb = true), RRun (Z2F zl z7 zd zh zn zb) (EE 43 [(.ptr 0 0), (.p (.agg (Zz x1 z2a z1M))), (bv x2)] [(Zi (Zk.mk zl zp z7 zd zh (Zj.mk z2 z6)) zn zb)]) r
theorem Zb1 (x1 : Z3) (x2 : Bool) (zl : List Int) (zp : Int) (z7 : Int) (zd : Int) (zh : List Zq) (z2 : Int) (z6 : Int) (z2a : Own) (z1M : Own) (zn : Own) (zb : Own) (zu : okApp zb = true) : Sim (Z2F zl z7 zd zh zn zb) (Z4z x1 x2 zl zp z7 zd zh z2 z6) (EE 43 [(.ptr 0 0), (.p (.agg (Zz x1 z2a z1M))), (bv x2)] [(Zi (Zk.mk zl zp z7 zd zh (Zj.mk z2 z6)) zn zb)]) := fun _ h => pick_to h z2a z1M zn zb zu
noncomputable def Z4q (x1 : Int) (zl : List Int) (zp : Int) (z7 : Int) (zd : Int) (zh : List Zq) (z2 : Int) (z6 : Int) : Option (Int × Int × Int × Int × Int) := pick fun r => ∀ (zn : Own) (zb : Own) (zu : okApp zb = true), RRun (Z1Q zl z7 zd zh zn zb) (EE 52 [(.ptr 0 0), (iv x1)] [(Zi (Zk.mk zl zp z7 zd zh (Zj.mk z2 z6)) zn zb)]) r
theorem ZaV (x1 : Int) (zl : List Int) (zp : Int) (z7 : Int) (zd : Int) (zh : List Zq) (z2 : Int) (z6 : Int) (zn : Own) (zb : Own) (zu : okApp zb = true) : Sim (Z1Q zl z7 zd zh zn zb) (Z4q x1 zl zp z7 zd zh z2 z6) (EE 52 [(.ptr 0 0), (iv x1)] [(Zi (Zk.mk zl zp z7 zd zh (Zj.mk z2 z6)) zn zb)]) := fun _ h => pick_to h zn zb zu
noncomputable def Z3D (zl : List Int) (zp : Int) (z7 : Int) (zd : Int) (zh : List Zq) (z2 : Int) (z6 : Int) : Option (Int × Int) := pick fun r => ∀ (zn : Own) (zb : Own) (zu : okApp zb = true), RRun (Z24 zl z7 zd zh z2 z6 zn zb) (EE 63 [(.ptr 0 0)] [(Zi (Zk.mk zl zp z7 zd zh (Zj.mk z2 z6)) zn zb)]) r
theorem Z7v (zl : List Int) (zp : Int) (z7 : Int) (zd : Int) (zh : List Zq) (z2 : Int) (z6 : Int) (zn : Own) (zb : Own) (zu : okApp zb = true) : Sim (Z24 zl z7 zd zh z2 z6 zn zb) (Z3D zl zp z7 zd zh z2 z6) (EE 63 [(.ptr 0 0)] [(Zi (Zk.mk zl zp z7 zd zh (Zj.mk z2 z6)) zn zb)]) := fun _ h => pick_to h zn zb zu
noncomputable def Z2z (x3 : Int) (x4 : Int) (zl : List Int) (zp : Int) (z7 : Int) (zd : Int) (zh : List Zq) (z2 : Int) (z6 : Int) : Option (Int × Int) := pick fun r => ∀ (zn : Own) (zb : Own) (zu : okApp zb = true), RRun (Z24 zl z7 zd zh z2 z6 zn zb) (Zc4 1 (.ptr 0 0) (iv x3) (iv x4) [(Zi (Zk.mk zl zp z7 zd zh (Zj.mk z2 z6)) zn zb)]) r
theorem Z6S (x3 : Int) (x4 : Int) (zl : List Int) (zp : Int) (z7 : Int) (zd : Int) (zh : List Zq) (z2 : Int) (z6 : Int) (zn : Own) (zb : Own) (zu : okApp zb = true) : Sim (Z24 zl z7 zd zh z2 z6 zn zb) (Z2z x3 x4 zl zp z7 zd zh z2 z6) (Zc4 1 (.ptr 0 0) (iv x3) (iv x4) [(Zi (Zk.mk zl zp z7 zd zh (Zj.mk z2 z6)) zn zb)]) := fun _ h => pick_to h zn zb zu
noncomputable def Z3A (x3 : List Z3) (zl : List Int) (zp : Int) (z7 : Int) (zd : Int) (zh : List Zq) (z2 : Int) (z6 : Int) : Option (Z3 × Int × Int × Int × (List Zq) × Int × Int) := pick fun r => ∀ (b1 : Z3) (ox3 : Own) (zn : Own) (zb : Own) (zB : Own) (zy : Own) (hox3 : okApp ox3 = true) (zu : okApp zb = true) (zP : okApp zB = true) (zI : okApp zy = true), RRun (Z2v zl zn) (Zc5 1 (.ptr 0 0) (.ptr 1 0) (.p (.lst ox3 (x3.map ZD))) [(Zi (Zk.mk zl zp z7 zd zh (Zj.mk z2 z6)) zn zb), (Zo b1 zB zy)]) r
theorem Z7z (x3 : List Z3) (zl : List Int) (zp : Int) (z7 : Int) (zd : Int) (zh : List Zq) (z2 : Int) (z6 : Int) (b1 : Z3) (ox3 : Own) (zn : Own) (zb : Own) (zB : Own) (zy : Own) (hox3 : okApp ox3 = true) (zu : okApp zb = true) (zP : okApp zB = true) (zI : okApp zy = true) : Sim (Z2v zl zn) (Z3A x3 zl zp z7 zd zh z2 z6) (Zc5 1 (.ptr 0 0) (.ptr 1 0) (.p (.lst ox3 (x3.map ZD))) [(Zi (Zk.mk zl zp z7 zd zh (Zj.mk z2 z6)) zn zb), (Zo b1 zB zy)]) := fun _ h => pick_to h b1 ox3 zn zb zB zy hox3 zu zP zI
noncomputable def Z5a (x50 : List Zq) (x51 : Int) (x52 : Int) (z1S : List Int) (zQ : Int) (zH : Int) (zR : Int) (zJ : Int) (zT : Int) (zU : Int) (zL : Int) (zO : Int) (zN : List Z8) (zK : List Z3) (z13 : Bool) : Option (ZC × Zj) := pick fun r => ∀ (b0 : ZC) (b1 : Zj) (z1L : Int) (z1C : Int) (z1h : List Zq) (z1u : Int) (ox50 : Own) (zM : Own) (zG : Own) (z2j : Own) (z18 : Own) (z11 : Own) (zX : Own) (z1x : okApp zM = true) (z1q : okApp zG = true) (z2s : okApp z18 = true), RRun (Z2o) (ZbL 0 (.ptr 0 0) (.ptr 1 0) (.ptr 2 0) (.ptr 3 0) (.p (.lst ox50 (x50.map Z1E))) (iv x51) (iv x52) [(Zw b0 zM zG), (ZE b1), (Zi (Zk.mk z1S z1L zQ z1C z1h (Zj.mk zH zR)) z2j z18), (Zw (ZC.mk (Z3.mk zJ zT zU zL zO zN zK) z1u z13) z11 zX)]) r
theorem Z9v (x50 : List Zq) (x51 : Int) (x52 : Int) (b0 : ZC) (b1 : Zj) (z1S : List Int) (z1L : Int) (zQ : Int) (z1C : Int) (z1h : List Zq) (zH : Int) (zR : Int) (zJ : Int) (zT : Int) (zU : Int) (zL : Int) (zO : Int) (zN : List Z8) (zK : List Z3) (z1u : Int) (z13 : Bool) (ox50 : Own) (zM : Own) (zG : Own) (z2j : Own) (z18 : Own) (z11 : Own) (zX : Own) (z1x : okApp zM = true) (z1q : okApp zG = true) (z2s : okApp z18 = true) : Sim (Z2o) (Z5a x50 x51 x52 z1S zQ zH zR zJ zT zU zL zO zN zK z13) (ZbL 0 (.ptr 0 0) (.ptr 1 0) (.ptr 2 0) (.ptr 3 0) (.p (.lst ox50 (x50.map Z1E))) (iv x51) (iv x52) [(Zw b0 zM zG), (ZE b1), (Zi (Zk.mk z1S z1L zQ z1C z1h (Zj.mk zH zR)) z2j z18), (Zw (ZC.mk (Z3.mk zJ zT zU zL zO zN zK) z1u z13) z11 zX)]) := fun _ h => pick_to h b0 b1 z1L z1C z1h z1u ox50 zM zG z2j z18 z11 zX z1x z1q z2s
noncomputable def Z1s (x0 : Z3) : Option (Int × Int) := pick fun r => ∀ (z1c : Own) (zY : Own), RRun (Z21) (EE 24 [(.p (.agg (Zz x0 z1c zY)))] []) r
theorem Z3O (x0 : Z3) (z1c : Own) (zY : Own) : Sim (Z21) (Z1s x0) (EE 24 [(.p (.agg (Zz x0 z1c zY)))] []) := fun _ h => pick_to h z1c zY
noncomputable def Z5c (x2 : Int) (x3 : Int) (x23 : List Z3) (x24 : Int) (x25 : Int) : Option (Int × Int) := pick fun r => ∀ (ox23 : Own), RRun (Z21) (ZbU 0 (iv x2) (iv x3) (.p (.lst ox23 (x23.map ZD))) (iv x24) (iv x25) []) r
theorem Z9u (x2 : Int) (x3 : Int) (x23 : List Z3) (x24 : Int) (x25 : Int) (ox23 : Own) : Sim (Z21) (Z5c x2 x3 x23 x24 x25) (ZbU 0 (iv x2) (iv x3) (.p (.lst ox23 (x23.map ZD))) (iv x24) (iv x25) []) := fun _ h => pick_to h ox23
noncomputable def Z46 (x2 : Int) (x3 : Int) (x45 : List Z3) (x46 : Int) (x47 : Int) : Option (Int × Int) := pick fun r => ∀ (ox45 : Own), RRun (Z21) (ZaI 0 (iv x2) (iv x3) (.p (.lst ox45 (x45.map ZD))) (iv x46) (iv x47) []) r
theorem Z9j (x2 : Int) (x3 : Int) (x45 : List Z3) (x46 : Int) (x47 : Int) (ox45 : Own) : Sim (Z21) (Z46 x2 x3 x45 x46 x47) (ZaI 0 (iv x2) (iv x3) (.p (.lst ox45 (x45.map ZD))) (iv x46) (iv x47) []) := fun _ h => pick_to h ox45
noncomputable def Z6e (x0 : Int) (x1 : Int) : Option (Int) := pick fun r => RRun (Z4l) (EE 33 [(iv x0), (iv x1)] []) r
theorem ZdP (x0 : Int) (x1 : Int) : Sim (Z4l) (Z6e x0 x1) (EE 33 [(iv x0), (iv x1)] []) := fun _ h => pick_to h
noncomputable def Z7s (x0 : Int) : Option (Int) := pick fun r => RRun (Z6O) (EE 38 [(iv x0)] []) r
theorem Zbk (x0 : Int) : Sim (Z6O) (Z7s x0) (EE 38 [(iv x0)] []) := fun _ h => pick_to h
noncomputable def Z9R (x0 : Int) (x1 : Int) : Option (Int) := pick fun r => RRun (Z6r) (EE 32 [(iv x0), (iv x1)] []) r
theorem ZeR (x0 : Int) (x1 : Int) : Sim (Z6r) (Z9R x0 x1) (EE 32 [(iv x0), (iv x1)] []) := fun _ h => pick_to h
noncomputable def Z2g (x0 : Z3) : Option (Int) := pick fun r => ∀ (z1c : Own) (zY : Own), RRun (Z3h) (EE 25 [(.p (.agg (Zz x0 z1c zY)))] []) r
theorem Z7e (x0 : Z3) (z1c : Own) (zY : Own) : Sim (Z3h) (Z2g x0) (EE 25 [(.p (.agg (Zz x0 z1c zY)))] []) := fun _ h => pick_to h z1c zY
noncomputable def Z3z (x3 : Int) (x8 : List Z3) (x9 : Int) (x10 : Int) (b0 : Z3) : Option (Int) := pick fun r => ∀ (ox8 : Own) (z1d : Own) (z12 : Own), RRun (Z3h) (ZbY 0 (.ptr 0 0) (iv x3) (.p (.lst ox8 (x8.map ZD))) (iv x9) (iv x10) [(Zo b0 z1d z12)]) r
theorem Za6 (x3 : Int) (x8 : List Z3) (x9 : Int) (x10 : Int) (b0 : Z3) (ox8 : Own) (z1d : Own) (z12 : Own) : Sim (Z3h) (Z3z x3 x8 x9 x10 b0) (ZbY 0 (.ptr 0 0) (iv x3) (.p (.lst ox8 (x8.map ZD))) (iv x9) (iv x10) [(Zo b0 z1d z12)]) := fun _ h => pick_to h ox8 z1d z12
noncomputable def Z4Z (x0 : ZC) : Option (Int) := pick fun r => ∀ (z2B : Own) (z2n : Own), RRun (Z6d) (EE 26 [(.p (.agg (Z1j x0 z2B z2n)))] []) r
theorem Z8O (x0 : ZC) (z2B : Own) (z2n : Own) : Sim (Z6d) (Z4Z x0) (EE 26 [(.p (.agg (Z1j x0 z2B z2n)))] []) := fun _ h => pick_to h z2B z2n
noncomputable def Z2W (x0 : Z3) : Option (Bool) := pick fun r => ∀ (z1c : Own) (zY : Own), RRun (Z49) (EE 34 [(.p (.agg (Zz x0 z1c zY)))] []) r
theorem Za5 (x0 : Z3) (z1c : Own) (zY : Own) : Sim (Z49) (Z2W x0) (EE 34 [(.p (.agg (Zz x0 z1c zY)))] []) := fun _ h => pick_to h z1c zY
noncomputable def Z3w (x0 : List Z3) : Option (Bool) := pick fun r => ∀ (ox0 : Own), RRun (Z2U) (EE 39 [(.p (.lst ox0 (x0.map ZD))), (.clo 40 [] [])] []) r
theorem Z8v (x0 : List Z3) (ox0 : Own) : Sim (Z2U) (Z3w x0) (EE 39 [(.p (.lst ox0 (x0.map ZD))), (.clo 40 [] [])] []) := fun _ h => pick_to h ox0
noncomputable def Z4a (x0 : List Z3) : Option (Int) := pick fun r => ∀ (ox0 : Own), RRun (Z1t) (EE 44 [(.p (.lst ox0 (x0.map ZD))), (.clo 40 [] [])] []) r
theorem Z9b (x0 : List Z3) (ox0 : Own) : Sim (Z1t) (Z4a x0) (EE 44 [(.p (.lst ox0 (x0.map ZD))), (.clo 40 [] [])] []) := fun _ h => pick_to h ox0
noncomputable def Z2T (x0 : List Z3) (x7 : Int) (x8 : Int) : Option (Int) := pick fun r => ∀ (ox0 : Own), RRun (Z1t) (ZbO 0 (.p (.lst ox0 (x0.map ZD))) (.clo 40 [] []) (iv x7) (iv x8) []) r
theorem Z5T (x0 : List Z3) (x7 : Int) (x8 : Int) (ox0 : Own) : Sim (Z1t) (Z2T x0 x7 x8) (ZbO 0 (.p (.lst ox0 (x0.map ZD))) (.clo 40 [] []) (iv x7) (iv x8) []) := fun _ h => pick_to h ox0
noncomputable def Z6y (x0 : Z3) : Option (Bool) := pick fun r => ∀ (z1c : Own) (zY : Own), RRun (Z5H) (EE 40 [(.p (.agg (Zz x0 z1c zY)))] []) r
theorem Zcs (x0 : Z3) (z1c : Own) (zY : Own) : Sim (Z5H) (Z6y x0) (EE 40 [(.p (.agg (Zz x0 z1c zY)))] []) := fun _ h => pick_to h z1c zY
end Go.Proofs.YtadodmjdkphddaaDoor.N2
end
