/- The functions, read typed: their types, and what they stand for. No condition. -/
import Derived.Test.YtadodmjdkphddaaDoorSim
import Derived.Test.YtadodmjdkphddaaDoorEqs

noncomputable section
set_option linter.unusedSimpArgs false
set_option linter.unusedVariables false
namespace Go.Proofs.YtadodmjdkphddaaDoor.N2
open Go Go.Abs
set_option linter.unusedVariables false
set_option maxRecDepth 100000
structure Z7 where
 Lo : Int
 Hi : Int
 deriving Inhabited
def Z3I (a : Z7) : List PV := [(eI .i64) a.Lo, (eI .i64) a.Hi]
def Zv (a : Z7) : PV := .agg (Z3I a)
def ZG (a : Z7) : List PV := [(eI .i64) a.Lo, (eI .i64) a.Hi]
def Z1I (a : Z7) : Row := [.p ((eI .i64) a.Lo), .p ((eI .i64) a.Hi)]
theorem ZaZ {a b : Z7} (h : Z3I a = Z3I b) : a = b := by
 have h0 : a.Lo = b.Lo := Z72 _ _ (congrArg (fun l => l.getD 0 .junk) h)
 have h1 : a.Hi = b.Hi := Z72 _ _ (congrArg (fun l => l.getD 1 .junk) h)
 cases a; cases b
 cases h0
 cases h1
 rfl
theorem Z2F (a b : Z7) (h : Zv a = Zv b) : a = b := ZaZ (congrArg pC h)
structure Z8 where
 Kind : Int
 Lo : Int
 Hi : Int
 Mode : Int
 Ref : Int
 Set : (List Z7)
 Kids : (List Z8)
instance : Inhabited Z8 := ⟨⟨default, default, default, default, default, default, default⟩⟩
mutual
def ZX : Z8 → PV
 | ⟨Kind_, Lo_, Hi_, Mode_, Ref_, Set_, Kids_⟩ => .agg [(eI .i64) Kind_, (eI .i64) Lo_, (eI .i64) Hi_, (eI .i64) Mode_, (eI .i64) Ref_, (eL Zv) Set_, .lst .sh (Z4d Kids_)]
def Z4d : List Z8 → List PV
 | [] => []
 | x :: r => ZX x :: Z4d r
end
theorem Zbz : ∀ l, Z4d l = l.map ZX
 | [] => rfl
 | x :: r => by rw [Z4d, Zbz r]; rfl
def Z3i (a : Z8) : List PV := [(eI .i64) a.Kind, (eI .i64) a.Lo, (eI .i64) a.Hi, (eI .i64) a.Mode, (eI .i64) a.Ref, (eL Zv) a.Set, (eL ZX) a.Kids]
theorem Z3y (a : Z8) : ZX a = .agg (Z3i a) := by
 cases a; rw [ZX, Zbz]; rfl
theorem ZaK (a : Z8) : Z1L (ZX a) = Z3i a := by rw [Z3y]; rfl
theorem Ze5 (a : Z8) : (Z1L (ZX a)).length = 7 := by rw [Z3y]; rfl
def ZE (a : Z8) (o0 o1 : Own) : List PV := [(eI .i64) a.Kind, (eI .i64) a.Lo, (eI .i64) a.Hi, (eI .i64) a.Mode, (eI .i64) a.Ref, .lst o0 (a.Set.map Zv), .lst o1 (a.Kids.map ZX)]
def Zr (a : Z8) (o0 o1 : Own) : Row := [.p ((eI .i64) a.Kind), .p ((eI .i64) a.Lo), .p ((eI .i64) a.Hi), .p ((eI .i64) a.Mode), .p ((eI .i64) a.Ref), .p (.lst o0 (a.Set.map Zv)), .p (.lst o1 (a.Kids.map ZX))]
mutual
theorem Zby : ∀ a b : Z8, ZX a = ZX b → a = b
 | ⟨Kind_, Lo_, Hi_, Mode_, Ref_, Set_, Kids_⟩, ⟨Kind_2, Lo_2, Hi_2, Mode_2, Ref_2, Set_2, Kids_2⟩, h => by
  rw [ZX, ZX] at h
  have h0 : Kind_ = Kind_2 := Z72 _ _ (congrArg (fun l => (pC l).getD 0 .junk) h)
  have h1 : Lo_ = Lo_2 := Z72 _ _ (congrArg (fun l => (pC l).getD 1 .junk) h)
  have h2 : Hi_ = Hi_2 := Z72 _ _ (congrArg (fun l => (pC l).getD 2 .junk) h)
  have h3 : Mode_ = Mode_2 := Z72 _ _ (congrArg (fun l => (pC l).getD 3 .junk) h)
  have h4 : Ref_ = Ref_2 := Z72 _ _ (congrArg (fun l => (pC l).getD 4 .junk) h)
  have h5 : Set_ = Set_2 := (Zri Z2F) _ _ (congrArg (fun l => (pC l).getD 5 .junk) h)
  have h6 : Kids_ = Kids_2 := Zb0 Kids_ Kids_2 (congrArg (fun l => pL ((pC l).getD 6 .junk)) h)
  subst h0
  subst h1
  subst h2
  subst h3
  subst h4
  subst h5
  subst h6
  rfl
theorem Zb0 : ∀ a b : List Z8, Z4d a = Z4d b → a = b
 | [], [], _ => rfl
 | [], _ :: _, h => by simp [Z4d] at h
 | _ :: _, [], h => by simp [Z4d] at h
 | x :: r, y :: t, h => by
  simp only [Z4d, List.cons.injEq] at h
  rw [Zby x y h.1, Zb0 r t h.2]
end
theorem Z2W {a b : Z8} (h : Z3i a = Z3i b) : a = b := Zby a b (by rw [Z3y, Z3y, h])
structure ZD where
 Root : Z8
 Groups : Int
 Fold : Bool
 deriving Inhabited
def Zcg (a : ZD) : List PV := [(eI .i64) a.Root.Kind, (eI .i64) a.Root.Lo, (eI .i64) a.Root.Hi, (eI .i64) a.Root.Mode, (eI .i64) a.Root.Ref, (eL Zv) a.Root.Set, (eL ZX) a.Root.Kids, (eI .i64) a.Groups, eB a.Fold]
def Z1x (a : ZD) (o0 o1 : Own) : List PV := [(eI .i64) a.Root.Kind, (eI .i64) a.Root.Lo, (eI .i64) a.Root.Hi, (eI .i64) a.Root.Mode, (eI .i64) a.Root.Ref, .lst o0 (a.Root.Set.map Zv), .lst o1 (a.Root.Kids.map ZX), (eI .i64) a.Groups, eB a.Fold]
def Zw (a : ZD) (o0 o1 : Own) : Row := [.p ((eI .i64) a.Root.Kind), .p ((eI .i64) a.Root.Lo), .p ((eI .i64) a.Root.Hi), .p ((eI .i64) a.Root.Mode), .p ((eI .i64) a.Root.Ref), .p (.lst o0 (a.Root.Set.map Zv)), .p (.lst o1 (a.Root.Kids.map ZX)), .p ((eI .i64) a.Groups), .p (eB a.Fold)]
theorem Zem {a b : ZD} (h : Zcg a = Zcg b) : a = b := by
 have h0 : a.Root = b.Root := Z2W (congrArg (fun l => (l.drop 0).take 7) h)
 have h1 : a.Groups = b.Groups := Z72 _ _ (congrArg (fun l => l.getD 7 .junk) h)
 have h2 : a.Fold = b.Fold := Zrh _ _ (congrArg (fun l => l.getD 8 .junk) h)
 cases a; cases b
 cases h0
 cases h1
 cases h2
 rfl
structure Zj where
 Code : Int
 At : Int
 deriving Inhabited
def Zdz (a : Zj) : List PV := [(eI .i64) a.Code, (eI .i64) a.At]
def Z16 (a : Zj) : List PV := [(eI .i64) a.Code, (eI .i64) a.At]
def ZC (a : Zj) : Row := [.p ((eI .i64) a.Code), .p ((eI .i64) a.At)]
theorem Zff {a b : Zj} (h : Zdz a = Zdz b) : a = b := by
 have h0 : a.Code = b.Code := Z72 _ _ (congrArg (fun l => l.getD 0 .junk) h)
 have h1 : a.At = b.At := Z72 _ _ (congrArg (fun l => l.getD 1 .junk) h)
 cases a; cases b
 cases h0
 cases h1
 rfl
structure Zq where
 group : Int
 at_ : Int
 deriving Inhabited
def Z7i (a : Zq) : List PV := [(eI .i64) a.group, (eI .i64) a.at_]
def Z1S (a : Zq) : PV := .agg (Z7i a)
def Z9w (a : Zq) : List PV := [(eI .i64) a.group, (eI .i64) a.at_]
def Z9y (a : Zq) : Row := [.p ((eI .i64) a.group), .p ((eI .i64) a.at_)]
theorem Zen {a b : Zq} (h : Z7i a = Z7i b) : a = b := by
 have h0 : a.group = b.group := Z72 _ _ (congrArg (fun l => l.getD 0 .junk) h)
 have h1 : a.at_ = b.at_ := Z72 _ _ (congrArg (fun l => l.getD 1 .junk) h)
 cases a; cases b
 cases h0
 cases h1
 rfl
theorem Z56 (a b : Zq) (h : Z1S a = Z1S b) : a = b := Zen (congrArg pC h)
structure Zk where
 b : (List Int)
 at_ : Int
 groups : Int
 deep : Int
 refs : (List Zq)
 fault : Zj
 deriving Inhabited
def ZhR (a : Zk) (o0 o1 : Own) : List PV := [.lst o0 (a.b.map (eI .u8)), (eI .i64) a.at_, (eI .i64) a.groups, (eI .i64) a.deep, .lst o1 (a.refs.map Z1S), (eI .i64) a.fault.Code, (eI .i64) a.fault.At]
def Zi (a : Zk) (o0 o1 : Own) : Row := [.p (.lst o0 (a.b.map (eI .u8))), .p ((eI .i64) a.at_), .p ((eI .i64) a.groups), .p ((eI .i64) a.deep), .p (.lst o1 (a.refs.map Z1S)), .p ((eI .i64) a.fault.Code), .p ((eI .i64) a.fault.At)]
end Go.Proofs.YtadodmjdkphddaaDoor.N2
end
noncomputable section
set_option linter.unusedSimpArgs false
set_option linter.unusedVariables false
namespace Go.Proofs.YtadodmjdkphddaaDoor.N2
open Go Go.Abs
set_option linter.unusedVariables false
set_option maxRecDepth 100000
abbrev Z3L (zl : List Int) (z6 zd : Int) (zh : List Zq) (z1 z2 : Int) (zn zb : Own) : (Bool × Int) → Res → Prop := fun r q => ∃ (ex : List Row), q = ((bv r.1), [(Zi (Zk.mk zl r.2 z6 zd zh (Zj.mk z1 z2)) zn zb)] ++ ex)
theorem Zdy (zl : List Int) (z6 zd : Int) (zh : List Zq) (z1 z2 : Int) (zn zb : Own) : ∀ a b q, Z3L zl z6 zd zh z1 z2 zn zb a q → Z3L zl z6 zd zh z1 z2 zn zb b q → a = b := by
 rintro a b q ⟨_, e1⟩ ⟨_, e2⟩
 have e := e1.symm.trans e2
 exact Prod.ext (congrArg (fun q : Res => pB (pA q.1)) e) (congrArg (fun q : Res => pI (pA (cellAt q 0 1))) e)
abbrev Z4O  : (Int × Int) → Res → Prop := fun r q => ∃ (ex : List Row), q = ((.p (.tup [(.v (.int .i32 r.1)), (.v (.int .i64 r.2))])), ex)
theorem ZaX  : ∀ a b q, Z4O  a q → Z4O  b q → a = b := by
 rintro a b q ⟨_, e1⟩ ⟨_, e2⟩
 have e := e1.symm.trans e2
 exact Prod.ext (congrArg (fun q : Res => pI ((pT (pA q.1)).getD 0 .junk)) e) (congrArg (fun q : Res => pI ((pT (pA q.1)).getD 1 .junk)) e)
abbrev Z5t  : (Int × Int) → Res → Prop := fun r q => ∃ (ex : List Row), q = ((.p (.tup [(.v (.int .i64 r.1)), (.v (.int .i64 r.2))])), ex)
theorem Zj4  : ∀ a b q, Z5t  a q → Z5t  b q → a = b := by
 rintro a b q ⟨_, e1⟩ ⟨_, e2⟩
 have e := e1.symm.trans e2
 exact Prod.ext (congrArg (fun q : Res => pI ((pT (pA q.1)).getD 0 .junk)) e) (congrArg (fun q : Res => pI ((pT (pA q.1)).getD 1 .junk)) e)
abbrev Z4r (b0 : Zk) (zn zb : Own) : (Int) → Res → Prop := fun r q => ∃ (ex : List Row), q = ((iv r), [(Zi b0 zn zb)] ++ ex)
theorem Zdw (b0 : Zk) (zn zb : Own) : ∀ a b q, Z4r b0 zn zb a q → Z4r b0 zn zb b q → a = b := by
 rintro a b q ⟨_, e1⟩ ⟨_, e2⟩
 have e := e1.symm.trans e2
 exact congrArg (fun q : Res => pI (pA q.1)) e
abbrev Z6a  : (Z8) → Res → Prop := fun r q => ∃ (ex : List Row), q = ((.p (.agg (ZE r .sh .sh))), ex)
theorem ZgO  : ∀ a b q, Z6a  a q → Z6a  b q → a = b := by
 rintro a b q ⟨_, e1⟩ ⟨_, e2⟩
 have e := e1.symm.trans e2
 exact Z2W (congrArg (fun q : Res => pC (pA q.1)) e)
abbrev Z5f (zl : List Int) (z6 zd : Int) (zh : List Zq) (z1 z2 : Int) (zn zb : Own) : (Int × Int) → Res → Prop := fun r q => ∃ (ex : List Row), q = ((iv r.1), [(Zi (Zk.mk zl r.2 z6 zd zh (Zj.mk z1 z2)) zn zb)] ++ ex)
theorem Zdx (zl : List Int) (z6 zd : Int) (zh : List Zq) (z1 z2 : Int) (zn zb : Own) : ∀ a b q, Z5f zl z6 zd zh z1 z2 zn zb a q → Z5f zl z6 zd zh z1 z2 zn zb b q → a = b := by
 rintro a b q ⟨_, e1⟩ ⟨_, e2⟩
 have e := e1.symm.trans e2
 exact Prod.ext (congrArg (fun q : Res => pI (pA q.1)) e) (congrArg (fun q : Res => pI (pA (cellAt q 0 1))) e)
abbrev Z8U  : (Z7) → Res → Prop := fun r q => ∃ (ex : List Row), q = ((.p (.agg (ZG r))), ex)
theorem Zj2  : ∀ a b q, Z8U  a q → Z8U  b q → a = b := by
 rintro a b q ⟨_, e1⟩ ⟨_, e2⟩
 have e := e1.symm.trans e2
 exact ZaZ (congrArg (fun q : Res => pC (pA q.1)) e)
abbrev Z5e  : (Bool) → Res → Prop := fun r q => ∃ (ex : List Row), q = ((bv r), ex)
theorem Zdt  : ∀ a b q, Z5e  a q → Z5e  b q → a = b := by
 rintro a b q ⟨_, e1⟩ ⟨_, e2⟩
 have e := e1.symm.trans e2
 exact congrArg (fun q : Res => pB (pA q.1)) e
abbrev Z6X  : (Bool) → Res → Prop := fun r q => ∃ (ex : List Row), q = ((bv r), ex)
theorem ZgL  : ∀ a b q, Z6X  a q → Z6X  b q → a = b := by
 rintro a b q ⟨_, e1⟩ ⟨_, e2⟩
 have e := e1.symm.trans e2
 exact congrArg (fun q : Res => pB (pA q.1)) e
abbrev Z1v  : (Int) → Res → Prop := fun r q => ∃ (ex : List Row), q = ((iv r), ex)
theorem Z6B  : ∀ a b q, Z1v  a q → Z1v  b q → a = b := by
 rintro a b q ⟨_, e1⟩ ⟨_, e2⟩
 have e := e1.symm.trans e2
 exact congrArg (fun q : Res => pI (pA q.1)) e
abbrev Z2Z  : (Bool) → Res → Prop := fun r q => ∃ (ex : List Row), q = ((bv r), ex)
theorem Z8X  : ∀ a b q, Z2Z  a q → Z2Z  b q → a = b := by
 rintro a b q ⟨_, e1⟩ ⟨_, e2⟩
 have e := e1.symm.trans e2
 exact congrArg (fun q : Res => pB (pA q.1)) e
abbrev Z8c  : (List Z7) → Res → Prop := fun r q => ∃ (ex : List Row), q = ((.p (.lst .sh (r.map Zv))), ex)
theorem ZgN  : ∀ a b q, Z8c  a q → Z8c  b q → a = b := by
 rintro a b q ⟨_, e1⟩ ⟨_, e2⟩
 have e := e1.symm.trans e2
 exact Z3M Z2F (congrArg (fun q : Res => pL (pA q.1)) e)
abbrev Z6W  : ((List Z7) × Int) → Res → Prop := fun r q => ∃ (ex : List Row), q = ((.p (.tup [(.lst .sh (r.1.map Zv)), (.v (.int .i64 r.2))])), ex)
theorem Zif  : ∀ a b q, Z6W  a q → Z6W  b q → a = b := by
 rintro a b q ⟨_, e1⟩ ⟨_, e2⟩
 have e := e1.symm.trans e2
 exact Prod.ext (Z3M Z2F (congrArg (fun q : Res => pL ((pT (pA q.1)).getD 0 .junk)) e)) (congrArg (fun q : Res => pI ((pT (pA q.1)).getD 1 .junk)) e)
abbrev Z20  : (Bool) → Res → Prop := fun r q => ∃ (ex : List Row), q = ((bv r), ex)
theorem Z9S  : ∀ a b q, Z20  a q → Z20  b q → a = b := by
 rintro a b q ⟨_, e1⟩ ⟨_, e2⟩
 have e := e1.symm.trans e2
 exact congrArg (fun q : Res => pB (pA q.1)) e
abbrev Z2q  : (List Z7) → Res → Prop := fun r q => ∃ (ex : List Row), q = ((.p (.lst .sh (r.map Zv))), ex)
theorem Zbx  : ∀ a b q, Z2q  a q → Z2q  b q → a = b := by
 rintro a b q ⟨_, e1⟩ ⟨_, e2⟩
 have e := e1.symm.trans e2
 exact Z3M Z2F (congrArg (fun q : Res => pL (pA q.1)) e)
abbrev Z5I  : ((List Z7) × Int) → Res → Prop := fun r q => ∃ (ex : List Row), q = ((.p (.tup [(.lst .sh (r.1.map Zv)), (.v (.int .i64 r.2))])), ex)
theorem Zgm  : ∀ a b q, Z5I  a q → Z5I  b q → a = b := by
 rintro a b q ⟨_, e1⟩ ⟨_, e2⟩
 have e := e1.symm.trans e2
 exact Prod.ext (Z3M Z2F (congrArg (fun q : Res => pL ((pT (pA q.1)).getD 0 .junk)) e)) (congrArg (fun q : Res => pI ((pT (pA q.1)).getD 1 .junk)) e)
abbrev Z7x  : (Z8) → Res → Prop := fun r q => ∃ (ex : List Row), q = ((.p (.agg (ZE r .sh .sh))), ex)
theorem Zj3  : ∀ a b q, Z7x  a q → Z7x  b q → a = b := by
 rintro a b q ⟨_, e1⟩ ⟨_, e2⟩
 have e := e1.symm.trans e2
 exact Z2W (congrArg (fun q : Res => pC (pA q.1)) e)
abbrev Z4q (zl : List Int) (z6 zd : Int) (zh : List Zq) (zn zb : Own) : (Int × Int × Int) → Res → Prop := fun r q => ∃ (ex : List Row), q = ((.p (.tup [])), [(Zi (Zk.mk zl r.1 z6 zd zh (Zj.mk r.2.1 r.2.2)) zn zb)] ++ ex)
theorem Zdv (zl : List Int) (z6 zd : Int) (zh : List Zq) (zn zb : Own) : ∀ a b q, Z4q zl z6 zd zh zn zb a q → Z4q zl z6 zd zh zn zb b q → a = b := by
 rintro a b q ⟨_, e1⟩ ⟨_, e2⟩
 have e := e1.symm.trans e2
 exact Prod.ext (congrArg (fun q : Res => pI (pA (cellAt q 0 1))) e) (Prod.ext (congrArg (fun q : Res => pI (pA (cellAt q 0 5))) e) (congrArg (fun q : Res => pI (pA (cellAt q 0 6))) e))
abbrev Z5a  : (Own × (List Z7)) → Res → Prop := fun r q => ∃ (ex : List Row), q = ((.p (.lst r.1 (r.2.map Zv))), ex)
theorem Zf7  : ∀ a b q, Z5a  a q → Z5a  b q → a = b := by
 rintro a b q ⟨_, e1⟩ ⟨_, e2⟩
 have e := e1.symm.trans e2
 exact Prod.ext (congrArg (fun q : Res => pOwn (pA q.1)) e) (Z3M Z2F (congrArg (fun q : Res => pL (pA q.1)) e))
abbrev Z5s  : (Int) → Res → Prop := fun r q => ∃ (ex : List Row), q = ((iv r), ex)
theorem Zj1  : ∀ a b q, Z5s  a q → Z5s  b q → a = b := by
 rintro a b q ⟨_, e1⟩ ⟨_, e2⟩
 have e := e1.symm.trans e2
 exact congrArg (fun q : Res => pI (pA q.1)) e
abbrev Z5V (zZ : Int) : (Bool) → Res → Prop := fun r q => ∃ (ex : List Row), q = ((bv r), [[(iv zZ)]] ++ ex)
theorem Zf6 (zZ : Int) : ∀ a b q, Z5V zZ a q → Z5V zZ b q → a = b := by
 rintro a b q ⟨_, e1⟩ ⟨_, e2⟩
 have e := e1.symm.trans e2
 exact congrArg (fun q : Res => pB (pA q.1)) e
abbrev Z1u (zZ : Int) : (Int) → Res → Prop := fun r q => ∃ (ex : List Row), q = ((iv r), [[(iv zZ)]] ++ ex)
theorem Z6A (zZ : Int) : ∀ a b q, Z1u zZ a q → Z1u zZ b q → a = b := by
 rintro a b q ⟨_, e1⟩ ⟨_, e2⟩
 have e := e1.symm.trans e2
 exact congrArg (fun q : Res => pI (pA q.1)) e
abbrev Z2Y (zZ : Int) : (Bool) → Res → Prop := fun r q => ∃ (ex : List Row), q = ((bv r), [[(iv zZ)]] ++ ex)
theorem Z8W (zZ : Int) : ∀ a b q, Z2Y zZ a q → Z2Y zZ b q → a = b := by
 rintro a b q ⟨_, e1⟩ ⟨_, e2⟩
 have e := e1.symm.trans e2
 exact congrArg (fun q : Res => pB (pA q.1)) e
abbrev Z6z  : (Bool) → Res → Prop := fun r q => ∃ (ex : List Row), q = ((bv r), ex)
theorem Zgl  : ∀ a b q, Z6z  a q → Z6z  b q → a = b := by
 rintro a b q ⟨_, e1⟩ ⟨_, e2⟩
 have e := e1.symm.trans e2
 exact congrArg (fun q : Res => pB (pA q.1)) e
abbrev Z3v (zl : List Int) (z6 zd : Int) (zh : List Zq) (zn zb : Own) : (Int × Int × Int × Int) → Res → Prop := fun r q => ∃ (ex : List Row), q = ((iv r.1), [(Zi (Zk.mk zl r.2.1 z6 zd zh (Zj.mk r.2.2.1 r.2.2.2)) zn zb)] ++ ex)
theorem Zda (zl : List Int) (z6 zd : Int) (zh : List Zq) (zn zb : Own) : ∀ a b q, Z3v zl z6 zd zh zn zb a q → Z3v zl z6 zd zh zn zb b q → a = b := by
 rintro a b q ⟨_, e1⟩ ⟨_, e2⟩
 have e := e1.symm.trans e2
 exact Prod.ext (congrArg (fun q : Res => pI (pA q.1)) e) (Prod.ext (congrArg (fun q : Res => pI (pA (cellAt q 0 1))) e) (Prod.ext (congrArg (fun q : Res => pI (pA (cellAt q 0 5))) e) (congrArg (fun q : Res => pI (pA (cellAt q 0 6))) e)))
abbrev Z2S (zl : List Int) (z6 zd : Int) (zn : Own) : (Z8 × Int × (List Zq) × Int × Int) → Res → Prop := fun r q => ∃ (p0_4 : Own) (ex : List Row), ZF p0_4 = true ∧ q = ((.p (.agg (ZE r.1 .sh .sh))), [(Zi (Zk.mk zl r.2.1 z6 zd r.2.2.1 (Zj.mk r.2.2.2.1 r.2.2.2.2)) zn p0_4)] ++ ex)
theorem ZcC (zl : List Int) (z6 zd : Int) (zn : Own) : ∀ a b q, Z2S zl z6 zd zn a q → Z2S zl z6 zd zn b q → a = b := by
 rintro a b q ⟨_, _, _, e1⟩ ⟨_, _, _, e2⟩
 have e := e1.symm.trans e2
 exact Prod.ext (Z2W (congrArg (fun q : Res => pC (pA q.1)) e)) (Prod.ext (congrArg (fun q : Res => pI (pA (cellAt q 0 1))) e) (Prod.ext (Z3M Z56 (congrArg (fun q : Res => pL (pA (cellAt q 0 4))) e)) (Prod.ext (congrArg (fun q : Res => pI (pA (cellAt q 0 5))) e) (congrArg (fun q : Res => pI (pA (cellAt q 0 6))) e))))
abbrev Z2T (zl : List Int) (z6 zd : Int) (zh : List Zq) (zn zb : Own) : (Int × (Own × (List Z7)) × Bool × Int × Int × Int) → Res → Prop := fun r q => ∃ (ex : List Row), q = ((.p (.tup [(.v (.int .i64 r.1)), (.lst r.2.1.1 (r.2.1.2.map Zv)), (.v (.bool r.2.2.1))])), [(Zi (Zk.mk zl r.2.2.2.1 z6 zd zh (Zj.mk r.2.2.2.2.1 r.2.2.2.2.2)) zn zb)] ++ ex)
theorem ZcD (zl : List Int) (z6 zd : Int) (zh : List Zq) (zn zb : Own) : ∀ a b q, Z2T zl z6 zd zh zn zb a q → Z2T zl z6 zd zh zn zb b q → a = b := by
 rintro a b q ⟨_, e1⟩ ⟨_, e2⟩
 have e := e1.symm.trans e2
 exact Prod.ext (congrArg (fun q : Res => pI ((pT (pA q.1)).getD 0 .junk)) e) (Prod.ext (Prod.ext (congrArg (fun q : Res => pOwn ((pT (pA q.1)).getD 1 .junk)) e) (Z3M Z2F (congrArg (fun q : Res => pL ((pT (pA q.1)).getD 1 .junk)) e))) (Prod.ext (congrArg (fun q : Res => pB ((pT (pA q.1)).getD 2 .junk)) e) (Prod.ext (congrArg (fun q : Res => pI (pA (cellAt q 0 1))) e) (Prod.ext (congrArg (fun q : Res => pI (pA (cellAt q 0 5))) e) (congrArg (fun q : Res => pI (pA (cellAt q 0 6))) e)))))
abbrev Z5J  : (List Z7) → Res → Prop := fun r q => ∃ (ex : List Row), q = ((.p (.lst .sh (r.map Zv))), ex)
theorem ZcF  : ∀ a b q, Z5J  a q → Z5J  b q → a = b := by
 rintro a b q ⟨_, e1⟩ ⟨_, e2⟩
 have e := e1.symm.trans e2
 exact Z3M Z2F (congrArg (fun q : Res => pL (pA q.1)) e)
abbrev Z5j  : ((List Z7) × Int) → Res → Prop := fun r q => ∃ (ex : List Row), q = ((.p (.tup [(.lst .sh (r.1.map Zv)), (.v (.int .i64 r.2))])), ex)
theorem ZgM  : ∀ a b q, Z5j  a q → Z5j  b q → a = b := by
 rintro a b q ⟨_, e1⟩ ⟨_, e2⟩
 have e := e1.symm.trans e2
 exact Prod.ext (Z3M Z2F (congrArg (fun q : Res => pL ((pT (pA q.1)).getD 0 .junk)) e)) (congrArg (fun q : Res => pI ((pT (pA q.1)).getD 1 .junk)) e)
abbrev Z4t  : (List Z7) → Res → Prop := fun r q => ∃ (p0_0 : Own) (ex : List Row), q = ((.p (.tup [])), [[(.p (.lst p0_0 (r.map Zv)))]] ++ ex)
theorem Zce  : ∀ a b q, Z4t  a q → Z4t  b q → a = b := by
 rintro a b q ⟨_, _, e1⟩ ⟨_, _, e2⟩
 have e := e1.symm.trans e2
 exact Z3M Z2F (congrArg (fun q : Res => pL (pA (cellAt q 0 0))) e)
abbrev Z1b (zl : List Int) (z6 zd : Int) (zh : List Zq) (zn zb : Own) : (Z8 × Int × Int × Int) → Res → Prop := fun r q => ∃ (ex : List Row), q = ((.p (.agg (ZE r.1 .sh .sh))), [(Zi (Zk.mk zl r.2.1 z6 zd zh (Zj.mk r.2.2.1 r.2.2.2)) zn zb)] ++ ex)
theorem Z8V (zl : List Int) (z6 zd : Int) (zh : List Zq) (zn zb : Own) : ∀ a b q, Z1b zl z6 zd zh zn zb a q → Z1b zl z6 zd zh zn zb b q → a = b := by
 rintro a b q ⟨_, e1⟩ ⟨_, e2⟩
 have e := e1.symm.trans e2
 exact Prod.ext (Z2W (congrArg (fun q : Res => pC (pA q.1)) e)) (Prod.ext (congrArg (fun q : Res => pI (pA (cellAt q 0 1))) e) (Prod.ext (congrArg (fun q : Res => pI (pA (cellAt q 0 5))) e) (congrArg (fun q : Res => pI (pA (cellAt q 0 6))) e)))
abbrev Z7q  : (List ByteArray) → Res → Prop := fun r q => ∃ (ex : List Row), q = ((.p (.lst .sh (r.map eS))), ex)
theorem Zhe  : ∀ a b q, Z7q  a q → Z7q  b q → a = b := by
 rintro a b q ⟨_, e1⟩ ⟨_, e2⟩
 have e := e1.symm.trans e2
 exact Z3M Zrj (congrArg (fun q : Res => pL (pA q.1)) e)
abbrev Z1r (zl : List Int) (z6 zd : Int) (zh : List Zq) (z1 z2 : Int) (zn zb : Own) : (Int × Int) → Res → Prop := fun r q => ∃ (ex : List Row), q = ((iv r.1), [(Zi (Zk.mk zl r.2 z6 zd zh (Zj.mk z1 z2)) zn zb)] ++ ex)
theorem Z6u (zl : List Int) (z6 zd : Int) (zh : List Zq) (z1 z2 : Int) (zn zb : Own) : ∀ a b q, Z1r zl z6 zd zh z1 z2 zn zb a q → Z1r zl z6 zd zh z1 z2 zn zb b q → a = b := by
 rintro a b q ⟨_, e1⟩ ⟨_, e2⟩
 have e := e1.symm.trans e2
 exact Prod.ext (congrArg (fun q : Res => pI (pA q.1)) e) (congrArg (fun q : Res => pI (pA (cellAt q 0 1))) e)
abbrev Z2l (zl : List Int) (zn : Own) : (Z8 × Bool × Int × Int × Int × (List Zq) × Int × Int) → Res → Prop := fun r q => ∃ (p0_4 : Own) (ex : List Row), ZF p0_4 = true ∧ q = ((.p (.tup [(.agg (ZE r.1 .sh .sh)), (.v (.bool r.2.1))])), [(Zi (Zk.mk zl r.2.2.1 r.2.2.2.1 r.2.2.2.2.1 r.2.2.2.2.2.1 (Zj.mk r.2.2.2.2.2.2.1 r.2.2.2.2.2.2.2)) zn p0_4)] ++ ex)
theorem Zd9 (zl : List Int) (zn : Own) : ∀ a b q, Z2l zl zn a q → Z2l zl zn b q → a = b := by
 rintro a b q ⟨_, _, _, e1⟩ ⟨_, _, _, e2⟩
 have e := e1.symm.trans e2
 exact Prod.ext (Z2W (congrArg (fun q : Res => pC ((pT (pA q.1)).getD 0 .junk)) e)) (Prod.ext (congrArg (fun q : Res => pB ((pT (pA q.1)).getD 1 .junk)) e) (Prod.ext (congrArg (fun q : Res => pI (pA (cellAt q 0 1))) e) (Prod.ext (congrArg (fun q : Res => pI (pA (cellAt q 0 2))) e) (Prod.ext (congrArg (fun q : Res => pI (pA (cellAt q 0 3))) e) (Prod.ext (Z3M Z56 (congrArg (fun q : Res => pL (pA (cellAt q 0 4))) e)) (Prod.ext (congrArg (fun q : Res => pI (pA (cellAt q 0 5))) e) (congrArg (fun q : Res => pI (pA (cellAt q 0 6))) e)))))))
abbrev Z4p (zl : List Int) (zn : Own) : (Z8 × Bool × Int × Int × Int × (List Zq) × Int × Int) → Res → Prop := fun r q => ∃ (p0_4 : Own) (ex : List Row), ZF p0_4 = true ∧ q = ((.p (.tup [(.agg (ZE r.1 .sh .sh)), (.v (.bool r.2.1))])), [(Zi (Zk.mk zl r.2.2.1 r.2.2.2.1 r.2.2.2.2.1 r.2.2.2.2.2.1 (Zj.mk r.2.2.2.2.2.2.1 r.2.2.2.2.2.2.2)) zn p0_4)] ++ ex)
theorem Zdu (zl : List Int) (zn : Own) : ∀ a b q, Z4p zl zn a q → Z4p zl zn b q → a = b := by
 rintro a b q ⟨_, _, _, e1⟩ ⟨_, _, _, e2⟩
 have e := e1.symm.trans e2
 exact Prod.ext (Z2W (congrArg (fun q : Res => pC ((pT (pA q.1)).getD 0 .junk)) e)) (Prod.ext (congrArg (fun q : Res => pB ((pT (pA q.1)).getD 1 .junk)) e) (Prod.ext (congrArg (fun q : Res => pI (pA (cellAt q 0 1))) e) (Prod.ext (congrArg (fun q : Res => pI (pA (cellAt q 0 2))) e) (Prod.ext (congrArg (fun q : Res => pI (pA (cellAt q 0 3))) e) (Prod.ext (Z3M Z56 (congrArg (fun q : Res => pL (pA (cellAt q 0 4))) e)) (Prod.ext (congrArg (fun q : Res => pI (pA (cellAt q 0 5))) e) (congrArg (fun q : Res => pI (pA (cellAt q 0 6))) e)))))))
abbrev Z2c (zl : List Int) (z6 zd : Int) (zh : List Zq) (z1 z2 : Int) (zn zb : Own) : (Int × Int) → Res → Prop := fun r q => ∃ (ex : List Row), q = ((iv r.1), [(Zi (Zk.mk zl r.2 z6 zd zh (Zj.mk z1 z2)) zn zb)] ++ ex)
theorem Z8J (zl : List Int) (z6 zd : Int) (zh : List Zq) (z1 z2 : Int) (zn zb : Own) : ∀ a b q, Z2c zl z6 zd zh z1 z2 zn zb a q → Z2c zl z6 zd zh z1 z2 zn zb b q → a = b := by
 rintro a b q ⟨_, e1⟩ ⟨_, e2⟩
 have e := e1.symm.trans e2
 exact Prod.ext (congrArg (fun q : Res => pI (pA q.1)) e) (congrArg (fun q : Res => pI (pA (cellAt q 0 1))) e)
abbrev Z21 (zl : List Int) (z6 zd : Int) (zh : List Zq) (zn zb : Own) : (Int × Int × Int × Int × Int) → Res → Prop := fun r q => ∃ (ex : List Row), q = ((.p (.tup [(.v (.int .i64 r.1)), (.v (.int .i64 r.2.1))])), [(Zi (Zk.mk zl r.2.2.1 z6 zd zh (Zj.mk r.2.2.2.1 r.2.2.2.2)) zn zb)] ++ ex)
theorem ZcB (zl : List Int) (z6 zd : Int) (zh : List Zq) (zn zb : Own) : ∀ a b q, Z21 zl z6 zd zh zn zb a q → Z21 zl z6 zd zh zn zb b q → a = b := by
 rintro a b q ⟨_, e1⟩ ⟨_, e2⟩
 have e := e1.symm.trans e2
 exact Prod.ext (congrArg (fun q : Res => pI ((pT (pA q.1)).getD 0 .junk)) e) (Prod.ext (congrArg (fun q : Res => pI ((pT (pA q.1)).getD 1 .junk)) e) (Prod.ext (congrArg (fun q : Res => pI (pA (cellAt q 0 1))) e) (Prod.ext (congrArg (fun q : Res => pI (pA (cellAt q 0 5))) e) (congrArg (fun q : Res => pI (pA (cellAt q 0 6))) e))))
abbrev Z2U (zl : List Int) (z6 zd : Int) (zh : List Zq) (zn zb : Own) : (Z8 × Int × Int × Int) → Res → Prop := fun r q => ∃ (ex : List Row), q = ((.p (.agg (ZE r.1 .sh .sh))), [(Zi (Zk.mk zl r.2.1 z6 zd zh (Zj.mk r.2.2.1 r.2.2.2)) zn zb)] ++ ex)
theorem ZcE (zl : List Int) (z6 zd : Int) (zh : List Zq) (zn zb : Own) : ∀ a b q, Z2U zl z6 zd zh zn zb a q → Z2U zl z6 zd zh zn zb b q → a = b := by
 rintro a b q ⟨_, e1⟩ ⟨_, e2⟩
 have e := e1.symm.trans e2
 exact Prod.ext (Z2W (congrArg (fun q : Res => pC (pA q.1)) e)) (Prod.ext (congrArg (fun q : Res => pI (pA (cellAt q 0 1))) e) (Prod.ext (congrArg (fun q : Res => pI (pA (cellAt q 0 5))) e) (congrArg (fun q : Res => pI (pA (cellAt q 0 6))) e)))
abbrev Z2o (zl : List Int) (zn : Own) : (Z8 × Int × Int × Int × (List Zq) × Int × Int) → Res → Prop := fun r q => ∃ (p0_4 : Own) (ex : List Row), ZF p0_4 = true ∧ q = ((.p (.agg (ZE r.1 .sh .sh))), [(Zi (Zk.mk zl r.2.1 r.2.2.1 r.2.2.2.1 r.2.2.2.2.1 (Zj.mk r.2.2.2.2.2.1 r.2.2.2.2.2.2)) zn p0_4)] ++ ex)
theorem Z9U (zl : List Int) (zn : Own) : ∀ a b q, Z2o zl zn a q → Z2o zl zn b q → a = b := by
 rintro a b q ⟨_, _, _, e1⟩ ⟨_, _, _, e2⟩
 have e := e1.symm.trans e2
 exact Prod.ext (Z2W (congrArg (fun q : Res => pC (pA q.1)) e)) (Prod.ext (congrArg (fun q : Res => pI (pA (cellAt q 0 1))) e) (Prod.ext (congrArg (fun q : Res => pI (pA (cellAt q 0 2))) e) (Prod.ext (congrArg (fun q : Res => pI (pA (cellAt q 0 3))) e) (Prod.ext (Z3M Z56 (congrArg (fun q : Res => pL (pA (cellAt q 0 4))) e)) (Prod.ext (congrArg (fun q : Res => pI (pA (cellAt q 0 5))) e) (congrArg (fun q : Res => pI (pA (cellAt q 0 6))) e))))))
abbrev Z2E (zl : List Int) (zn : Own) : (Z8 × Int × Int × Int × (List Zq) × Int × Int) → Res → Prop := fun r q => ∃ (p0_4 : Own) (ex : List Row), ZF p0_4 = true ∧ q = ((.p (.agg (ZE r.1 .sh .sh))), [(Zi (Zk.mk zl r.2.1 r.2.2.1 r.2.2.2.1 r.2.2.2.2.1 (Zj.mk r.2.2.2.2.2.1 r.2.2.2.2.2.2)) zn p0_4)] ++ ex)
theorem Z9T (zl : List Int) (zn : Own) : ∀ a b q, Z2E zl zn a q → Z2E zl zn b q → a = b := by
 rintro a b q ⟨_, _, _, e1⟩ ⟨_, _, _, e2⟩
 have e := e1.symm.trans e2
 exact Prod.ext (Z2W (congrArg (fun q : Res => pC (pA q.1)) e)) (Prod.ext (congrArg (fun q : Res => pI (pA (cellAt q 0 1))) e) (Prod.ext (congrArg (fun q : Res => pI (pA (cellAt q 0 2))) e) (Prod.ext (congrArg (fun q : Res => pI (pA (cellAt q 0 3))) e) (Prod.ext (Z3M Z56 (congrArg (fun q : Res => pL (pA (cellAt q 0 4))) e)) (Prod.ext (congrArg (fun q : Res => pI (pA (cellAt q 0 5))) e) (congrArg (fun q : Res => pI (pA (cellAt q 0 6))) e))))))
abbrev Z2x  : (ZD × Zj) → Res → Prop := fun r q => ∃ (ex : List Row), q = ((.p (.tup [(.agg (Z1x r.1 .sh .sh)), (.agg (Z16 r.2))])), ex)
theorem ZcR  : ∀ a b q, Z2x  a q → Z2x  b q → a = b := by
 rintro a b q ⟨_, e1⟩ ⟨_, e2⟩
 have e := e1.symm.trans e2
 exact Prod.ext (Zem (congrArg (fun q : Res => pC ((pT (pA q.1)).getD 0 .junk)) e)) (Zff (congrArg (fun q : Res => pC ((pT (pA q.1)).getD 1 .junk)) e))
abbrev Z39  : (Bool) → Res → Prop := fun r q => ∃ (ex : List Row), q = ((bv r), ex)
theorem Zcd  : ∀ a b q, Z39  a q → Z39  b q → a = b := by
 rintro a b q ⟨_, e1⟩ ⟨_, e2⟩
 have e := e1.symm.trans e2
 exact congrArg (fun q : Res => pB (pA q.1)) e
abbrev Z5W  : (Bool) → Res → Prop := fun r q => ∃ (ex : List Row), q = ((bv r), ex)
theorem Zf8  : ∀ a b q, Z5W  a q → Z5W  b q → a = b := by
 rintro a b q ⟨_, e1⟩ ⟨_, e2⟩
 have e := e1.symm.trans e2
 exact congrArg (fun q : Res => pB (pA q.1)) e
abbrev Z5c  : (List Int) → Res → Prop := fun r q => ∃ (ex : List Row), q = ((.p (.lst .sh (r.map (eI .u8)))), ex)
theorem Zhf  : ∀ a b q, Z5c  a q → Z5c  b q → a = b := by
 rintro a b q ⟨_, e1⟩ ⟨_, e2⟩
 have e := e1.symm.trans e2
 exact Z3M Z72 (congrArg (fun q : Res => pL (pA q.1)) e)
abbrev Z1h  : (Bool) → Res → Prop := fun r q => ∃ (ex : List Row), q = ((bv r), ex)
theorem Zam  : ∀ a b q, Z1h  a q → Z1h  b q → a = b := by
 rintro a b q ⟨_, e1⟩ ⟨_, e2⟩
 have e := e1.symm.trans e2
 exact congrArg (fun q : Res => pB (pA q.1)) e
def Z5U (x0 : Int) : Option (Bool) := pick fun r => RRun (Z1h) (EE 7 [(iv x0)] []) r
theorem Zag (x0 : Int) : Sim (Z1h) (Z5U x0) (EE 7 [(iv x0)] []) := fun _ h => Z1f h
def Z5z  : Option (Bool) := pick fun r => RRun (Z39) (EE 15 [] []) r
theorem ZbL  : Sim (Z39) (Z5z) (EE 15 [] []) := fun _ h => Z1f h
def Z4y (x0 : ByteArray) : Option (ZD × Zj) := pick fun r => RRun (Z2x) (EE 16 [(.p (.v (.string x0)))] []) r
theorem Z5n (x0 : ByteArray) : Sim (Z2x) (Z4y x0) (EE 16 [(.p (.v (.string x0)))] []) := fun _ h => Z1f h
def Z17 (x1 : ByteArray) (zl : List Int) (zp : Int) : Option (Bool × Int) := pick fun r => ∀ (z6 zd : Int) (zh : List Zq) (z1 z2 : Int) (zn zb : Own) (zu : ZF zb = true), RRun (Z3L zl z6 zd zh z1 z2 zn zb) (EE 27 [(.ptr 0 0), (.p (.v (.string x1)))] [(Zi (Zk.mk zl zp z6 zd zh (Zj.mk z1 z2)) zn zb)]) r
theorem Z1d (x1 : ByteArray) (zl : List Int) (zp z6 zd : Int) (zh : List Zq) (z1 z2 : Int) (zn zb : Own) (zu : ZF zb = true) : Sim (Z3L zl z6 zd zh z1 z2 zn zb) (Z17 x1 zl zp) (EE 27 [(.ptr 0 0), (.p (.v (.string x1)))] [(Zi (Zk.mk zl zp z6 zd zh (Zj.mk z1 z2)) zn zb)]) := fun _ h => Z1f h z6 zd zh z1 z2 zn zb zu
def Z37 (zl : List Int) (zp z6 zd : Int) (zh : List Zq) (z1 z2 : Int) : Option (Z8 × Int × Int × Int × (List Zq) × Int × Int) := pick fun r => ∀ (zn zb : Own) (zu : ZF zb = true), RRun (Z2E zl zn) (EE 28 [(.ptr 0 0)] [(Zi (Zk.mk zl zp z6 zd zh (Zj.mk z1 z2)) zn zb)]) r
theorem Z9I (zl : List Int) (zp z6 zd : Int) (zh : List Zq) (z1 z2 : Int) (zn zb : Own) (zu : ZF zb = true) : Sim (Z2E zl zn) (Z37 zl zp z6 zd zh z1 z2) (EE 28 [(.ptr 0 0)] [(Zi (Zk.mk zl zp z6 zd zh (Zj.mk z1 z2)) zn zb)]) := fun _ h => Z1f h zn zb zu
def Z4L (zl : List Int) (zp z6 zd : Int) (zh : List Zq) (z1 z2 : Int) : Option (Z8 × Int × Int × Int × (List Zq) × Int × Int) := pick fun r => ∀ (zn zb : Own) (zu : ZF zb = true), RRun (Z2o zl zn) (EE 35 [(.ptr 0 0)] [(Zi (Zk.mk zl zp z6 zd zh (Zj.mk z1 z2)) zn zb)]) r
theorem Z9K (zl : List Int) (zp z6 zd : Int) (zh : List Zq) (z1 z2 : Int) (zn zb : Own) (zu : ZF zb = true) : Sim (Z2o zl zn) (Z4L zl zp z6 zd zh z1 z2) (EE 35 [(.ptr 0 0)] [(Zi (Zk.mk zl zp z6 zd zh (Zj.mk z1 z2)) zn zb)]) := fun _ h => Z1f h zn zb zu
def Z3V (x3 : List Z8) (zl : List Int) (zp z6 zd : Int) (zh : List Zq) (z1 z2 : Int) : Option (Z8 × Int × Int × Int × (List Zq) × Int × Int) := pick fun r => ∀ (b1 : Z8) (ox3 zn zb zB zy : Own) (hox3 : ZF ox3 = true) (zu : ZF zb = true) (zP : ZF zB = true) (zI : ZF zy = true), RRun (Z2o zl zn) (ZdD 1 (.ptr 0 0) (.ptr 1 0) (.p (.lst ox3 (x3.map ZX))) [(Zi (Zk.mk zl zp z6 zd zh (Zj.mk z1 z2)) zn zb), (Zr b1 zB zy)]) r
theorem Z7U (x3 : List Z8) (zl : List Int) (zp z6 zd : Int) (zh : List Zq) (z1 z2 : Int) (b1 : Z8) (ox3 zn zb zB zy : Own) (hox3 : ZF ox3 = true) (zu : ZF zb = true) (zP : ZF zB = true) (zI : ZF zy = true) : Sim (Z2o zl zn) (Z3V x3 zl zp z6 zd zh z1 z2) (ZdD 1 (.ptr 0 0) (.ptr 1 0) (.p (.lst ox3 (x3.map ZX))) [(Zi (Zk.mk zl zp z6 zd zh (Zj.mk z1 z2)) zn zb), (Zr b1 zB zy)]) := fun _ h => Z1f h b1 ox3 zn zb zB zy hox3 zu zP zI
def Z1Q (b0 : Zk) : Option (Int) := pick fun r => ∀ (zn zb : Own) (zu : ZF zb = true), RRun (Z4r b0 zn zb) (EE 41 [(.ptr 0 0)] [(Zi b0 zn zb)]) r
theorem Z1V (b0 : Zk) (zn zb : Own) (zu : ZF zb = true) : Sim (Z4r b0 zn zb) (Z1Q b0) (EE 41 [(.ptr 0 0)] [(Zi b0 zn zb)]) := fun _ h => Z1f h zn zb zu
def Z9a (x0 : List Int) (x1 : Int) : Option (Int × Int) := pick fun r => ∀ (ox0 : Own), RRun (Z5t) (EE 45 [(.p (.lst ox0 (x0.map (eI .u8)))), (iv x1)] []) r
theorem Ze2 (x0 : List Int) (x1 : Int) (ox0 : Own) : Sim (Z5t) (Z9a x0 x1) (EE 45 [(.p (.lst ox0 (x0.map (eI .u8)))), (iv x1)] []) := fun _ h => Z1f h ox0
def Z68 (x0 : List Int) : Option (Int × Int) := pick fun r => ∀ (ox0 : Own), RRun (Z4O) (EE 53 [(.p (.lst ox0 (x0.map (eI .u8))))] []) r
theorem ZaE (x0 : List Int) (ox0 : Own) : Sim (Z4O) (Z68 x0) (EE 53 [(.p (.lst ox0 (x0.map (eI .u8))))] []) := fun _ h => Z1f h ox0
def Z75 (x0 : Int) (x1 : List Z8) : Option (Z8) := pick fun r => ∀ (ox1 : Own), RRun (Z6a) (EE 36 [(iv x0), (.p (.lst ox1 (x1.map ZX)))] []) r
theorem ZbB (x0 : Int) (x1 : List Z8) (ox1 : Own) : Sim (Z6a) (Z75 x0 x1) (EE 36 [(iv x0), (.p (.lst ox1 (x1.map ZX)))] []) := fun _ h => Z1f h ox1
def Z6s (zl : List Int) (zp z6 zd : Int) (zh : List Zq) (z1 z2 : Int) : Option (Z8 × Bool × Int × Int × Int × (List Zq) × Int × Int) := pick fun r => ∀ (zn zb : Own) (zu : ZF zb = true), RRun (Z4p zl zn) (EE 42 [(.ptr 0 0)] [(Zi (Zk.mk zl zp z6 zd zh (Zj.mk z1 z2)) zn zb)]) r
theorem Zdk (zl : List Int) (zp z6 zd : Int) (zh : List Zq) (z1 z2 : Int) (zn zb : Own) (zu : ZF zb = true) : Sim (Z4p zl zn) (Z6s zl zp z6 zd zh z1 z2) (EE 42 [(.ptr 0 0)] [(Zi (Zk.mk zl zp z6 zd zh (Zj.mk z1 z2)) zn zb)]) := fun _ h => Z1f h zn zb zu
def Z2f (zl : List Int) (zp : Int) : Option (Int × Int) := pick fun r => ∀ (z6 zd : Int) (zh : List Zq) (z1 z2 : Int) (zn zb : Own) (zu : ZF zb = true), RRun (Z5f zl z6 zd zh z1 z2 zn zb) (EE 46 [(.ptr 0 0)] [(Zi (Zk.mk zl zp z6 zd zh (Zj.mk z1 z2)) zn zb)]) r
theorem Z2H (zl : List Int) (zp z6 zd : Int) (zh : List Zq) (z1 z2 : Int) (zn zb : Own) (zu : ZF zb = true) : Sim (Z5f zl z6 zd zh z1 z2 zn zb) (Z2f zl zp) (EE 46 [(.ptr 0 0)] [(Zi (Zk.mk zl zp z6 zd zh (Zj.mk z1 z2)) zn zb)]) := fun _ h => Z1f h z6 zd zh z1 z2 zn zb zu
def Z1G (x0 : Int) : Option (Z7) := pick fun r => RRun (Z8U) (EE 48 [(iv x0)] []) r
theorem Z1A (x0 : Int) : Sim (Z8U) (Z1G x0) (EE 48 [(iv x0)] []) := fun _ h => Z1f h
def Z2X (x0 : Bool) (x1 : List Z7) : Option (Z8) := pick fun r => ∀ (ox1 : Own), RRun (Z7x) (EE 47 [(bv x0), (.p (.lst ox1 (x1.map Zv)))] []) r
theorem Z35 (x0 : Bool) (x1 : List Z7) (ox1 : Own) : Sim (Z7x) (Z2X x0 x1) (EE 47 [(bv x0), (.p (.lst ox1 (x1.map Zv)))] []) := fun _ h => Z1f h ox1
def Z9Z (x0 : List Z7) : Option ((List Z7) × Int) := pick fun r => ∀ (ox0 : Own), RRun (Z6W) (EE 54 [(.p (.lst ox0 (x0.map Zv)))] []) r
theorem ZhH (x0 : List Z7) (ox0 : Own) : Sim (Z6W) (Z9Z x0) (EE 54 [(.p (.lst ox0 (x0.map Zv)))] []) := fun _ h => Z1f h ox0
def Z3G (x0 : List Z7) : Option (Bool) := pick fun r => ∀ (ox0 : Own), RRun (Z2Z) (EE 65 [(.p (.lst ox0 (x0.map Zv))), (.clo 66 [] [])] []) r
theorem Z8T (x0 : List Z7) (ox0 : Own) : Sim (Z2Z) (Z3G x0) (EE 65 [(.p (.lst ox0 (x0.map Zv))), (.clo 66 [] [])] []) := fun _ h => Z1f h ox0
def Z4i (x0 : List Z7) : Option (Int) := pick fun r => ∀ (ox0 : Own), RRun (Z1v) (EE 73 [(.p (.lst ox0 (x0.map Zv))), (.clo 66 [] [])] []) r
theorem Z9R (x0 : List Z7) (ox0 : Own) : Sim (Z1v) (Z4i x0) (EE 73 [(.p (.lst ox0 (x0.map Zv))), (.clo 66 [] [])] []) := fun _ h => Z1f h ox0
def Z33 (x0 : List Z7) (x7 x8 : Int) : Option (Int) := pick fun r => ∀ (ox0 : Own), RRun (Z1v) (ZdR 0 (.p (.lst ox0 (x0.map Zv))) (.clo 66 [] []) (iv x7) (iv x8) []) r
theorem Z63 (x0 : List Z7) (x7 x8 : Int) (ox0 : Own) : Sim (Z1v) (Z33 x0 x7 x8) (ZdR 0 (.p (.lst ox0 (x0.map Zv))) (.clo 66 [] []) (iv x7) (iv x8) []) := fun _ h => Z1f h ox0
def Z8n (x0 : Z7) : Option (Bool) := pick fun r => RRun (Z6X) (EE 66 [(.p (.agg (ZG x0)))] []) r
theorem Zgo (x0 : Z7) : Sim (Z6X) (Z8n x0) (EE 66 [(.p (.agg (ZG x0)))] []) := fun _ h => Z1f h
def Z5i (x0 : Z7) : Option (Bool) := pick fun r => RRun (Z5e) (EE 67 [(.p (.agg (ZG x0)))] []) r
theorem Z91 (x0 : Z7) : Sim (Z5e) (Z5i x0) (EE 67 [(.p (.agg (ZG x0)))] []) := fun _ h => Z1f h
def Z8p (x0 : List Z7) : Option (List Z7) := pick fun r => ∀ (ox0 : Own), RRun (Z8c) (EE 68 [(.p (.lst ox0 (x0.map Zv)))] []) r
theorem ZbA (x0 : List Z7) (ox0 : Own) : Sim (Z8c) (Z8p x0) (EE 68 [(.p (.lst ox0 (x0.map Zv)))] []) := fun _ h => Z1f h ox0
def Z6I (x0 : List Z7) : Option ((List Z7) × Int) := pick fun r => ∀ (ox0 : Own), RRun (Z5I) (EE 55 [(.p (.lst ox0 (x0.map Zv)))] []) r
theorem Zb4 (x0 : List Z7) (ox0 : Own) : Sim (Z5I) (Z6I x0) (EE 55 [(.p (.lst ox0 (x0.map Zv)))] []) := fun _ h => Z1f h ox0
def Z4J (x0 : List Z7) : Option (Bool) := pick fun r => ∀ (ox0 : Own), RRun (Z20) (EE 69 [(.p (.lst ox0 (x0.map Zv)))] []) r
theorem Z74 (x0 : List Z7) (ox0 : Own) : Sim (Z20) (Z4J x0) (EE 69 [(.p (.lst ox0 (x0.map Zv)))] []) := fun _ h => Z1f h ox0
def Z4K (x3 : Int) (x6 : List Z7) (x7 x8 : Int) : Option (Bool) := pick fun r => ∀ (ox6 : Own), RRun (Z20) (ZdP 0 (iv x3) (.p (.lst ox6 (x6.map Zv))) (iv x7) (iv x8) []) r
theorem Z7Q (x3 : Int) (x6 : List Z7) (x7 x8 : Int) (ox6 : Own) : Sim (Z20) (Z4K x3 x6 x7 x8) (ZdP 0 (iv x3) (.p (.lst ox6 (x6.map Zv))) (iv x7) (iv x8) []) := fun _ h => Z1f h ox6
def Z7L (x0 : List Z7) : Option (List Z7) := pick fun r => ∀ (ox0 : Own), RRun (Z2q) (EE 70 [(.p (.lst ox0 (x0.map Zv)))] []) r
theorem Zfr (x0 : List Z7) (ox0 : Own) : Sim (Z2q) (Z7L x0) (EE 70 [(.p (.lst ox0 (x0.map Zv)))] []) := fun _ h => Z1f h ox0
def Z5E (x3 : List Z7) (x4 : Int) (x7 : List Z7) (x8 x9 : Int) : Option (List Z7) := pick fun r => ∀ (ox3 ox7 : Own) (hox3 : ZF ox3 = true), RRun (Z2q) (ZdQ 0 (.p (.lst ox3 (x3.map Zv))) (iv x4) (.p (.lst ox7 (x7.map Zv))) (iv x8) (iv x9) []) r
theorem Z9F (x3 : List Z7) (x4 : Int) (x7 : List Z7) (x8 x9 : Int) (ox3 ox7 : Own) (hox3 : ZF ox3 = true) : Sim (Z2q) (Z5E x3 x4 x7 x8 x9) (ZdQ 0 (.p (.lst ox3 (x3.map Zv))) (iv x4) (.p (.lst ox7 (x7.map Zv))) (iv x8) (iv x9) []) := fun _ h => Z1f h ox3 ox7 hox3
def Z3o (x1 : Int) (zl : List Int) (zp z6 zd : Int) (zh : List Zq) (z1 z2 : Int) : Option (Z8 × Int × (List Zq) × Int × Int) := pick fun r => ∀ (zn zb : Own) (zu : ZF zb = true), RRun (Z2S zl z6 zd zn) (EE 49 [(.ptr 0 0), (iv x1)] [(Zi (Zk.mk zl zp z6 zd zh (Zj.mk z1 z2)) zn zb)]) r
theorem Zcm (x1 : Int) (zl : List Int) (zp z6 zd : Int) (zh : List Zq) (z1 z2 : Int) (zn zb : Own) (zu : ZF zb = true) : Sim (Z2S zl z6 zd zn) (Z3o x1 zl zp z6 zd zh z1 z2) (EE 49 [(.ptr 0 0), (iv x1)] [(Zi (Zk.mk zl zp z6 zd zh (Zj.mk z1 z2)) zn zb)]) := fun _ h => Z1f h zn zb zu
def ZT (x1 x2 : Int) (zl : List Int) (z1 z2 : Int) : Option (Int × Int × Int) := pick fun r => ∀ (zp z6 zd : Int) (zh : List Zq) (zn zb : Own) (zu : ZF zb = true), RRun (Z4q zl z6 zd zh zn zb) (EE 29 [(.ptr 0 0), (iv x1), (iv x2)] [(Zi (Zk.mk zl zp z6 zd zh (Zj.mk z1 z2)) zn zb)]) r
theorem ZW (x1 x2 : Int) (zl : List Int) (zp z6 zd : Int) (zh : List Zq) (z1 z2 : Int) (zn zb : Own) (zu : ZF zb = true) : Sim (Z4q zl z6 zd zh zn zb) (ZT x1 x2 zl z1 z2) (EE 29 [(.ptr 0 0), (iv x1), (iv x2)] [(Zi (Zk.mk zl zp z6 zd zh (Zj.mk z1 z2)) zn zb)]) := fun _ h => Z1f h zp z6 zd zh zn zb zu
def Z5b (x0 : Int) : Option (Own × (List Z7)) := pick fun r => RRun (Z5a) (EE 56 [(iv x0)] []) r
theorem Z7l (x0 : Int) : Sim (Z5a) (Z5b x0) (EE 56 [(iv x0)] []) := fun _ h => Z1f h
def Z58 (x1 x2 : Int) (zl : List Int) (zp z6 zd : Int) (zh : List Zq) (z1 z2 : Int) : Option (Int × Int × Int × Int) := pick fun r => ∀ (zn zb : Own) (zu : ZF zb = true), RRun (Z3v zl z6 zd zh zn zb) (EE 57 [(.ptr 0 0), (iv x1), (iv x2)] [(Zi (Zk.mk zl zp z6 zd zh (Zj.mk z1 z2)) zn zb)]) r
theorem Z8M (x1 x2 : Int) (zl : List Int) (zp z6 zd : Int) (zh : List Zq) (z1 z2 : Int) (zn zb : Own) (zu : ZF zb = true) : Sim (Z3v zl z6 zd zh zn zb) (Z58 x1 x2 zl zp z6 zd zh z1 z2) (EE 57 [(.ptr 0 0), (iv x1), (iv x2)] [(Zi (Zk.mk zl zp z6 zd zh (Zj.mk z1 z2)) zn zb)]) := fun _ h => Z1f h zn zb zu
def Z97 (x0 : Int) : Option (Int) := pick fun r => RRun (Z5s) (EE 71 [(iv x0)] []) r
theorem ZdY (x0 : Int) : Sim (Z5s) (Z97 x0) (EE 71 [(iv x0)] []) := fun _ h => Z1f h
def Z6H (x0 : List Z7) (x1 : Int) : Option (Bool) := pick fun r => ∀ (ox0 : Own), RRun (Z6z) (EE 19 [(.p (.lst ox0 (x0.map Zv))), (iv x1)] []) r
theorem Zfn (x0 : List Z7) (x1 : Int) (ox0 : Own) : Sim (Z6z) (Z6H x0 x1) (EE 19 [(.p (.lst ox0 (x0.map Zv))), (iv x1)] []) := fun _ h => Z1f h ox0
def Z3F (x0 : List Z7) (zZ : Int) : Option (Bool) := pick fun r => ∀ (ox0 : Own), RRun (Z2Y zZ) (EE 30 [(.p (.lst ox0 (x0.map Zv))), (.clo 31 [] [(.ptr 0 0)])] [[(iv zZ)]]) r
theorem Z8R (x0 : List Z7) (zZ : Int) (ox0 : Own) : Sim (Z2Y zZ) (Z3F x0 zZ) (EE 30 [(.p (.lst ox0 (x0.map Zv))), (.clo 31 [] [(.ptr 0 0)])] [[(iv zZ)]]) := fun _ h => Z1f h ox0
def Z4h (x0 : List Z7) (zZ : Int) : Option (Int) := pick fun r => ∀ (ox0 : Own), RRun (Z1u zZ) (EE 37 [(.p (.lst ox0 (x0.map Zv))), (.clo 31 [] [(.ptr 0 0)])] [[(iv zZ)]]) r
theorem Z9P (x0 : List Z7) (zZ : Int) (ox0 : Own) : Sim (Z1u zZ) (Z4h x0 zZ) (EE 37 [(.p (.lst ox0 (x0.map Zv))), (.clo 31 [] [(.ptr 0 0)])] [[(iv zZ)]]) := fun _ h => Z1f h ox0
def Z32 (x0 : List Z7) (x7 x8 zZ : Int) : Option (Int) := pick fun r => ∀ (ox0 : Own), RRun (Z1u zZ) (ZdF 1 (.p (.lst ox0 (x0.map Zv))) (.clo 31 [] [(.ptr 0 0)]) (iv x7) (iv x8) [[(iv zZ)]]) r
theorem Z61 (x0 : List Z7) (x7 x8 zZ : Int) (ox0 : Own) : Sim (Z1u zZ) (Z32 x0 x7 x8 zZ) (ZdF 1 (.p (.lst ox0 (x0.map Zv))) (.clo 31 [] [(.ptr 0 0)]) (iv x7) (iv x8) [[(iv zZ)]]) := fun _ h => Z1f h ox0
def Z6U (x0 : Z7) (zZ : Int) : Option (Bool) := pick fun r => RRun (Z5V zZ) (EE 31 [(.p (.agg (ZG x0))), (.ptr 0 0)] [[(iv zZ)]]) r
theorem Zey (x0 : Z7) (zZ : Int) : Sim (Z5V zZ) (Z6U x0 zZ) (EE 31 [(.p (.agg (ZG x0))), (.ptr 0 0)] [[(iv zZ)]]) := fun _ h => Z1f h
def Z67 (x1 : Int) (zl : List Int) (zp z6 zd : Int) (zh : List Zq) (z1 z2 : Int) : Option (Z8 × Int × Int × Int) := pick fun r => ∀ (zn zb : Own) (zu : ZF zb = true), RRun (Z1b zl z6 zd zh zn zb) (EE 50 [(.ptr 0 0), (iv x1)] [(Zi (Zk.mk zl zp z6 zd zh (Zj.mk z1 z2)) zn zb)]) r
theorem ZcK (x1 : Int) (zl : List Int) (zp z6 zd : Int) (zh : List Zq) (z1 z2 : Int) (zn zb : Own) (zu : ZF zb = true) : Sim (Z1b zl z6 zd zh zn zb) (Z67 x1 zl zp z6 zd zh z1 z2) (EE 50 [(.ptr 0 0), (iv x1)] [(Zi (Zk.mk zl zp z6 zd zh (Zj.mk z1 z2)) zn zb)]) := fun _ h => Z1f h zn zb zu
def Z34 (x1 : Int) (x5 : Bool) (x8 : Int) (zl : List Int) (zp z6 zd : Int) (zh : List Zq) (z1 z2 : Int) (z13 : List Z7) : Option (Z8 × Int × Int × Int) := pick fun r => ∀ (b1 : Z8) (zn zb zB zy z1i : Own) (zu : ZF zb = true) (zP : ZF zB = true) (zI : ZF zy = true), RRun (Z1b zl z6 zd zh zn zb) (ZdI 1 (.ptr 0 0) (iv x1) (.ptr 1 0) (bv x5) (.ptr 2 0) (.clo 58 [] [(.ptr 2 0)]) (iv x8) [(Zi (Zk.mk zl zp z6 zd zh (Zj.mk z1 z2)) zn zb), (Zr b1 zB zy), [(.p (.lst z1i (z13.map Zv)))]]) r
theorem Z7s (x1 : Int) (x5 : Bool) (x8 : Int) (zl : List Int) (zp z6 zd : Int) (zh : List Zq) (z1 z2 : Int) (b1 : Z8) (z13 : List Z7) (zn zb zB zy z1i : Own) (zu : ZF zb = true) (zP : ZF zB = true) (zI : ZF zy = true) : Sim (Z1b zl z6 zd zh zn zb) (Z34 x1 x5 x8 zl zp z6 zd zh z1 z2 z13) (ZdI 1 (.ptr 0 0) (iv x1) (.ptr 1 0) (bv x5) (.ptr 2 0) (.clo 58 [] [(.ptr 2 0)]) (iv x8) [(Zi (Zk.mk zl zp z6 zd zh (Zj.mk z1 z2)) zn zb), (Zr b1 zB zy), [(.p (.lst z1i (z13.map Zv)))]]) := fun _ h => Z1f h b1 zn zb zB zy z1i zu zP zI
def Z3W (zl : List Int) (zp z6 zd : Int) (zh : List Zq) (z1 z2 : Int) : Option (Int × (Own × (List Z7)) × Bool × Int × Int × Int) := pick fun r => ∀ (zn zb : Own) (zu : ZF zb = true), RRun (Z2T zl z6 zd zh zn zb) (EE 60 [(.ptr 0 0)] [(Zi (Zk.mk zl zp z6 zd zh (Zj.mk z1 z2)) zn zb)]) r
theorem Z7X (zl : List Int) (zp z6 zd : Int) (zh : List Zq) (z1 z2 : Int) (zn zb : Own) (zu : ZF zb = true) : Sim (Z2T zl z6 zd zh zn zb) (Z3W zl zp z6 zd zh z1 z2) (EE 60 [(.ptr 0 0)] [(Zi (Zk.mk zl zp z6 zd zh (Zj.mk z1 z2)) zn zb)]) := fun _ h => Z1f h zn zb zu
def Z4u (x0 zZ : List Z7) : Option (List Z7) := pick fun r => ∀ (ox0 zaW : Own), RRun (Z4t) (EE 58 [(.p (.lst ox0 (x0.map Zv))), (.ptr 0 0)] [[(.p (.lst zaW (zZ.map Zv)))]]) r
theorem Z7M (x0 zZ : List Z7) (ox0 zaW : Own) : Sim (Z4t) (Z4u x0 zZ) (EE 58 [(.p (.lst ox0 (x0.map Zv))), (.ptr 0 0)] [[(.p (.lst zaW (zZ.map Zv)))]]) := fun _ h => Z1f h ox0 zaW
def Z8o (x0 x1 : List Z7) : Option ((List Z7) × Int) := pick fun r => ∀ (ox0 ox1 : Own), RRun (Z5j) (EE 59 [(.p (.lst ox0 (x0.map Zv))), (.p (.lst ox1 (x1.map Zv)))] []) r
theorem Zgq (x0 x1 : List Z7) (ox0 ox1 : Own) : Sim (Z5j) (Z8o x0 x1) (EE 59 [(.p (.lst ox0 (x0.map Zv))), (.p (.lst ox1 (x1.map Zv)))] []) := fun _ h => Z1f h ox0 ox1
def Z7a (x0 : List (List Z7)) : Option (List Z7) := pick fun r => ∀ (ox0 : Own), RRun (Z5J) (EE 72 [(.p (.lst ox0 (x0.map (eL Zv))))] []) r
theorem Zcr (x0 : List (List Z7)) (ox0 : Own) : Sim (Z5J) (Z7a x0) (EE 72 [(.p (.lst ox0 (x0.map (eL Zv))))] []) := fun _ h => Z1f h ox0
def Z3z (x1 : Int) (zl : List Int) (zp z6 zd : Int) (zh : List Zq) (z1 z2 : Int) : Option (Z8 × Bool × Int × Int × Int × (List Zq) × Int × Int) := pick fun r => ∀ (zn zb : Own) (zu : ZF zb = true), RRun (Z2l zl zn) (EE 51 [(.ptr 0 0), (iv x1)] [(Zi (Zk.mk zl zp z6 zd zh (Zj.mk z1 z2)) zn zb)]) r
theorem ZcM (x1 : Int) (zl : List Int) (zp z6 zd : Int) (zh : List Zq) (z1 z2 : Int) (zn zb : Own) (zu : ZF zb = true) : Sim (Z2l zl zn) (Z3z x1 zl zp z6 zd zh z1 z2) (EE 51 [(.ptr 0 0), (iv x1)] [(Zi (Zk.mk zl zp z6 zd zh (Zj.mk z1 z2)) zn zb)]) := fun _ h => Z1f h zn zb zu
def Z9i  : Option (List ByteArray) := pick fun r => RRun (Z7q) (EE 62 [] []) r
theorem ZgV  : Sim (Z7q) (Z9i) (EE 62 [] []) := fun _ h => Z1f h
def Z44 (x0 : List ByteArray) (zl : List Int) (zp : Int) : Option (Int × Int) := pick fun r => ∀ (z6 zd : Int) (zh : List Zq) (z1 z2 : Int) (ox0 zn zb : Own) (zu : ZF zb = true), RRun (Z1r zl z6 zd zh z1 z2 zn zb) (EE 61 [(.p (.lst ox0 (x0.map eS))), (.clo 27 [(.ptr 0 0)] [])] [(Zi (Zk.mk zl zp z6 zd zh (Zj.mk z1 z2)) zn zb)]) r
theorem Z9t (x0 : List ByteArray) (zl : List Int) (zp z6 zd : Int) (zh : List Zq) (z1 z2 : Int) (ox0 zn zb : Own) (zu : ZF zb = true) : Sim (Z1r zl z6 zd zh z1 z2 zn zb) (Z44 x0 zl zp) (EE 61 [(.p (.lst ox0 (x0.map eS))), (.clo 27 [(.ptr 0 0)] [])] [(Zi (Zk.mk zl zp z6 zd zh (Zj.mk z1 z2)) zn zb)]) := fun _ h => Z1f h z6 zd zh z1 z2 ox0 zn zb zu
def Z1B (x0 : List ByteArray) (x7 x8 : Int) (zl : List Int) (zp : Int) : Option (Int × Int) := pick fun r => ∀ (z6 zd : Int) (zh : List Zq) (z1 z2 : Int) (ox0 zn zb : Own) (zu : ZF zb = true), RRun (Z1r zl z6 zd zh z1 z2 zn zb) (ZdN 1 (.p (.lst ox0 (x0.map eS))) (.clo 27 [(.ptr 0 0)] []) (iv x7) (iv x8) [(Zi (Zk.mk zl zp z6 zd zh (Zj.mk z1 z2)) zn zb)]) r
theorem Z5Q (x0 : List ByteArray) (x7 x8 : Int) (zl : List Int) (zp z6 zd : Int) (zh : List Zq) (z1 z2 : Int) (ox0 zn zb : Own) (zu : ZF zb = true) : Sim (Z1r zl z6 zd zh z1 z2 zn zb) (Z1B x0 x7 x8 zl zp) (ZdN 1 (.p (.lst ox0 (x0.map eS))) (.clo 27 [(.ptr 0 0)] []) (iv x7) (iv x8) [(Zi (Zk.mk zl zp z6 zd zh (Zj.mk z1 z2)) zn zb)]) := fun _ h => Z1f h z6 zd zh z1 z2 ox0 zn zb zu
def Z4N (x1 : Z8) (x2 : Bool) (zl : List Int) (zp z6 zd : Int) (zh : List Zq) (z1 z2 : Int) : Option (Z8 × Int × Int × Int) := pick fun r => ∀ (z2k z1Z zn zb : Own) (zu : ZF zb = true), RRun (Z2U zl z6 zd zh zn zb) (EE 43 [(.ptr 0 0), (.p (.agg (ZE x1 z2k z1Z))), (bv x2)] [(Zi (Zk.mk zl zp z6 zd zh (Zj.mk z1 z2)) zn zb)]) r
theorem Zcq (x1 : Z8) (x2 : Bool) (zl : List Int) (zp z6 zd : Int) (zh : List Zq) (z1 z2 : Int) (z2k z1Z zn zb : Own) (zu : ZF zb = true) : Sim (Z2U zl z6 zd zh zn zb) (Z4N x1 x2 zl zp z6 zd zh z1 z2) (EE 43 [(.ptr 0 0), (.p (.agg (ZE x1 z2k z1Z))), (bv x2)] [(Zi (Zk.mk zl zp z6 zd zh (Zj.mk z1 z2)) zn zb)]) := fun _ h => Z1f h z2k z1Z zn zb zu
def Z4M (x1 : Int) (zl : List Int) (zp z6 zd : Int) (zh : List Zq) (z1 z2 : Int) : Option (Int × Int × Int × Int × Int) := pick fun r => ∀ (zn zb : Own) (zu : ZF zb = true), RRun (Z21 zl z6 zd zh zn zb) (EE 52 [(.ptr 0 0), (iv x1)] [(Zi (Zk.mk zl zp z6 zd zh (Zj.mk z1 z2)) zn zb)]) r
theorem Zck (x1 : Int) (zl : List Int) (zp z6 zd : Int) (zh : List Zq) (z1 z2 : Int) (zn zb : Own) (zu : ZF zb = true) : Sim (Z21 zl z6 zd zh zn zb) (Z4M x1 zl zp z6 zd zh z1 z2) (EE 52 [(.ptr 0 0), (iv x1)] [(Zi (Zk.mk zl zp z6 zd zh (Zj.mk z1 z2)) zn zb)]) := fun _ h => Z1f h zn zb zu
def Z3X (zl : List Int) (zp z6 zd : Int) (zh : List Zq) (z1 z2 : Int) : Option (Int × Int) := pick fun r => ∀ (zn zb : Own) (zu : ZF zb = true), RRun (Z2c zl z6 zd zh z1 z2 zn zb) (EE 63 [(.ptr 0 0)] [(Zi (Zk.mk zl zp z6 zd zh (Zj.mk z1 z2)) zn zb)]) r
theorem Z7Y (zl : List Int) (zp z6 zd : Int) (zh : List Zq) (z1 z2 : Int) (zn zb : Own) (zu : ZF zb = true) : Sim (Z2c zl z6 zd zh z1 z2 zn zb) (Z3X zl zp z6 zd zh z1 z2) (EE 63 [(.ptr 0 0)] [(Zi (Zk.mk zl zp z6 zd zh (Zj.mk z1 z2)) zn zb)]) := fun _ h => Z1f h zn zb zu
def Z2Q (x3 x4 : Int) (zl : List Int) (zp z6 zd : Int) (zh : List Zq) (z1 z2 : Int) : Option (Int × Int) := pick fun r => ∀ (zn zb : Own) (zu : ZF zb = true), RRun (Z2c zl z6 zd zh z1 z2 zn zb) (ZdO 1 (.ptr 0 0) (iv x3) (iv x4) [(Zi (Zk.mk zl zp z6 zd zh (Zj.mk z1 z2)) zn zb)]) r
theorem Z7b (x3 x4 : Int) (zl : List Int) (zp z6 zd : Int) (zh : List Zq) (z1 z2 : Int) (zn zb : Own) (zu : ZF zb = true) : Sim (Z2c zl z6 zd zh z1 z2 zn zb) (Z2Q x3 x4 zl zp z6 zd zh z1 z2) (ZdO 1 (.ptr 0 0) (iv x3) (iv x4) [(Zi (Zk.mk zl zp z6 zd zh (Zj.mk z1 z2)) zn zb)]) := fun _ h => Z1f h zn zb zu
def Z3U (x3 : List Z8) (zl : List Int) (zp z6 zd : Int) (zh : List Zq) (z1 z2 : Int) : Option (Z8 × Int × Int × Int × (List Zq) × Int × Int) := pick fun r => ∀ (b1 : Z8) (ox3 zn zb zB zy : Own) (hox3 : ZF ox3 = true) (zu : ZF zb = true) (zP : ZF zB = true) (zI : ZF zy = true), RRun (Z2E zl zn) (ZdC 1 (.ptr 0 0) (.ptr 1 0) (.p (.lst ox3 (x3.map ZX))) [(Zi (Zk.mk zl zp z6 zd zh (Zj.mk z1 z2)) zn zb), (Zr b1 zB zy)]) r
theorem Z7S (x3 : List Z8) (zl : List Int) (zp z6 zd : Int) (zh : List Zq) (z1 z2 : Int) (b1 : Z8) (ox3 zn zb zB zy : Own) (hox3 : ZF ox3 = true) (zu : ZF zb = true) (zP : ZF zB = true) (zI : ZF zy = true) : Sim (Z2E zl zn) (Z3U x3 zl zp z6 zd zh z1 z2) (ZdC 1 (.ptr 0 0) (.ptr 1 0) (.p (.lst ox3 (x3.map ZX))) [(Zi (Zk.mk zl zp z6 zd zh (Zj.mk z1 z2)) zn zb), (Zr b1 zB zy)]) := fun _ h => Z1f h b1 ox3 zn zb zB zy hox3 zu zP zI
def Z5m (x50 : List Zq) (x51 x52 : Int) (z24 : List Int) (zQ zH zS zK zV zU zL zN : Int) (zO : List Z7) (zJ : List Z8) (z15 : Bool) : Option (ZD × Zj) := pick fun r => ∀ (b0 : ZD) (b1 : Zj) (z1Y z1H : Int) (z1k : List Zq) (z1z : Int) (ox50 zR zM z2w z19 z14 z12 : Own) (z1E : ZF zR = true) (z1w : ZF zM = true) (z2I : ZF z19 = true), RRun (Z2x) (ZdB 0 (.ptr 0 0) (.ptr 1 0) (.ptr 2 0) (.ptr 3 0) (.p (.lst ox50 (x50.map Z1S))) (iv x51) (iv x52) [(Zw b0 zR zM), (ZC b1), (Zi (Zk.mk z24 z1Y zQ z1H z1k (Zj.mk zH zS)) z2w z19), (Zw (ZD.mk (Z8.mk zK zV zU zL zN zO zJ) z1z z15) z14 z12)]) r
theorem Zak (x50 : List Zq) (x51 x52 : Int) (b0 : ZD) (b1 : Zj) (z24 : List Int) (z1Y zQ z1H : Int) (z1k : List Zq) (zH zS zK zV zU zL zN : Int) (zO : List Z7) (zJ : List Z8) (z1z : Int) (z15 : Bool) (ox50 zR zM z2w z19 z14 z12 : Own) (z1E : ZF zR = true) (z1w : ZF zM = true) (z2I : ZF z19 = true) : Sim (Z2x) (Z5m x50 x51 x52 z24 zQ zH zS zK zV zU zL zN zO zJ z15) (ZdB 0 (.ptr 0 0) (.ptr 1 0) (.ptr 2 0) (.ptr 3 0) (.p (.lst ox50 (x50.map Z1S))) (iv x51) (iv x52) [(Zw b0 zR zM), (ZC b1), (Zi (Zk.mk z24 z1Y zQ z1H z1k (Zj.mk zH zS)) z2w z19), (Zw (ZD.mk (Z8.mk zK zV zU zL zN zO zJ) z1z z15) z14 z12)]) := fun _ h => Z1f h b0 b1 z1Y z1H z1k z1z ox50 zR zM z2w z19 z14 z12 z1E z1w z2I
def Z6V (x0 : Int) : Option (Bool) := pick fun r => RRun (Z5W) (EE 18 [(iv x0)] []) r
theorem ZeH (x0 : Int) : Sim (Z5W) (Z6V x0) (EE 18 [(iv x0)] []) := fun _ h => Z1f h
def Z9j (x0 : Int) : Option (List Int) := pick fun r => RRun (Z5c) (EE 20 [(iv x0)] []) r
theorem ZgX (x0 : Int) : Sim (Z5c) (Z9j x0) (EE 20 [(iv x0)] []) := fun _ h => Z1f h
end Go.Proofs.YtadodmjdkphddaaDoor.N2
end
