/- The functions, read typed: their types, and what they stand for. No condition. -/
import Derived.Test.YtocikhhkicahoaaDoorSim
import Derived.Test.YtocikhhkicahoaaDoorEqs

set_option linter.unusedSimpArgs false
set_option linter.unusedVariables false
set_option linter.defProp false
noncomputable section
namespace Go.Proofs.YtocikhhkicahoaaDoor.N2
open Go Go.Abs
set_option maxRecDepth 100000
theorem gj_ (n : Nat) {l k : List PV} (h : l = k) : l.getD n .junk = k.getD n .junk := congrArg (fun l => l.getD n .junk) h
structure Z8 where
 Lo : Int
 Hi : Int
 deriving Inhabited
def Z4y (a : Z8) : List PV := [(eI .i64) a.Lo, (eI .i64) a.Hi]
def Zv (a : Z8) : PV := .agg (Z4y a)
def ZN (a : Z8) : List PV := [(eI .i64) a.Lo, (eI .i64) a.Hi]
def Z1K (a : Z8) : Row := [.p ((eI .i64) a.Lo), .p ((eI .i64) a.Hi)]
theorem Zgq {a b : Z8} (h : Z4y a = Z4y b) : a = b := by
 have h0 : a.Lo = b.Lo := Z8n _ _ (gj_ 0 h)
 have h1 : a.Hi = b.Hi := Z8n _ _ (gj_ 1 h)
 cases a; cases b
 cases h0
 cases h1
 rfl
theorem Z5O (a b : Z8) (h : Zv a = Zv b) : a = b := Zgq (congrArg pC h)
structure Zw where
 Op : Int
 A : Int
 B : Int
 C : Int
 D : Int
 Set : (List Z8)
 deriving Inhabited
def Z4a (a : Zw) : List PV := [(eI .i64) a.Op, (eI .i64) a.A, (eI .i64) a.B, (eI .i64) a.C, (eI .i64) a.D, (eL Zv) a.Set]
def ZD (a : Zw) : PV := .agg (Z4a a)
def Z1m (a : Zw) (o0 : Own) : List PV := [(eI .i64) a.Op, (eI .i64) a.A, (eI .i64) a.B, (eI .i64) a.C, (eI .i64) a.D, .lst o0 (a.Set.map Zv)]
def Z1w (a : Zw) (o0 : Own) : Row := [.p ((eI .i64) a.Op), .p ((eI .i64) a.A), .p ((eI .i64) a.B), .p ((eI .i64) a.C), .p ((eI .i64) a.D), .p (.lst o0 (a.Set.map Zv))]
theorem Zop {a b : Zw} (h : Z4a a = Z4a b) : a = b := by
 have h0 : a.Op = b.Op := Z8n _ _ (gj_ 0 h)
 have h1 : a.A = b.A := Z8n _ _ (gj_ 1 h)
 have h2 : a.B = b.B := Z8n _ _ (gj_ 2 h)
 have h3 : a.C = b.C := Z8n _ _ (gj_ 3 h)
 have h4 : a.D = b.D := Z8n _ _ (gj_ 4 h)
 have h5 : a.Set = b.Set := (ZyZ Z5O) _ _ (gj_ 5 h)
 cases a; cases b
 cases h0
 cases h1
 cases h2
 cases h3
 cases h4
 cases h5
 rfl
theorem Z6A (a b : Zw) (h : ZD a = ZD b) : a = b := Zop (congrArg pC h)
structure Zk where
 Kind : Int
 Lo : Int
 Hi : Int
 Mode : Int
 Ref : Int
 Set : (List Z8)
 Kids : (List Zk)
instance : Inhabited Zk := ⟨⟨default, default, default, default, default, default, default⟩⟩
mutual
def ZJ : Zk → PV
 | ⟨Kind_, Lo_, Hi_, Mode_, Ref_, Set_, Kids_⟩ => .agg [(eI .i64) Kind_, (eI .i64) Lo_, (eI .i64) Hi_, (eI .i64) Mode_, (eI .i64) Ref_, (eL Zv) Set_, .lst .sh (Z65 Kids_)]
def Z65 : List Zk → List PV
 | [] => []
 | x :: r => ZJ x :: Z65 r
end
theorem Zhr : ∀ l, Z65 l = l.map ZJ
 | [] => rfl
 | x :: r => by rw [Z65, Zhr r]; rfl
def Z1Z (a : Zk) : List PV := [(eI .i64) a.Kind, (eI .i64) a.Lo, (eI .i64) a.Hi, (eI .i64) a.Mode, (eI .i64) a.Ref, (eL Zv) a.Set, (eL ZJ) a.Kids]
theorem Z4V (a : Zk) : ZJ a = .agg (Z1Z a) := by
 cases a; rw [ZJ, Zhr]; rfl
theorem Z2J (a : Zk) : Z1n (ZJ a) = Z1Z a := by rw [Z4V]; rfl
theorem Zg2 (a : Zk) : (Z1n (ZJ a)).length = 7 := by rw [Z4V]; rfl
def ZI (a : Zk) (o0 o1 : Own) : List PV := [(eI .i64) a.Kind, (eI .i64) a.Lo, (eI .i64) a.Hi, (eI .i64) a.Mode, (eI .i64) a.Ref, .lst o0 (a.Set.map Zv), .lst o1 (a.Kids.map ZJ)]
def Zl (a : Zk) (o0 o1 : Own) : Row := [.p ((eI .i64) a.Kind), .p ((eI .i64) a.Lo), .p ((eI .i64) a.Hi), .p ((eI .i64) a.Mode), .p ((eI .i64) a.Ref), .p (.lst o0 (a.Set.map Zv)), .p (.lst o1 (a.Kids.map ZJ))]
mutual
theorem Zhq : ∀ a b : Zk, ZJ a = ZJ b → a = b
 | ⟨Kind_, Lo_, Hi_, Mode_, Ref_, Set_, Kids_⟩, ⟨Kind_2, Lo_2, Hi_2, Mode_2, Ref_2, Set_2, Kids_2⟩, h => by
  rw [ZJ, ZJ] at h
  have h0 : Kind_ = Kind_2 := Z8n _ _ (congrArg (fun l => (pC l).getD 0 .junk) h)
  have h1 : Lo_ = Lo_2 := Z8n _ _ (congrArg (fun l => (pC l).getD 1 .junk) h)
  have h2 : Hi_ = Hi_2 := Z8n _ _ (congrArg (fun l => (pC l).getD 2 .junk) h)
  have h3 : Mode_ = Mode_2 := Z8n _ _ (congrArg (fun l => (pC l).getD 3 .junk) h)
  have h4 : Ref_ = Ref_2 := Z8n _ _ (congrArg (fun l => (pC l).getD 4 .junk) h)
  have h5 : Set_ = Set_2 := (ZyZ Z5O) _ _ (congrArg (fun l => (pC l).getD 5 .junk) h)
  have h6 : Kids_ = Kids_2 := Zgr Kids_ Kids_2 (congrArg (fun l => pL ((pC l).getD 6 .junk)) h)
  subst h0
  subst h1
  subst h2
  subst h3
  subst h4
  subst h5
  subst h6
  rfl
theorem Zgr : ∀ a b : List Zk, Z65 a = Z65 b → a = b
 | [], [], _ => rfl
 | [], _ :: _, h => by simp [Z65] at h
 | _ :: _, [], h => by simp [Z65] at h
 | x :: r, y :: t, h => by
  simp only [Z65, Zly] at h
  rw [Zhq x y h.1, Zgr r t h.2]
end
theorem Z7E {a b : Zk} (h : Z1Z a = Z1Z b) : a = b := Zhq a b (by rw [Z4V, Z4V, h])
structure Z1d where
 Root : Zk
 Groups : Int
 Fold : Bool
 deriving Inhabited
def Zin (a : Z1d) : List PV := [(eI .i64) a.Root.Kind, (eI .i64) a.Root.Lo, (eI .i64) a.Root.Hi, (eI .i64) a.Root.Mode, (eI .i64) a.Root.Ref, (eL Zv) a.Root.Set, (eL ZJ) a.Root.Kids, (eI .i64) a.Groups, eB a.Fold]
def Z2N (a : Z1d) (o0 o1 : Own) : List PV := [(eI .i64) a.Root.Kind, (eI .i64) a.Root.Lo, (eI .i64) a.Root.Hi, (eI .i64) a.Root.Mode, (eI .i64) a.Root.Ref, .lst o0 (a.Root.Set.map Zv), .lst o1 (a.Root.Kids.map ZJ), (eI .i64) a.Groups, eB a.Fold]
def ZS (a : Z1d) (o0 o1 : Own) : Row := [.p ((eI .i64) a.Root.Kind), .p ((eI .i64) a.Root.Lo), .p ((eI .i64) a.Root.Hi), .p ((eI .i64) a.Root.Mode), .p ((eI .i64) a.Root.Ref), .p (.lst o0 (a.Root.Set.map Zv)), .p (.lst o1 (a.Root.Kids.map ZJ)), .p ((eI .i64) a.Groups), .p (eB a.Fold)]
theorem ZkS {a b : Z1d} (h : Zin a = Zin b) : a = b := by
 have h0 : a.Root = b.Root := Z7E (congrArg (fun l => (l.drop 0).take 7) h)
 have h1 : a.Groups = b.Groups := Z8n _ _ (gj_ 7 h)
 have h2 : a.Fold = b.Fold := ZEM _ _ (gj_ 8 h)
 cases a; cases b
 cases h0
 cases h1
 cases h2
 rfl
structure Z14 where
 Code : Int
 At : Int
 deriving Inhabited
def ZjU (a : Z14) : List PV := [(eI .i64) a.Code, (eI .i64) a.At]
def Z5c (a : Z14) : List PV := [(eI .i64) a.Code, (eI .i64) a.At]
def Z1A (a : Z14) : Row := [.p ((eI .i64) a.Code), .p ((eI .i64) a.At)]
theorem Zm7 {a b : Z14} (h : ZjU a = ZjU b) : a = b := by
 have h0 : a.Code = b.Code := Z8n _ _ (gj_ 0 h)
 have h1 : a.At = b.At := Z8n _ _ (gj_ 1 h)
 cases a; cases b
 cases h0
 cases h1
 rfl
structure Zz where
 group : Int
 at_ : Int
 deriving Inhabited
def Zbh (a : Zz) : List PV := [(eI .i64) a.group, (eI .i64) a.at_]
def Z2U (a : Zz) : PV := .agg (Zbh a)
def Ze9 (a : Zz) : List PV := [(eI .i64) a.group, (eI .i64) a.at_]
def Zeg (a : Zz) : Row := [.p ((eI .i64) a.group), .p ((eI .i64) a.at_)]
theorem ZkT {a b : Zz} (h : Zbh a = Zbh b) : a = b := by
 have h0 : a.group = b.group := Z8n _ _ (gj_ 0 h)
 have h1 : a.at_ = b.at_ := Z8n _ _ (gj_ 1 h)
 cases a; cases b
 cases h0
 cases h1
 rfl
theorem Zbi (a b : Zz) (h : Z2U a = Z2U b) : a = b := ZkT (congrArg pC h)
structure Z1y where
 b : (List Int)
 at_ : Int
 groups : Int
 deep : Int
 refs : (List Zz)
 fault : Z14
 deriving Inhabited
def Zqz (a : Z1y) (o0 o1 : Own) : List PV := [.lst o0 (a.b.map (eI .u8)), (eI .i64) a.at_, (eI .i64) a.groups, (eI .i64) a.deep, .lst o1 (a.refs.map Z2U), (eI .i64) a.fault.Code, (eI .i64) a.fault.At]
def Z3Q (a : Z1y) (o0 o1 : Own) : Row := [.p (.lst o0 (a.b.map (eI .u8))), .p ((eI .i64) a.at_), .p ((eI .i64) a.groups), .p ((eI .i64) a.deep), .p (.lst o1 (a.refs.map Z2U)), .p ((eI .i64) a.fault.Code), .p ((eI .i64) a.fault.At)]
structure Zm4 where
 out : (List Zw)
 fold : Bool
 loops : Int
 deriving Inhabited
def ZrK (a : Zm4) (o0 : Own) : List PV := [.lst o0 (a.out.map ZD), eB a.fold, (eI .i64) a.loops]
end Go.Proofs.YtocikhhkicahoaaDoor.N2
end
noncomputable section
namespace Go.Proofs.YtocikhhkicahoaaDoor.N2
open Go Go.Abs
set_option maxRecDepth 100000
theorem et_ {α : Type} {a b c : α} (h : b = c) (g : a = b := by kernel_rfl) : a = c := g.trans h
theorem ru_ {R : Type} {Q : R → Res → Prop} {e : Option Res} {a b : R} (u : ∀ a b q, Q a q → Q b q → a = b) (h : RRun Q e a) (g : RRun Q e b) : a = b := RRun.uniq u h g
abbrev ZvW := Z8.mk 0 0
abbrev Zdr := Z1d.mk (Zk.mk 0 0 0 0 0 ([] : List Z8) ([] : List Zk)) 0 false
abbrev Zfi := Z14.mk 0 0
abbrev Z1B := Zk.mk 0 0 0 0 0 ([] : List Z8) ([] : List Zk)
abbrev ZvX := Zw.mk 0 0 0 0 0 ([] : List Z8)
abbrev ZL a0 a1 a2 a3 a4 a5 a6 o0 o1 := Z3Q (Z1y.mk a0 a1 a2 a3 a4 (Z14.mk a5 a6)) o0 o1
abbrev Z9s a0 a1 a2 a3 a4 a5 a6 a7 a8 o0 o1 := ZS (Z1d.mk (Zk.mk a0 a1 a2 a3 a4 a5 a6) a7 a8) o0 o1
abbrev Z2P a0 a1 a2 a3 a4 a5 a6 o0 o1 := Zl (Zk.mk a0 a1 a2 a3 a4 a5 a6) o0 o1
abbrev ZP (o : Own) (l : List PV) : AV := .p (.lst o l)
abbrev pA_ (l : List PV) : AV := .p (.agg l)
abbrev Z6q (zm : List Int) (z7 zh : Int) (zj : List Zz) (z2 z6 : Int) (zu zd : Own) : (Bool × Int) → Res → Prop := fun r q => ∃ (ex : List Row), q = ((bv r.1), [(ZL zm r.2 z7 zh zj z2 z6 zu zd)] ++ ex)
theorem ZjS (zm : List Int) (z7 zh : Int) (zj : List Zz) (z2 z6 : Int) (zu zd : Own) : ∀ a b q, Z6q zm z7 zh zj z2 z6 zu zd a q → Z6q zm z7 zh zj z2 z6 zu zd b q → a = b := by
 rintro a b q ⟨_, e1⟩ ⟨_, e2⟩
 have e := e1.symm.trans e2
 exact Z3y (congrArg (fun q : Res => pB (pA q.1)) e) (congrArg (fun q : Res => pI (pA (cellAt q 0 1))) e)
abbrev Z8Z : (Int × Int) → Res → Prop := fun r q => ∃ (ex : List Row), q = ((.p (.tup [(.v (.int .i32 r.1)), (.v (.int .i64 r.2))])), ex)
theorem Zgo : ∀ a b q, Z8Z a q → Z8Z b q → a = b := by
 rintro a b q ⟨_, e1⟩ ⟨_, e2⟩
 have e := e1.symm.trans e2
 exact Z3y (congrArg (fun q : Res => pI ((pT (pA q.1)).getD 0 .junk)) e) (congrArg (fun q : Res => pI ((pT (pA q.1)).getD 1 .junk)) e)
abbrev Z3h : (Int × Int) → Res → Prop := fun r q => ∃ (ex : List Row), q = ((.p (.tup [(.v (.int .i64 r.1)), (.v (.int .i64 r.2))])), ex)
theorem ZdL : ∀ a b q, Z3h a q → Z3h b q → a = b := by
 rintro a b q ⟨_, e1⟩ ⟨_, e2⟩
 have e := e1.symm.trans e2
 exact Z3y (congrArg (fun q : Res => pI ((pT (pA q.1)).getD 0 .junk)) e) (congrArg (fun q : Res => pI ((pT (pA q.1)).getD 1 .junk)) e)
abbrev Z7Q (b0 : Z1y) (zu zd : Own) : Int → Res → Prop := fun r q => ∃ (ex : List Row), q = ((iv r), [(Z3Q b0 zu zd)] ++ ex)
theorem ZjR (b0 : Z1y) (zu zd : Own) : ∀ a b q, Z7Q b0 zu zd a q → Z7Q b0 zu zd b q → a = b := by
 rintro a b q ⟨_, e1⟩ ⟨_, e2⟩
 have e := e1.symm.trans e2
 exact congrArg (fun q : Res => pI (pA q.1)) e
abbrev Z6D : Zk → Res → Prop := fun r q => ∃ (ex : List Row), q = ((pA_ (ZI r .sh .sh)), ex)
theorem Zii : ∀ a b q, Z6D a q → Z6D b q → a = b := by
 rintro a b q ⟨_, e1⟩ ⟨_, e2⟩
 have e := e1.symm.trans e2
 exact Z7E (congrArg (fun q : Res => pC (pA q.1)) e)
abbrev Z2c (zm : List Int) (z7 zh : Int) (zj : List Zz) (z2 z6 : Int) (zu zd : Own) : (Int × Int) → Res → Prop := fun r q => ∃ (ex : List Row), q = ((iv r.1), [(ZL zm r.2 z7 zh zj z2 z6 zu zd)] ++ ex)
theorem Z6E (zm : List Int) (z7 zh : Int) (zj : List Zz) (z2 z6 : Int) (zu zd : Own) : ∀ a b q, Z2c zm z7 zh zj z2 z6 zu zd a q → Z2c zm z7 zh zj z2 z6 zu zd b q → a = b := by
 rintro a b q ⟨_, e1⟩ ⟨_, e2⟩
 have e := e1.symm.trans e2
 exact Z3y (congrArg (fun q : Res => pI (pA q.1)) e) (congrArg (fun q : Res => pI (pA (cellAt q 0 1))) e)
abbrev Zgd : Z8 → Res → Prop := fun r q => ∃ (ex : List Row), q = ((pA_ (ZN r)), ex)
theorem Zsk : ∀ a b q, Zgd a q → Zgd b q → a = b := by
 rintro a b q ⟨_, e1⟩ ⟨_, e2⟩
 have e := e1.symm.trans e2
 exact Zgq (congrArg (fun q : Res => pC (pA q.1)) e)
abbrev ZQ : Bool → Res → Prop := fun r q => ∃ (ex : List Row), q = ((bv r), ex)
theorem Z2q : ∀ a b q, ZQ a q → ZQ b q → a = b := by
 rintro a b q ⟨_, e1⟩ ⟨_, e2⟩
 have e := e1.symm.trans e2
 exact congrArg (fun q : Res => pB (pA q.1)) e
abbrev ZK : Int → Res → Prop := fun r q => ∃ (ex : List Row), q = ((iv r), ex)
theorem Z1J : ∀ a b q, ZK a q → ZK b q → a = b := by
 rintro a b q ⟨_, e1⟩ ⟨_, e2⟩
 have e := e1.symm.trans e2
 exact congrArg (fun q : Res => pI (pA q.1)) e
abbrev Z3M : (List Z8) → Res → Prop := fun r q => ∃ (ex : List Row), q = ((ZP .sh (r.map Zv)), ex)
theorem Zb9 : ∀ a b q, Z3M a q → Z3M b q → a = b := by
 rintro a b q ⟨_, e1⟩ ⟨_, e2⟩
 have e := e1.symm.trans e2
 exact Z5i Z5O (congrArg (fun q : Res => pL (pA q.1)) e)
abbrev Z2R : ((List Z8) × Int) → Res → Prop := fun r q => ∃ (ex : List Row), q = ((.p (.tup [(.lst .sh (r.1.map Zv)), (.v (.int .i64 r.2))])), ex)
theorem ZaG : ∀ a b q, Z2R a q → Z2R b q → a = b := by
 rintro a b q ⟨_, e1⟩ ⟨_, e2⟩
 have e := e1.symm.trans e2
 exact Z3y (Z5i Z5O (congrArg (fun q : Res => pL ((pT (pA q.1)).getD 0 .junk)) e)) (congrArg (fun q : Res => pI ((pT (pA q.1)).getD 1 .junk)) e)
abbrev Z7P (zm : List Int) (z7 zh : Int) (zj : List Zz) (zu zd : Own) : (Int × Int × Int) → Res → Prop := fun r q => ∃ (ex : List Row), q = ((.p (.tup [])), [(ZL zm r.1 z7 zh zj r.2.1 r.2.2 zu zd)] ++ ex)
theorem ZjQ (zm : List Int) (z7 zh : Int) (zj : List Zz) (zu zd : Own) : ∀ a b q, Z7P zm z7 zh zj zu zd a q → Z7P zm z7 zh zj zu zd b q → a = b := by
 rintro a b q ⟨_, e1⟩ ⟨_, e2⟩
 have e := e1.symm.trans e2
 exact Z3y (congrArg (fun q : Res => pI (pA (cellAt q 0 1))) e) (Z3y (congrArg (fun q : Res => pI (pA (cellAt q 0 5))) e) (congrArg (fun q : Res => pI (pA (cellAt q 0 6))) e))
abbrev Z7C : (Own × (List Z8)) → Res → Prop := fun r q => ∃ (ex : List Row), q = ((ZP r.1 (r.2.map Zv)), ex)
theorem Zfv : ∀ a b q, Z7C a q → Z7C b q → a = b := by
 rintro a b q ⟨_, e1⟩ ⟨_, e2⟩
 have e := e1.symm.trans e2
 exact Z3y (congrArg (fun q : Res => pOwn (pA q.1)) e) (Z5i Z5O (congrArg (fun q : Res => pL (pA q.1)) e))
abbrev Z7B (z1x : Int) : Bool → Res → Prop := fun r q => ∃ (ex : List Row), q = ((bv r), [[(iv z1x)]] ++ ex)
theorem Zfu (z1x : Int) : ∀ a b q, Z7B z1x a q → Z7B z1x b q → a = b := by
 rintro a b q ⟨_, e1⟩ ⟨_, e2⟩
 have e := e1.symm.trans e2
 exact congrArg (fun q : Res => pB (pA q.1)) e
abbrev Z2I (z1x : Int) : Int → Res → Prop := fun r q => ∃ (ex : List Row), q = ((iv r), [[(iv z1x)]] ++ ex)
theorem Z9U (z1x : Int) : ∀ a b q, Z2I z1x a q → Z2I z1x b q → a = b := by
 rintro a b q ⟨_, e1⟩ ⟨_, e2⟩
 have e := e1.symm.trans e2
 exact congrArg (fun q : Res => pI (pA q.1)) e
abbrev Z5W (zm : List Int) (z7 zh : Int) (zj : List Zz) (zu zd : Own) : (Int × Int × Int × Int) → Res → Prop := fun r q => ∃ (ex : List Row), q = ((iv r.1), [(ZL zm r.2.1 z7 zh zj r.2.2.1 r.2.2.2 zu zd)] ++ ex)
theorem Zju (zm : List Int) (z7 zh : Int) (zj : List Zz) (zu zd : Own) : ∀ a b q, Z5W zm z7 zh zj zu zd a q → Z5W zm z7 zh zj zu zd b q → a = b := by
 rintro a b q ⟨_, e1⟩ ⟨_, e2⟩
 have e := e1.symm.trans e2
 exact Z3y (congrArg (fun q : Res => pI (pA q.1)) e) (Z3y (congrArg (fun q : Res => pI (pA (cellAt q 0 1))) e) (Z3y (congrArg (fun q : Res => pI (pA (cellAt q 0 5))) e) (congrArg (fun q : Res => pI (pA (cellAt q 0 6))) e)))
abbrev Z4o (zm : List Int) (z7 zh : Int) (zu : Own) : (Zk × Int × (List Zz) × Int × Int) → Res → Prop := fun r q => ∃ (p0_4 : Own) (ex : List Row), ZM p0_4 = true ∧ q = ((pA_ (ZI r.1 .sh .sh)), [(ZL zm r.2.1 z7 zh r.2.2.1 r.2.2.2.1 r.2.2.2.2 zu p0_4)] ++ ex)
theorem ZiS (zm : List Int) (z7 zh : Int) (zu : Own) : ∀ a b q, Z4o zm z7 zh zu a q → Z4o zm z7 zh zu b q → a = b := by
 rintro a b q ⟨_, _, _, e1⟩ ⟨_, _, _, e2⟩
 have e := e1.symm.trans e2
 exact Z3y (Z7E (congrArg (fun q : Res => pC (pA q.1)) e)) (Z3y (congrArg (fun q : Res => pI (pA (cellAt q 0 1))) e) (Z3y (Z5i Zbi (congrArg (fun q : Res => pL (pA (cellAt q 0 4))) e)) (Z3y (congrArg (fun q : Res => pI (pA (cellAt q 0 5))) e) (congrArg (fun q : Res => pI (pA (cellAt q 0 6))) e))))
abbrev Z4p (zm : List Int) (z7 zh : Int) (zj : List Zz) (zu zd : Own) : (Int × (Own × (List Z8)) × Bool × Int × Int × Int) → Res → Prop := fun r q => ∃ (ex : List Row), q = ((.p (.tup [(.v (.int .i64 r.1)), (.lst r.2.1.1 (r.2.1.2.map Zv)), (.v (.bool r.2.2.1))])), [(ZL zm r.2.2.2.1 z7 zh zj r.2.2.2.2.1 r.2.2.2.2.2 zu zd)] ++ ex)
theorem ZiT (zm : List Int) (z7 zh : Int) (zj : List Zz) (zu zd : Own) : ∀ a b q, Z4p zm z7 zh zj zu zd a q → Z4p zm z7 zh zj zu zd b q → a = b := by
 rintro a b q ⟨_, e1⟩ ⟨_, e2⟩
 have e := e1.symm.trans e2
 exact Z3y (congrArg (fun q : Res => pI ((pT (pA q.1)).getD 0 .junk)) e) (Z3y (Z3y (congrArg (fun q : Res => pOwn ((pT (pA q.1)).getD 1 .junk)) e) (Z5i Z5O (congrArg (fun q : Res => pL ((pT (pA q.1)).getD 1 .junk)) e))) (Z3y (congrArg (fun q : Res => pB ((pT (pA q.1)).getD 2 .junk)) e) (Z3y (congrArg (fun q : Res => pI (pA (cellAt q 0 1))) e) (Z3y (congrArg (fun q : Res => pI (pA (cellAt q 0 5))) e) (congrArg (fun q : Res => pI (pA (cellAt q 0 6))) e)))))
abbrev Z86 : (List Z8) → Res → Prop := fun r q => ∃ (p0_0 : Own) (ex : List Row), q = ((.p (.tup [])), [[(ZP p0_0 (r.map Zv))]] ++ ex)
theorem Zij : ∀ a b q, Z86 a q → Z86 b q → a = b := by
 rintro a b q ⟨_, _, e1⟩ ⟨_, _, e2⟩
 have e := e1.symm.trans e2
 exact Z5i Z5O (congrArg (fun q : Res => pL (pA (cellAt q 0 0))) e)
abbrev Z1G (zm : List Int) (z7 zh : Int) (zj : List Zz) (zu zd : Own) : (Zk × Int × Int × Int) → Res → Prop := fun r q => ∃ (ex : List Row), q = ((pA_ (ZI r.1 .sh .sh)), [(ZL zm r.2.1 z7 zh zj r.2.2.1 r.2.2.2 zu zd)] ++ ex)
theorem Zal (zm : List Int) (z7 zh : Int) (zj : List Zz) (zu zd : Own) : ∀ a b q, Z1G zm z7 zh zj zu zd a q → Z1G zm z7 zh zj zu zd b q → a = b := by
 rintro a b q ⟨_, e1⟩ ⟨_, e2⟩
 have e := e1.symm.trans e2
 exact Z3y (Z7E (congrArg (fun q : Res => pC (pA q.1)) e)) (Z3y (congrArg (fun q : Res => pI (pA (cellAt q 0 1))) e) (Z3y (congrArg (fun q : Res => pI (pA (cellAt q 0 5))) e) (congrArg (fun q : Res => pI (pA (cellAt q 0 6))) e)))
abbrev ZdK : (List ByteArray) → Res → Prop := fun r q => ∃ (ex : List Row), q = ((ZP .sh (r.map eS)), ex)
theorem Zp6 : ∀ a b q, ZdK a q → ZdK b q → a = b := by
 rintro a b q ⟨_, e1⟩ ⟨_, e2⟩
 have e := e1.symm.trans e2
 exact Z5i ZEN (congrArg (fun q : Res => pL (pA q.1)) e)
abbrev Z2T (zm : List Int) (zu : Own) : (Zk × Bool × Int × Int × Int × (List Zz) × Int × Int) → Res → Prop := fun r q => ∃ (p0_4 : Own) (ex : List Row), ZM p0_4 = true ∧ q = ((.p (.tup [(.agg (ZI r.1 .sh .sh)), (.v (.bool r.2.1))])), [(ZL zm r.2.2.1 r.2.2.2.1 r.2.2.2.2.1 r.2.2.2.2.2.1 r.2.2.2.2.2.2.1 r.2.2.2.2.2.2.2 zu p0_4)] ++ ex)
theorem Zds (zm : List Int) (zu : Own) : ∀ a b q, Z2T zm zu a q → Z2T zm zu b q → a = b := by
 rintro a b q ⟨_, _, _, e1⟩ ⟨_, _, _, e2⟩
 have e := e1.symm.trans e2
 exact Z3y (Z7E (congrArg (fun q : Res => pC ((pT (pA q.1)).getD 0 .junk)) e)) (Z3y (congrArg (fun q : Res => pB ((pT (pA q.1)).getD 1 .junk)) e) (Z3y (congrArg (fun q : Res => pI (pA (cellAt q 0 1))) e) (Z3y (congrArg (fun q : Res => pI (pA (cellAt q 0 2))) e) (Z3y (congrArg (fun q : Res => pI (pA (cellAt q 0 3))) e) (Z3y (Z5i Zbi (congrArg (fun q : Res => pL (pA (cellAt q 0 4))) e)) (Z3y (congrArg (fun q : Res => pI (pA (cellAt q 0 5))) e) (congrArg (fun q : Res => pI (pA (cellAt q 0 6))) e)))))))
abbrev Z3g (zm : List Int) (z7 zh : Int) (zj : List Zz) (zu zd : Own) : (Int × Int × Int × Int × Int) → Res → Prop := fun r q => ∃ (ex : List Row), q = ((.p (.tup [(.v (.int .i64 r.1)), (.v (.int .i64 r.2.1))])), [(ZL zm r.2.2.1 z7 zh zj r.2.2.2.1 r.2.2.2.2 zu zd)] ++ ex)
theorem ZiR (zm : List Int) (z7 zh : Int) (zj : List Zz) (zu zd : Own) : ∀ a b q, Z3g zm z7 zh zj zu zd a q → Z3g zm z7 zh zj zu zd b q → a = b := by
 rintro a b q ⟨_, e1⟩ ⟨_, e2⟩
 have e := e1.symm.trans e2
 exact Z3y (congrArg (fun q : Res => pI ((pT (pA q.1)).getD 0 .junk)) e) (Z3y (congrArg (fun q : Res => pI ((pT (pA q.1)).getD 1 .junk)) e) (Z3y (congrArg (fun q : Res => pI (pA (cellAt q 0 1))) e) (Z3y (congrArg (fun q : Res => pI (pA (cellAt q 0 5))) e) (congrArg (fun q : Res => pI (pA (cellAt q 0 6))) e))))
abbrev Z2z (zm : List Int) (zu : Own) : (Zk × Int × Int × Int × (List Zz) × Int × Int) → Res → Prop := fun r q => ∃ (p0_4 : Own) (ex : List Row), ZM p0_4 = true ∧ q = ((pA_ (ZI r.1 .sh .sh)), [(ZL zm r.2.1 r.2.2.1 r.2.2.2.1 r.2.2.2.2.1 r.2.2.2.2.2.1 r.2.2.2.2.2.2 zu p0_4)] ++ ex)
theorem Z8Y (zm : List Int) (zu : Own) : ∀ a b q, Z2z zm zu a q → Z2z zm zu b q → a = b := by
 rintro a b q ⟨_, _, _, e1⟩ ⟨_, _, _, e2⟩
 have e := e1.symm.trans e2
 exact Z3y (Z7E (congrArg (fun q : Res => pC (pA q.1)) e)) (Z3y (congrArg (fun q : Res => pI (pA (cellAt q 0 1))) e) (Z3y (congrArg (fun q : Res => pI (pA (cellAt q 0 2))) e) (Z3y (congrArg (fun q : Res => pI (pA (cellAt q 0 3))) e) (Z3y (Z5i Zbi (congrArg (fun q : Res => pL (pA (cellAt q 0 4))) e)) (Z3y (congrArg (fun q : Res => pI (pA (cellAt q 0 5))) e) (congrArg (fun q : Res => pI (pA (cellAt q 0 6))) e))))))
abbrev Z45 : (Z1d × Z14) → Res → Prop := fun r q => ∃ (ex : List Row), q = ((.p (.tup [(.agg (Z2N r.1 .sh .sh)), (.agg (Z5c r.2))])), ex)
theorem Zjd : ∀ a b q, Z45 a q → Z45 b q → a = b := by
 rintro a b q ⟨_, e1⟩ ⟨_, e2⟩
 have e := e1.symm.trans e2
 exact Z3y (ZkS (congrArg (fun q : Res => pC ((pT (pA q.1)).getD 0 .junk)) e)) (Zm7 (congrArg (fun q : Res => pC ((pT (pA q.1)).getD 1 .junk)) e))
abbrev Z8x (zB : Bool) (zC : Int) : (Int × (List Zw)) → Res → Prop := fun r q => ∃ (ex : List Row), q = ((iv r.1), [[(.p (.ml 6 (r.2.map ZD))), (bv zB), (iv zC)]] ++ ex)
theorem ZiU (zB : Bool) (zC : Int) : ∀ a b q, Z8x zB zC a q → Z8x zB zC b q → a = b := by
 rintro a b q ⟨_, e1⟩ ⟨_, e2⟩
 have e := e1.symm.trans e2
 exact Z3y (congrArg (fun q : Res => pI (pA q.1)) e) (Z5i Z6A (congrArg (fun q : Res => pL (pA (cellAt q 0 0))) e))
abbrev Z6d (zB : Bool) (zC : Int) : (List Zw) → Res → Prop := fun r q => ∃ (ex : List Row), q = ((.p (.tup [])), [[(.p (.ml 6 (r.map ZD))), (bv zB), (iv zC)]] ++ ex)
theorem Zhv (zB : Bool) (zC : Int) : ∀ a b q, Z6d zB zC a q → Z6d zB zC b q → a = b := by
 rintro a b q ⟨_, e1⟩ ⟨_, e2⟩
 have e := e1.symm.trans e2
 exact Z5i Z6A (congrArg (fun q : Res => pL (pA (cellAt q 0 0))) e)
abbrev Z15 (zB : Bool) : ((List Zw) × Int) → Res → Prop := fun r q => ∃ (ex : List Row), q = ((.p (.tup [])), [[(.p (.ml 6 (r.1.map ZD))), (bv zB), (iv r.2)]] ++ ex)
theorem Z2V (zB : Bool) : ∀ a b q, Z15 zB a q → Z15 zB b q → a = b := by
 rintro a b q ⟨_, e1⟩ ⟨_, e2⟩
 have e := e1.symm.trans e2
 exact Z3y (Z5i Z6A (congrArg (fun q : Res => pL (pA (cellAt q 0 0))) e)) (congrArg (fun q : Res => pI (pA (cellAt q 0 2))) e)
abbrev Z3u (b1 : Zk) (z1M : Bool) (zH zE : Own) : ((List Zw) × Int) → Res → Prop := fun r q => ∃ (ex : List Row), q = ((.p (.tup [])), [[(.ptr 2 0)], (Zl b1 zH zE), [(.p (.ml 6 (r.1.map ZD))), (bv z1M), (iv r.2)]] ++ ex)
theorem Z8H (b1 : Zk) (z1M : Bool) (zH zE : Own) : ∀ a b q, Z3u b1 z1M zH zE a q → Z3u b1 z1M zH zE b q → a = b := by
 rintro a b q ⟨_, e1⟩ ⟨_, e2⟩
 have e := e1.symm.trans e2
 exact Z3y (Z5i Z6A (congrArg (fun q : Res => pL (pA (cellAt q 2 0))) e)) (congrArg (fun q : Res => pI (pA (cellAt q 2 2))) e)
abbrev Z3v (zB : Bool) (b2 : Zk) (z19 zZ : Own) : ((List Zw) × Int) → Res → Prop := fun r q => ∃ (ex : List Row), q = ((.p (.tup [])), [[(.p (.ml 6 (r.1.map ZD))), (bv zB), (iv r.2)], [(.ptr 0 0)], (Zl b2 z19 zZ)] ++ ex)
theorem Z8I (zB : Bool) (b2 : Zk) (z19 zZ : Own) : ∀ a b q, Z3v zB b2 z19 zZ a q → Z3v zB b2 z19 zZ b q → a = b := by
 rintro a b q ⟨_, e1⟩ ⟨_, e2⟩
 have e := e1.symm.trans e2
 exact Z3y (Z5i Z6A (congrArg (fun q : Res => pL (pA (cellAt q 0 0))) e)) (congrArg (fun q : Res => pI (pA (cellAt q 0 2))) e)
abbrev ZaH : ((List Zw) × Int) → Res → Prop := fun r q => ∃ (ex : List Row), q = ((.p (.tup [(.lst .sh (r.1.map ZD)), (.v (.int .i64 r.2))])), ex)
theorem Zom : ∀ a b q, ZaH a q → ZaH b q → a = b := by
 rintro a b q ⟨_, e1⟩ ⟨_, e2⟩
 have e := e1.symm.trans e2
 exact Z3y (Z5i Z6A (congrArg (fun q : Res => pL ((pT (pA q.1)).getD 0 .junk)) e)) (congrArg (fun q : Res => pI ((pT (pA q.1)).getD 1 .junk)) e)
abbrev Z76 : ((List Zw) × Int × Int) → Res → Prop := fun r q => ∃ (ex : List Row), q = ((.p (.tup [(.lst .sh (r.1.map ZD)), (.v (.int .i64 r.2.1)), (.v (.int .i64 r.2.2))])), ex)
theorem Zjt : ∀ a b q, Z76 a q → Z76 b q → a = b := by
 rintro a b q ⟨_, e1⟩ ⟨_, e2⟩
 have e := e1.symm.trans e2
 exact Z3y (Z5i Z6A (congrArg (fun q : Res => pL ((pT (pA q.1)).getD 0 .junk)) e)) (Z3y (congrArg (fun q : Res => pI ((pT (pA q.1)).getD 1 .junk)) e) (congrArg (fun q : Res => pI ((pT (pA q.1)).getD 2 .junk)) e))
abbrev Zav : ByteArray → Res → Prop := fun r q => ∃ (ex : List Row), q = ((.p (.v (.string r))), ex)
theorem ZlP : ∀ a b q, Zav a q → Zav b q → a = b := by
 rintro a b q ⟨_, e1⟩ ⟨_, e2⟩
 have e := e1.symm.trans e2
 exact congrArg (fun q : Res => pS (pA q.1)) e
def Z9p (x0 : List Z8) : Option Bool := pick fun r => ∀ (ox0 : Own), RRun ZQ (EE 5 [(ZP ox0 (x0.map Zv))] []) r
def Zgy x0 ox0 r (h : Z9p x0 = some r) := Z1j h ox0
def Z8e : Option Bool := pick fun r => RRun ZQ (EE 8 [] []) r
def ZhF r (h : Z8e = some r) := Z1j h
def Z3r (x0 : ByteArray) : Option ((List Zw) × Int × Int) := pick fun r => RRun Z76 (EE 9 [(.p (.v (.string x0)))] []) r
def Z7O x0 r (h : Z3r x0 = some r) := Z1j h
def ZdQ (x0 : ByteArray) : Option (Z1d × Z14) := pick fun r => RRun Z45 (EE 10 [(.p (.v (.string x0)))] []) r
def Zov x0 r (h : ZdQ x0 = some r) := Z1j h
def Z1H (x1 : ByteArray) (zm : List Int) (zn : Int) : Option (Bool × Int) := pick fun r => ∀ (z7 zh : Int) (zj : List Zz) (z2 z6 : Int) (zu zd : Own) (zy : ZM zd = true), RRun (Z6q zm z7 zh zj z2 z6 zu zd) (EE 19 [(.ptr 0 0), (.p (.v (.string x1)))] [(ZL zm zn z7 zh zj z2 z6 zu zd)]) r
def Z1Q x1 zm zn z7 zh zj z2 z6 zu zd zy r (h : Z1H x1 zm zn = some r) := Z1j h z7 zh zj z2 z6 zu zd zy
def Z4d (zm : List Int) (zn z7 zh : Int) (zj : List Zz) (z2 z6 : Int) : Option (Zk × Int × Int × Int × (List Zz) × Int × Int) := pick fun r => ∀ (zu zd : Own) (zy : ZM zd = true), RRun (Z2z zm zu) (EE 20 [(.ptr 0 0)] [(ZL zm zn z7 zh zj z2 z6 zu zd)]) r
def Zep zm zn z7 zh zj z2 z6 zu zd zy r (h : Z4d zm zn z7 zh zj z2 z6 = some r) := Z1j h zu zd zy
def Z6R (zm : List Int) (zn z7 zh : Int) (zj : List Zz) (z2 z6 : Int) : Option (Zk × Int × Int × Int × (List Zz) × Int × Int) := pick fun r => ∀ (zu zd : Own) (zy : ZM zd = true), RRun (Z2z zm zu) (EE 30 [(.ptr 0 0)] [(ZL zm zn z7 zh zj z2 z6 zu zd)]) r
def Zer zm zn z7 zh zj z2 z6 zu zd zy r (h : Z6R zm zn z7 zh zj z2 z6 = some r) := Z1j h zu zd zy
def Z5C (x3 : List Zk) (zm : List Int) (zn z7 zh : Int) (zj : List Zz) (z2 z6 : Int) : Option (Zk × Int × Int × Int × (List Zz) × Int × Int) := pick fun r => ∀ (b1 : Zk) (ox3 zu zd zH zE : Own) (hox3 : ZM ox3 = true) (zy : ZM zd = true) (z16 : ZM zH = true) (zY : ZM zE = true), RRun (Z2z zm zu) (Zmj 1 (.ptr 0 0) (.ptr 1 0) (ZP ox3 (x3.map ZJ)) [(ZL zm zn z7 zh zj z2 z6 zu zd), (Zl b1 zH zE)]) r
def Zcc x3 zm zn z7 zh zj z2 z6 b1 ox3 zu zd zH zE hox3 zy z16 zY r (h : Z5C x3 zm zn z7 zh zj z2 z6 = some r) := Z1j h b1 ox3 zu zd zH zE hox3 zy z16 zY
def Z2G (b0 : Z1y) : Option Int := pick fun r => ∀ (zu zd : Own) (zy : ZM zd = true), RRun (Z7Q b0 zu zd) (EE 47 [(.ptr 0 0)] [(Z3Q b0 zu zd)]) r
def Z2S b0 zu zd zy r (h : Z2G b0 = some r) := Z1j h zu zd zy
def ZdF (x0 : List Int) (x1 : Int) : Option (Int × Int) := pick fun r => ∀ (ox0 : Own), RRun Z3h (EE 62 [(ZP ox0 (x0.map (eI .u8))), (iv x1)] []) r
def Zks x0 x1 ox0 r (h : ZdF x0 x1 = some r) := Z1j h ox0
def Z95 (x0 : List Int) : Option (Int × Int) := pick fun r => ∀ (ox0 : Own), RRun Z8Z (EE 76 [(ZP ox0 (x0.map (eI .u8)))] []) r
def ZfZ x0 ox0 r (h : Z95 x0 = some r) := Z1j h ox0
def ZaR (x0 : Int) (x1 : List Zk) : Option Zk := pick fun r => ∀ (ox1 : Own), RRun Z6D (EE 31 [(iv x0), (ZP ox1 (x1.map ZJ))] []) r
def Zhu x0 x1 ox1 r (h : ZaR x0 x1 = some r) := Z1j h ox1
def Z9H (zm : List Int) (zn z7 zh : Int) (zj : List Zz) (z2 z6 : Int) : Option (Zk × Bool × Int × Int × Int × (List Zz) × Int × Int) := pick fun r => ∀ (zu zd : Own) (zy : ZM zd = true), RRun (Z2T zm zu) (EE 48 [(.ptr 0 0)] [(ZL zm zn z7 zh zj z2 z6 zu zd)]) r
def ZjE zm zn z7 zh zj z2 z6 zu zd zy r (h : Z9H zm zn z7 zh zj z2 z6 = some r) := Z1j h zu zd zy
def Z3k (zm : List Int) (zn : Int) : Option (Int × Int) := pick fun r => ∀ (z7 zh : Int) (zj : List Zz) (z2 z6 : Int) (zu zd : Own) (zy : ZM zd = true), RRun (Z2c zm z7 zh zj z2 z6 zu zd) (EE 63 [(.ptr 0 0)] [(ZL zm zn z7 zh zj z2 z6 zu zd)]) r
def Z3J zm zn z7 zh zj z2 z6 zu zd zy r (h : Z3k zm zn = some r) := Z1j h z7 zh zj z2 z6 zu zd zy
def Z2w (x0 : Int) : Option Z8 := pick fun r => RRun Zgd (EE 65 [(iv x0)] []) r
def Z2m x0 r (h : Z2w x0 = some r) := Z1j h
def Z3Y (x0 : Bool) (x1 : List Z8) : Option Zk := pick fun r => ∀ (ox1 : Own), RRun Z6D (EE 64 [(bv x0), (ZP ox1 (x1.map Zv))] []) r
def Z47 x0 x1 ox1 r (h : Z3Y x0 x1 = some r) := Z1j h ox1
def ZeR (x0 : List Z8) : Option ((List Z8) × Int) := pick fun r => ∀ (ox0 : Own), RRun Z2R (EE 77 [(ZP ox0 (x0.map Zv))] []) r
def Zqj x0 ox0 r (h : ZeR x0 = some r) := Z1j h ox0
def Z58 (x0 : List Z8) : Option Bool := pick fun r => ∀ (ox0 : Own), RRun ZQ (EE 96 [(ZP ox0 (x0.map Zv)), (.clo 97 [] [])] []) r
def Zdi x0 ox0 r (h : Z58 x0 = some r) := Z1j h ox0
def Z6a (x0 : List Z8) : Option Int := pick fun r => ∀ (ox0 : Own), RRun ZK (EE 104 [(ZP ox0 (x0.map Zv)), (.clo 97 [] [])] []) r
def ZeL x0 ox0 r (h : Z6a x0 = some r) := Z1j h ox0
def Z42 (x0 : List Z8) (x7 x8 : Int) : Option Int := pick fun r => ∀ (ox0 : Own), RRun ZK (ZjX 0 (ZP ox0 (x0.map Zv)) (.clo 97 [] []) (iv x7) (iv x8) []) r
def Z8W x0 x7 x8 ox0 r (h : Z42 x0 x7 x8 = some r) := Z1j h ox0
def ZcO (x0 : Z8) : Option Bool := pick fun r => RRun ZQ (EE 97 [(pA_ (ZN x0))] []) r
def ZnT x0 r (h : ZcO x0 = some r) := Z1j h
def Z7U (x0 : Z8) : Option Bool := pick fun r => RRun ZQ (EE 22 [(pA_ (ZN x0))] []) r
def Zdv x0 r (h : Z7U x0 = some r) := Z1j h
def ZaO (x0 : List Z8) : Option (List Z8) := pick fun r => ∀ (ox0 : Own), RRun Z3M (EE 25 [(ZP ox0 (x0.map Zv))] []) r
def Zdd x0 ox0 r (h : ZaO x0 = some r) := Z1j h ox0
def Z8C (x0 : List Z8) : Option ((List Z8) × Int) := pick fun r => ∀ (ox0 : Own), RRun Z2R (EE 17 [(ZP ox0 (x0.map Zv))] []) r
def Zc8 x0 ox0 r (h : Z8C x0 = some r) := Z1j h ox0
def Z4c (x0 : List Z8) : Option Bool := pick fun r => ∀ (ox0 : Own), RRun ZQ (EE 12 [(ZP ox0 (x0.map Zv))] []) r
def Z6Q x0 ox0 r (h : Z4c x0 = some r) := Z1j h ox0
def Z5A (x3 : Int) (x6 : List Z8) (x7 x8 : Int) : Option Bool := pick fun r => ∀ (ox6 : Own), RRun ZQ (Zmb 0 (iv x3) (ZP ox6 (x6.map Zv)) (iv x7) (iv x8) []) r
def Zc7 x3 x6 x7 x8 ox6 r (h : Z5A x3 x6 x7 x8 = some r) := Z1j h ox6
def ZbP (x0 : List Z8) : Option (List Z8) := pick fun r => ∀ (ox0 : Own), RRun Z3M (EE 26 [(ZP ox0 (x0.map Zv))] []) r
def ZmD x0 ox0 r (h : ZbP x0 = some r) := Z1j h ox0
def Z8o (x3 : List Z8) (x4 : Int) (x7 : List Z8) (x8 x9 : Int) : Option (List Z8) := pick fun r => ∀ (ox3 ox7 : Own) (hox3 : ZM ox3 = true), RRun Z3M (Zmh 0 (ZP ox3 (x3.map Zv)) (iv x4) (ZP ox7 (x7.map Zv)) (iv x8) (iv x9) []) r
def Zem x3 x4 x7 x8 x9 ox3 ox7 hox3 r (h : Z8o x3 x4 x7 x8 x9 = some r) := Z1j h ox3 ox7 hox3
def Z4z (x1 : Int) (zm : List Int) (zn z7 zh : Int) (zj : List Zz) (z2 z6 : Int) : Option (Zk × Int × (List Zz) × Int × Int) := pick fun r => ∀ (zu zd : Own) (zy : ZM zd = true), RRun (Z4o zm z7 zh zu) (EE 66 [(.ptr 0 0), (iv x1)] [(ZL zm zn z7 zh zj z2 z6 zu zd)]) r
def Ziv x1 zm zn z7 zh zj z2 z6 zu zd zy r (h : Z4z x1 zm zn z7 zh zj z2 z6 = some r) := Z1j h zu zd zy
def Z1c (x1 x2 : Int) (zm : List Int) (z2 z6 : Int) : Option (Int × Int × Int) := pick fun r => ∀ (zn z7 zh : Int) (zj : List Zz) (zu zd : Own) (zy : ZM zd = true), RRun (Z7P zm z7 zh zj zu zd) (EE 21 [(.ptr 0 0), (iv x1), (iv x2)] [(ZL zm zn z7 zh zj z2 z6 zu zd)]) r
def Z1h x1 x2 zm zn z7 zh zj z2 z6 zu zd zy r (h : Z1c x1 x2 zm z2 z6 = some r) := Z1j h zn z7 zh zj zu zd zy
def Z7G (x0 : Int) : Option (Own × (List Z8)) := pick fun r => RRun Z7C (EE 78 [(iv x0)] []) r
def Zbk x0 r (h : Z7G x0 = some r) := Z1j h
def Z7u (x1 x2 : Int) (zm : List Int) (zn z7 zh : Int) (zj : List Zz) (z2 z6 : Int) : Option (Int × Int × Int × Int) := pick fun r => ∀ (zu zd : Own) (zy : ZM zd = true), RRun (Z5W zm z7 zh zj zu zd) (EE 79 [(.ptr 0 0), (iv x1), (iv x2)] [(ZL zm zn z7 zh zj z2 z6 zu zd)]) r
def Zda x1 x2 zm zn z7 zh zj z2 z6 zu zd zy r (h : Z7u x1 x2 zm zn z7 zh zj z2 z6 = some r) := Z1j h zu zd zy
def Zdz (x0 : Int) : Option Int := pick fun r => RRun ZK (EE 98 [(iv x0)] []) r
def Zkk x0 r (h : Zdz x0 = some r) := Z1j h
def Z7s (x0 : List Z8) (x1 : Int) : Option Bool := pick fun r => ∀ (ox0 : Own), RRun ZQ (EE 24 [(ZP ox0 (x0.map Zv)), (iv x1)] []) r
def Zc6 x0 x1 ox0 r (h : Z7s x0 x1 = some r) := Z1j h ox0
def Z57 (x0 : List Z8) (z1x : Int) : Option Bool := pick fun r => ∀ (ox0 : Own), RRun (Z7B z1x) (EE 32 [(ZP ox0 (x0.map Zv)), (.clo 33 [] [(.ptr 0 0)])] [[(iv z1x)]]) r
def Zdg x0 z1x ox0 r (h : Z57 x0 z1x = some r) := Z1j h ox0
def Z69 (x0 : List Z8) (z1x : Int) : Option Int := pick fun r => ∀ (ox0 : Own), RRun (Z2I z1x) (EE 50 [(ZP ox0 (x0.map Zv)), (.clo 33 [] [(.ptr 0 0)])] [[(iv z1x)]]) r
def ZeJ x0 z1x ox0 r (h : Z69 x0 z1x = some r) := Z1j h ox0
def Z41 (x0 : List Z8) (x7 x8 z1x : Int) : Option Int := pick fun r => ∀ (ox0 : Own), RRun (Z2I z1x) (Zmq 1 (ZP ox0 (x0.map Zv)) (.clo 33 [] [(.ptr 0 0)]) (iv x7) (iv x8) [[(iv z1x)]]) r
def Z8U x0 x7 x8 z1x ox0 r (h : Z41 x0 x7 x8 z1x = some r) := Z1j h ox0
def ZaD (x0 : Z8) (z1x : Int) : Option Bool := pick fun r => RRun (Z7B z1x) (EE 33 [(pA_ (ZN x0)), (.ptr 0 0)] [[(iv z1x)]]) r
def Zl2 x0 z1x r (h : ZaD x0 z1x = some r) := Z1j h
def Z94 (x1 : Int) (zm : List Int) (zn z7 zh : Int) (zj : List Zz) (z2 z6 : Int) : Option (Zk × Int × Int × Int) := pick fun r => ∀ (zu zd : Own) (zy : ZM zd = true), RRun (Z1G zm z7 zh zj zu zd) (EE 67 [(.ptr 0 0), (iv x1)] [(ZL zm zn z7 zh zj z2 z6 zu zd)]) r
def Zj4 x1 zm zn z7 zh zj z2 z6 zu zd zy r (h : Z94 x1 zm zn z7 zh zj z2 z6 = some r) := Z1j h zu zd zy
def Z43 (x1 : Int) (x5 : Bool) (x8 : Int) (zm : List Int) (zn z7 zh : Int) (zj : List Zz) (z2 z6 : Int) (z1s : List Z8) : Option (Zk × Int × Int × Int) := pick fun r => ∀ (b1 : Zk) (zu zd zH zE z1W : Own) (zy : ZM zd = true) (z16 : ZM zH = true) (zY : ZM zE = true), RRun (Z1G zm z7 zh zj zu zd) (Zms 1 (.ptr 0 0) (iv x1) (.ptr 1 0) (bv x5) (.ptr 2 0) (.clo 80 [] [(.ptr 2 0)]) (iv x8) [(ZL zm zn z7 zh zj z2 z6 zu zd), (Zl b1 zH zE), [(ZP z1W (z1s.map Zv))]]) r
def Zbu x1 x5 x8 zm zn z7 zh zj z2 z6 b1 z1s zu zd zH zE z1W zy z16 zY r (h : Z43 x1 x5 x8 zm zn z7 zh zj z2 z6 z1s = some r) := Z1j h b1 zu zd zH zE z1W zy z16 zY
def Z5D (zm : List Int) (zn z7 zh : Int) (zj : List Zz) (z2 z6 : Int) : Option (Int × (Own × (List Z8)) × Bool × Int × Int × Int) := pick fun r => ∀ (zu zd : Own) (zy : ZM zd = true), RRun (Z4p zm z7 zh zj zu zd) (EE 81 [(.ptr 0 0)] [(ZL zm zn z7 zh zj z2 z6 zu zd)]) r
def Zcf zm zn z7 zh zj z2 z6 zu zd zy r (h : Z5D zm zn z7 zh zj z2 z6 = some r) := Z1j h zu zd zy
def Z6v (x0 z1x : List Z8) : Option (List Z8) := pick fun r => ∀ (ox0 zi1 : Own), RRun Z86 (EE 80 [(ZP ox0 (x0.map Zv)), (.ptr 0 0)] [[(ZP zi1 (z1x.map Zv))]]) r
def ZbR x0 z1x ox0 zi1 r (h : Z6v x0 z1x = some r) := Z1j h ox0 zi1
def Z9e (x0 x1 : List Z8) : Option ((List Z8) × Int) := pick fun r => ∀ (ox0 ox1 : Own), RRun Z2R (EE 39 [(ZP ox0 (x0.map Zv)), (ZP ox1 (x1.map Zv))] []) r
def Zht x0 x1 ox0 ox1 r (h : Z9e x0 x1 = some r) := Z1j h ox0 ox1
def ZaZ (x0 : List (List Z8)) : Option (List Z8) := pick fun r => ∀ (ox0 : Own), RRun Z3M (EE 57 [(ZP ox0 (x0.map (eL Zv)))] []) r
def ZiD x0 ox0 r (h : ZaZ x0 = some r) := Z1j h ox0
def Z4W (x1 : Int) (zm : List Int) (zn z7 zh : Int) (zj : List Zz) (z2 z6 : Int) : Option (Zk × Bool × Int × Int × Int × (List Zz) × Int × Int) := pick fun r => ∀ (zu zd : Own) (zy : ZM zd = true), RRun (Z2T zm zu) (EE 68 [(.ptr 0 0), (iv x1)] [(ZL zm zn z7 zh zj z2 z6 zu zd)]) r
def Zj6 x1 zm zn z7 zh zj z2 z6 zu zd zy r (h : Z4W x1 zm zn z7 zh zj z2 z6 = some r) := Z1j h zu zd zy
def ZdR : Option (List ByteArray) := pick fun r => RRun ZdK (EE 83 [] []) r
def Zox r (h : ZdR = some r) := Z1j h
def Z5I (x0 : List ByteArray) (zm : List Int) (zn : Int) : Option (Int × Int) := pick fun r => ∀ (z7 zh : Int) (zj : List Zz) (z2 z6 : Int) (ox0 zu zd : Own) (zy : ZM zd = true), RRun (Z2c zm z7 zh zj z2 z6 zu zd) (EE 82 [(ZP ox0 (x0.map eS)), (.clo 19 [(.ptr 0 0)] [])] [(ZL zm zn z7 zh zj z2 z6 zu zd)]) r
def Ze7 x0 zm zn z7 zh zj z2 z6 ox0 zu zd zy r (h : Z5I x0 zm zn = some r) := Z1j h z7 zh zj z2 z6 ox0 zu zd zy
def Z2n (x0 : List ByteArray) (x7 x8 : Int) (zm : List Int) (zn : Int) : Option (Int × Int) := pick fun r => ∀ (z7 zh : Int) (zj : List Zz) (z2 z6 : Int) (ox0 zu zd : Own) (zy : ZM zd = true), RRun (Z2c zm z7 zh zj z2 z6 zu zd) (Zmv 1 (ZP ox0 (x0.map eS)) (.clo 19 [(.ptr 0 0)] []) (iv x7) (iv x8) [(ZL zm zn z7 zh zj z2 z6 zu zd)]) r
def Z8E x0 x7 x8 zm zn z7 zh zj z2 z6 ox0 zu zd zy r (h : Z2n x0 x7 x8 zm zn = some r) := Z1j h z7 zh zj z2 z6 ox0 zu zd zy
def Z6T (x1 : Zk) (x2 : Bool) (zm : List Int) (zn z7 zh : Int) (zj : List Zz) (z2 z6 : Int) : Option (Zk × Int × Int × Int) := pick fun r => ∀ (zO zW zu zd : Own) (zy : ZM zd = true), RRun (Z1G zm z7 zh zj zu zd) (EE 49 [(.ptr 0 0), (pA_ (ZI x1 zO zW)), (bv x2)] [(ZL zm zn z7 zh zj z2 z6 zu zd)]) r
def Ziz x1 x2 zm zn z7 zh zj z2 z6 zO zW zu zd zy r (h : Z6T x1 x2 zm zn z7 zh zj z2 z6 = some r) := Z1j h zO zW zu zd zy
def Z6S (x1 : Int) (zm : List Int) (zn z7 zh : Int) (zj : List Zz) (z2 z6 : Int) : Option (Int × Int × Int × Int × Int) := pick fun r => ∀ (zu zd : Own) (zy : ZM zd = true), RRun (Z3g zm z7 zh zj zu zd) (EE 69 [(.ptr 0 0), (iv x1)] [(ZL zm zn z7 zh zj z2 z6 zu zd)]) r
def Zit x1 zm zn z7 zh zj z2 z6 zu zd zy r (h : Z6S x1 zm zn z7 zh zj z2 z6 = some r) := Z1j h zu zd zy
def Z5E (zm : List Int) (zn z7 zh : Int) (zj : List Zz) (z2 z6 : Int) : Option (Int × Int) := pick fun r => ∀ (zu zd : Own) (zy : ZM zd = true), RRun (Z2c zm z7 zh zj z2 z6 zu zd) (EE 84 [(.ptr 0 0)] [(ZL zm zn z7 zh zj z2 z6 zu zd)]) r
def Zcg zm zn z7 zh zj z2 z6 zu zd zy r (h : Z5E zm zn z7 zh zj z2 z6 = some r) := Z1j h zu zd zy
def Z3T (x3 x4 : Int) (zm : List Int) (zn z7 zh : Int) (zj : List Zz) (z2 z6 : Int) : Option (Int × Int) := pick fun r => ∀ (zu zd : Own) (zy : ZM zd = true), RRun (Z2c zm z7 zh zj z2 z6 zu zd) (Zmw 1 (.ptr 0 0) (iv x3) (iv x4) [(ZL zm zn z7 zh zj z2 z6 zu zd)]) r
def Zb2 x3 x4 zm zn z7 zh zj z2 z6 zu zd zy r (h : Z3T x3 x4 zm zn z7 zh zj z2 z6 = some r) := Z1j h zu zd zy
def Z5B (x3 : List Zk) (zm : List Int) (zn z7 zh : Int) (zj : List Zz) (z2 z6 : Int) : Option (Zk × Int × Int × Int × (List Zz) × Int × Int) := pick fun r => ∀ (b1 : Zk) (ox3 zu zd zH zE : Own) (hox3 : ZM ox3 = true) (zy : ZM zd = true) (z16 : ZM zH = true) (zY : ZM zE = true), RRun (Z2z zm zu) (Zmg 1 (.ptr 0 0) (.ptr 1 0) (ZP ox3 (x3.map ZJ)) [(ZL zm zn z7 zh zj z2 z6 zu zd), (Zl b1 zH zE)]) r
def Zca x3 zm zn z7 zh zj z2 z6 b1 ox3 zu zd zH zE hox3 zy z16 zY r (h : Z5B x3 zm zn z7 zh zj z2 z6 = some r) := Z1j h b1 ox3 zu zd zH zE hox3 zy z16 zY
def Z80 (x50 : List Zz) (x51 x52 : Int) (z34 : List Int) (z1b zU z1e z11 z1g z1f z12 z17 : Int) (z18 : List Z8) (z10 : List Zk) (z1C : Bool) : Option (Z1d × Z14) := pick fun r => ∀ (b0 : Z1d) (b1 : Z14) (z2W z2D : Int) (z23 : List Zz) (z2r : Int) (ox50 z13 zT z3C z1L z1t z1o : Own) (z2u : ZM z13 = true) (z2j : ZM zT = true) (z3K : ZM z1L = true), RRun Z45 (Zm8 0 (.ptr 0 0) (.ptr 1 0) (.ptr 2 0) (.ptr 3 0) (ZP ox50 (x50.map Z2U)) (iv x51) (iv x52) [(ZS b0 z13 zT), (Z1A b1), (ZL z34 z2W z1b z2D z23 zU z1e z3C z1L), (Z9s z11 z1g z1f z12 z17 z18 z10 z2r z1C z1t z1o)]) r
def Zfw x50 x51 x52 b0 b1 z34 z2W z1b z2D z23 zU z1e z11 z1g z1f z12 z17 z18 z10 z2r z1C ox50 z13 zT z3C z1L z1t z1o z2u z2j z3K r (h : Z80 x50 x51 x52 z34 z1b zU z1e z11 z1g z1f z12 z17 z18 z10 z1C = some r) := Z1j h b0 b1 z2W z2D z23 z2r ox50 z13 zT z3C z1L z1t z1o z2u z2j z3K
def ZaW (x0 : Z1d) : Option ((List Zw) × Int) := pick fun r => ∀ (z2k z26 : Own), RRun ZaH (EE 18 [(pA_ (Z2N x0 z2k z26))] []) r
def ZnY x0 z2k z26 r (h : ZaW x0 = some r) := Z1j h z2k z26
def ZdS (x0 : Z1d) : Option Int := pick fun r => ∀ (z2k z26 : Own), RRun ZK (EE 27 [(pA_ (Z2N x0 z2k z26))] []) r
def ZoA x0 z2k z26 r (h : ZdS x0 = some r) := Z1j h z2k z26
def Z4e (x0 : Zk) : Option Bool := pick fun r => ∀ (z27 z1q : Own), RRun ZQ (EE 38 [(pA_ (ZI x0 z27 z1q))] []) r
def ZgZ x0 z27 z1q r (h : Z4e x0 = some r) := Z1j h z27 z1q
def Z3f (x0 : Zk) : Option (Int × Int) := pick fun r => ∀ (z27 z1q : Own), RRun Z3h (EE 44 [(pA_ (ZI x0 z27 z1q))] []) r
def Z6B x0 z27 z1q r (h : Z3f x0 = some r) := Z1j h z27 z1q
def Z9q (x2 x3 : Int) (x23 : List Zk) (x24 x25 : Int) : Option (Int × Int) := pick fun r => ∀ (ox23 : Own), RRun Z3h (Zmp 0 (iv x2) (iv x3) (ZP ox23 (x23.map ZJ)) (iv x24) (iv x25) []) r
def Zfz x2 x3 x23 x24 x25 ox23 r (h : Z9q x2 x3 x23 x24 x25 = some r) := Z1j h ox23
def Z8T (x2 x3 : Int) (x45 : List Zk) (x46 x47 : Int) : Option (Int × Int) := pick fun r => ∀ (ox45 : Own), RRun Z3h (Zk6 0 (iv x2) (iv x3) (ZP ox45 (x45.map ZJ)) (iv x46) (iv x47) []) r
def ZeY x2 x3 x45 x46 x47 ox45 r (h : Z8T x2 x3 x45 x46 x47 = some r) := Z1j h ox45
def Zbx (x0 x1 : Int) : Option Int := pick fun r => RRun ZK (EE 61 [(iv x0), (iv x1)] []) r
def ZoF x0 x1 r (h : Zbx x0 x1 = some r) := Z1j h
def Zci (x0 : Int) : Option Int := pick fun r => RRun ZK (EE 75 [(iv x0)] []) r
def Zji x0 r (h : Zci x0 = some r) := Z1j h
def Zgi (x0 x1 : Int) : Option Int := pick fun r => RRun ZK (EE 60 [(iv x0), (iv x1)] []) r
def ZrH x0 x1 r (h : Zgi x0 x1 = some r) := Z1j h
def Z5u (x0 : List Zk) : Option Bool := pick fun r => ∀ (ox0 : Own), RRun ZQ (EE 55 [(ZP ox0 (x0.map ZJ)), (.clo 56 [] [])] []) r
def ZdD x0 ox0 r (h : Z5u x0 = some r) := Z1j h ox0
def Z6p (x0 : List Zk) : Option Int := pick fun r => ∀ (ox0 : Own), RRun ZK (EE 73 [(ZP ox0 (x0.map ZJ)), (.clo 56 [] [])] []) r
def Zf2 x0 ox0 r (h : Z6p x0 = some r) := Z1j h ox0
def Z4f (x0 : List Zk) (x7 x8 : Int) : Option Int := pick fun r => ∀ (ox0 : Own), RRun ZK (Zmu 0 (ZP ox0 (x0.map ZJ)) (.clo 56 [] []) (iv x7) (iv x8) []) r
def Z9c x0 x7 x8 ox0 r (h : Z4f x0 x7 x8 = some r) := Z1j h ox0
def ZaE (x0 : Zk) : Option Bool := pick fun r => ∀ (z27 z1q : Own), RRun ZQ (EE 56 [(pA_ (ZI x0 z27 z1q))] []) r
def Zlc x0 z27 z1q r (h : ZaE x0 = some r) := Z1j h z27 z1q
def Z5R (x0 : Zk) : Option Int := pick fun r => ∀ (z27 z1q : Own), RRun ZK (EE 11 [(pA_ (ZI x0 z27 z1q))] []) r
def Zjh x0 z27 z1q r (h : Z5R x0 = some r) := Z1j h z27 z1q
def Z6o (x3 : Int) (x8 : List Zk) (x9 x10 : Int) (b0 : Zk) : Option Int := pick fun r => ∀ (ox8 z1V z1v : Own), RRun ZK (Zma 0 (.ptr 0 0) (iv x3) (ZP ox8 (x8.map ZJ)) (iv x9) (iv x10) [(Zl b0 z1V z1v)]) r
def ZgY x3 x8 x9 x10 b0 ox8 z1V z1v r (h : Z6o x3 x8 x9 x10 b0 = some r) := Z1j h ox8 z1V z1v
def Z1k (x1 : Zw) (zG : List Zw) : Option (Int × (List Zw)) := pick fun r => ∀ (zB : Bool) (zC : Int) (zO : Own), RRun (Z8x zB zC) (EE 28 [(.ptr 0 0), (pA_ (Z1m x1 zO))] [[(.p (.ml 6 (zG.map ZD))), (bv zB), (iv zC)]]) r
def Z1r x1 zG zB zC zO r (h : Z1k x1 zG = some r) := Z1j h zB zC zO
def Z1R (x1 : Zk) (zG : List Zw) (zB : Bool) (zC : Int) : Option ((List Zw) × Int) := pick fun r => ∀ (zO zW : Own), RRun (Z15 zB) (EE 29 [(.ptr 0 0), (pA_ (ZI x1 zO zW))] [[(.p (.ml 6 (zG.map ZD))), (bv zB), (iv zC)]]) r
def Z2L x1 zG zB zC zO zW r (h : Z1R x1 zG zB zC = some r) := Z1j h zO zW
def Z9o (x0 : List Z8) : Option ((List Z8) × Int) := pick fun r => ∀ (ox0 : Own), RRun Z2R (EE 14 [(ZP ox0 (x0.map Zv))] []) r
def ZlS x0 ox0 r (h : Z9o x0 = some r) := Z1j h ox0
def Zbl (x0 : List Z8) : Option (Own × (List Z8)) := pick fun r => ∀ (ox0 : Own), RRun Z7C (EE 23 [(ZP ox0 (x0.map Zv))] []) r
def Zjb x0 ox0 r (h : Zbl x0 = some r) := Z1j h ox0
def Z7V (x0 x4 : List Z8) (x5 : Int) : Option ((List Z8) × Int) := pick fun r => ∀ (ox0 ox4 : Own) (hox4 : ZM ox4 = true), RRun Z2R (Zmd 0 (ZP ox0 (x0.map Zv)) (ZP ox4 (x4.map Zv)) (.p (.v (.int .i32 x5))) []) r
def Zdx x0 x4 x5 ox0 ox4 hox4 r (h : Z7V x0 x4 x5 = some r) := Z1j h ox0 ox4 hox4
def Z51 (x36 : List Zk) (x37 x38 : Int) (zG : List Zw) (zB : Bool) (zC : Int) : Option ((List Zw) × Int) := pick fun r => ∀ (ox36 : Own), RRun (Z15 zB) (Zk0 1 (.ptr 1 0) (ZP ox36 (x36.map ZJ)) (iv x37) (iv x38) [[(.p (.ml 6 (zG.map ZD))), (bv zB), (iv zC)], [(.ptr 0 0)]]) r
def Zat x36 x37 x38 zG zB zC ox36 r (h : Z51 x36 x37 x38 zG zB zC = some r) := Z1j h ox36
def Z6U (x1 : List Zk) (zG : List Zw) (zB : Bool) (zC : Int) : Option ((List Zw) × Int) := pick fun r => ∀ (ox1 : Own), RRun (Z15 zB) (EE 40 [(.ptr 0 0), (ZP ox1 (x1.map ZJ))] [[(.p (.ml 6 (zG.map ZD))), (bv zB), (iv zC)]]) r
def ZiB x1 zG zB zC ox1 r (h : Z6U x1 zG zB zC = some r) := Z1j h ox1
def Z5P (x1 : List Zk) (x4 : List Int) (x5 : Int) (x16 : List Zk) (x17 x18 : Int) (zG : List Zw) (zB : Bool) (zC : Int) : Option ((List Zw) × Int) := pick fun r => ∀ (ox1 ox4 ox16 : Own) (hox4 : ZM ox4 = true), RRun (Z15 zB) (Zmn 1 (.ptr 0 0) (ZP ox1 (x1.map ZJ)) (ZP ox4 (x4.map (eI .i64))) (iv x5) (ZP ox16 (x16.map ZJ)) (iv x17) (iv x18) [[(.p (.ml 6 (zG.map ZD))), (bv zB), (iv zC)]]) r
def Zb4 x1 x4 x5 x16 x17 x18 zG zB zC ox1 ox4 ox16 hox4 r (h : Z5P x1 x4 x5 x16 x17 x18 zG zB zC = some r) := Z1j h ox1 ox4 ox16 hox4
def Z4S (x1 x2 x3 : Int) (x4 : Bool) (zG : List Zw) : Option (List Zw) := pick fun r => ∀ (zB : Bool) (zC : Int), RRun (Z6d zB zC) (EE 58 [(.ptr 0 0), (iv x1), (iv x2), (iv x3), (bv x4)] [[(.p (.ml 6 (zG.map ZD))), (bv zB), (iv zC)]]) r
def Z8J x1 x2 x3 x4 zG zB zC r (h : Z4S x1 x2 x3 x4 zG = some r) := Z1j h zB zC
def Z5t (x51 : List Int) (x52 x53 : Int) (zG : List Zw) (zC : Int) : Option ((List Zw) × Int) := pick fun r => ∀ (zB : Bool) (ox51 : Own), RRun (Z15 zB) (Zk2 1 (.ptr 0 0) (ZP ox51 (x51.map (eI .i64))) (iv x52) (iv x53) [[(.p (.ml 6 (zG.map ZD))), (bv zB), (iv zC)]]) r
def ZaY x51 x52 x53 zG zB zC ox51 r (h : Z5t x51 x52 x53 zG zC = some r) := Z1j h zB ox51
def Z4E (x1 : Zw) (zG : List Zw) (zB : Bool) (zC : Int) (b2 : Zk) : Option ((List Zw) × Int) := pick fun r => ∀ (zO z19 zZ : Own), RRun (Z3v zB b2 z19 zZ) (EE 41 [(.ptr 0 0), (pA_ (Z1m x1 zO)), (.clo 42 [] [(.ptr 1 0), (.ptr 2 0)])] [[(.p (.ml 6 (zG.map ZD))), (bv zB), (iv zC)], [(.ptr 0 0)], (Zl b2 z19 zZ)]) r
def ZgS x1 zG zB zC b2 zO z19 zZ r (h : Z4E x1 zG zB zC b2 = some r) := Z1j h zO z19 zZ
def Z7v (b1 : Zk) (z2X : List Zw) (z1M : Bool) (z2h : Int) : Option ((List Zw) × Int) := pick fun r => ∀ (zH zE : Own), RRun (Z3u b1 z1M zH zE) (EE 42 [(.ptr 0 0), (.ptr 1 0)] [[(.ptr 2 0)], (Zl b1 zH zE), [(.p (.ml 6 (z2X.map ZD))), (bv z1M), (iv z2h)]]) r
def ZgK b1 z2X z1M z2h zH zE r (h : Z7v b1 z2X z1M z2h = some r) := Z1j h zH zE
def Z4B (x1 : Zk) (zG : List Zw) (zB : Bool) (zC : Int) : Option ((List Zw) × Int) := pick fun r => ∀ (zO zW : Own), RRun (Z15 zB) (EE 43 [(.ptr 0 0), (pA_ (ZI x1 zO zW))] [[(.p (.ml 6 (zG.map ZD))), (bv zB), (iv zC)]]) r
def Zb5 x1 zG zB zC zO zW r (h : Z4B x1 zG zB zC = some r) := Z1j h zO zW
def Z4N (x4 : Bool) (x13 x14 : Int) (zG : List Zw) (zB : Bool) (zC : Int) (b1 : Zk) : Option ((List Zw) × Int) := pick fun r => ∀ (zH zE : Own), RRun (Z15 zB) (Zmo 1 (.ptr 0 0) (.ptr 1 0) (bv x4) (iv x13) (iv x14) [[(.p (.ml 6 (zG.map ZD))), (bv zB), (iv zC)], (Zl b1 zH zE)]) r
def Zad x4 x13 x14 zG zB zC b1 zH zE r (h : Z4N x4 x13 x14 zG zB zC b1 = some r) := Z1j h zH zE
def Z8f (x1 : Zk) (x2 : Bool) (zG : List Zw) (zB : Bool) (zC : Int) : Option ((List Zw) × Int) := pick fun r => ∀ (zO zW : Own), RRun (Z15 zB) (EE 59 [(.ptr 0 0), (pA_ (ZI x1 zO zW)), (bv x2)] [[(.p (.ml 6 (zG.map ZD))), (bv zB), (iv zC)]]) r
def ZhU x1 x2 zG zB zC zO zW r (h : Z8f x1 x2 zG zB zC = some r) := Z1j h zO zW
def Z4C (x4 : Bool) (x6 : List Int) (x49 x50 : Int) (zG : List Zw) (zB : Bool) (zC : Int) (b1 : Zk) : Option ((List Zw) × Int) := pick fun r => ∀ (ox6 zH zE : Own) (hox6 : ZM ox6 = true), RRun (Z15 zB) (Zk3 1 (.ptr 0 0) (.ptr 1 0) (bv x4) (ZP ox6 (x6.map (eI .i64))) (iv x49) (iv x50) [[(.p (.ml 6 (zG.map ZD))), (bv zB), (iv zC)], (Zl b1 zH zE)]) r
def Z9J x4 x6 x49 x50 zG zB zC b1 ox6 zH zE hox6 r (h : Z4C x4 x6 x49 x50 zG zB zC b1 = some r) := Z1j h ox6 zH zE hox6
def Z4D (x4 : Bool) (x65 : List Int) (x66 x67 : Int) (zG : List Zw) (zC : Int) : Option ((List Zw) × Int) := pick fun r => ∀ (zB : Bool) (ox65 : Own), RRun (Z15 zB) (Zk4 1 (.ptr 0 0) (bv x4) (ZP ox65 (x65.map (eI .i64))) (iv x66) (iv x67) [[(.p (.ml 6 (zG.map ZD))), (bv zB), (iv zC)]]) r
def Z9L x4 x65 x66 x67 zG zB zC ox65 r (h : Z4D x4 x65 x66 x67 zG zC = some r) := Z1j h zB ox65
def Z5Q (x1 : Zw) (zG : List Zw) (zB : Bool) (zC : Int) (b2 : Zk) : Option ((List Zw) × Int) := pick fun r => ∀ (zO z19 zZ : Own), RRun (Z3v zB b2 z19 zZ) (EE 41 [(.ptr 0 0), (pA_ (Z1m x1 zO)), (.clo 46 [] [(.ptr 1 0), (.ptr 2 0)])] [[(.p (.ml 6 (zG.map ZD))), (bv zB), (iv zC)], [(.ptr 0 0)], (Zl b2 z19 zZ)]) r
def ZgU x1 zG zB zC b2 zO z19 zZ r (h : Z5Q x1 zG zB zC b2 = some r) := Z1j h zO z19 zZ
def Z7x (b1 : Zk) (z2X : List Zw) (z1M : Bool) (z2h : Int) : Option ((List Zw) × Int) := pick fun r => ∀ (zH zE : Own), RRun (Z3u b1 z1M zH zE) (EE 46 [(.ptr 0 0), (.ptr 1 0)] [[(.ptr 2 0)], (Zl b1 zH zE), [(.p (.ml 6 (z2X.map ZD))), (bv z1M), (iv z2h)]]) r
def ZgO b1 z2X z1M z2h zH zE r (h : Z7x b1 z2X z1M z2h = some r) := Z1j h zH zE
def Z7y (x1 : Zw) (zG : List Zw) (zB : Bool) (zC : Int) (b2 : Zk) : Option ((List Zw) × Int) := pick fun r => ∀ (zO z19 zZ : Own), RRun (Z3v zB b2 z19 zZ) (EE 41 [(.ptr 0 0), (pA_ (Z1m x1 zO)), (.clo 45 [] [(.ptr 1 0), (.ptr 2 0)])] [[(.p (.ml 6 (zG.map ZD))), (bv zB), (iv zC)], [(.ptr 0 0)], (Zl b2 z19 zZ)]) r
def ZgW x1 zG zB zC b2 zO z19 zZ r (h : Z7y x1 zG zB zC b2 = some r) := Z1j h zO z19 zZ
def Z7w (b1 : Zk) (z2X : List Zw) (z1M : Bool) (z2h : Int) : Option ((List Zw) × Int) := pick fun r => ∀ (zH zE : Own), RRun (Z3u b1 z1M zH zE) (EE 45 [(.ptr 0 0), (.ptr 1 0)] [[(.ptr 2 0)], (Zl b1 zH zE), [(.p (.ml 6 (z2X.map ZD))), (bv z1M), (iv z2h)]]) r
def ZgM b1 z2X z1M z2h zH zE r (h : Z7w b1 z2X z1M z2h = some r) := Z1j h zH zE
def ZeT (x0 : List Zw) : Option Int := pick fun r => ∀ (ox0 : Own), RRun ZK (EE 13 [(ZP ox0 (x0.map ZD))] []) r
def Zqo x0 ox0 r (h : ZeT x0 = some r) := Z1j h ox0
def Za9 (x3 : Int) (x6 : List Zw) (x7 x8 : Int) : Option Int := pick fun r => ∀ (ox6 : Own), RRun ZK (Zmc 0 (iv x3) (ZP ox6 (x6.map ZD)) (iv x7) (iv x8) []) r
def ZgI x3 x6 x7 x8 ox6 r (h : Za9 x3 x6 x7 x8 = some r) := Z1j h ox6
def Z4M (x0 : List Z8) (x3 : ByteArray) (x29 : List Z8) (x30 x31 : Int) : Option Bool := pick fun r => ∀ (ox0 ox29 : Own), RRun ZQ (ZpT 0 (ZP ox0 (x0.map Zv)) (.p (.v (.string x3))) (ZP ox29 (x29.map Zv)) (iv x30) (iv x31) []) r
def Za8 x0 x3 x29 x30 x31 ox0 ox29 r (h : Z4M x0 x3 x29 x30 x31 = some r) := Z1j h ox0 ox29
def Z6u (x0 x1 : List Z8) : Option Bool := pick fun r => ∀ (ox0 ox1 : Own), RRun ZQ (EE 15 [(ZP ox0 (x0.map Zv)), (ZP ox1 (x1.map Zv))] []) r
def ZbQ x0 x1 ox0 ox1 r (h : Z6u x0 x1 = some r) := Z1j h ox0 ox1
def Z5s (x1 x12 : List Z8) (x13 x14 : Int) : Option Bool := pick fun r => ∀ (ox1 ox12 : Own), RRun ZQ (Zme 0 (ZP ox1 (x1.map Zv)) (ZP ox12 (x12.map Zv)) (iv x13) (iv x14) []) r
def ZaQ x1 x12 x13 x14 ox1 ox12 r (h : Z5s x1 x12 x13 x14 = some r) := Z1j h ox1 ox12
def Z8S (x0 : Int) : Option ByteArray := pick fun r => RRun Zav (EE 16 [(iv x0)] []) r
def ZeS x0 r (h : Z8S x0 = some r) := Z1j h
end Go.Proofs.YtocikhhkicahoaaDoor.N2
end
