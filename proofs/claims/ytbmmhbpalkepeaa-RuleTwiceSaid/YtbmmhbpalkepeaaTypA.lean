/- The functions, read typed: their types, and what they stand for. No condition. -/
import Derived.Test.YtbmmhbpalkepeaaSim
import Derived.Test.YtbmmhbpalkepeaaEqs

section
set_option linter.unusedSimpArgs false
set_option linter.unusedVariables false
namespace Go.Proofs.Ytbmmhbpalkepeaa.N2
open Go Go.Abs
set_option linter.unusedVariables false
set_option maxRecDepth 100000
structure Srule_Rule where
  ID : Int
  Priority : Int
  Action : Int
  Scope : Int
  Pattern : ByteArray
  deriving Inhabited
def c_Srule_Rule (a : Srule_Rule) : List PV := [(eI .i64) a.ID, (eI .i64) a.Priority, (eI .i64) a.Action, (eI .i64) a.Scope, eS a.Pattern]
def e_Srule_Rule (a : Srule_Rule) : PV := .agg (c_Srule_Rule a)
def k_Srule_Rule (a : Srule_Rule) : List PV := [(eI .i64) a.ID, (eI .i64) a.Priority, (eI .i64) a.Action, (eI .i64) a.Scope, eS a.Pattern]
def r_Srule_Rule (a : Srule_Rule) : Row := [.p ((eI .i64) a.ID), .p ((eI .i64) a.Priority), .p ((eI .i64) a.Action), .p ((eI .i64) a.Scope), .p (eS a.Pattern)]
theorem c_Srule_Rule_inj {a b : Srule_Rule} (h : c_Srule_Rule a = c_Srule_Rule b) : a = b := by
  have h0 : a.ID = b.ID := eI_inj _ _ (congrArg (fun l => l.getD 0 .junk) h)
  have h1 : a.Priority = b.Priority := eI_inj _ _ (congrArg (fun l => l.getD 1 .junk) h)
  have h2 : a.Action = b.Action := eI_inj _ _ (congrArg (fun l => l.getD 2 .junk) h)
  have h3 : a.Scope = b.Scope := eI_inj _ _ (congrArg (fun l => l.getD 3 .junk) h)
  have h4 : a.Pattern = b.Pattern := eS_inj _ _ (congrArg (fun l => l.getD 4 .junk) h)
  cases a; cases b
  cases h0
  cases h1
  cases h2
  cases h3
  cases h4
  rfl
theorem e_Srule_Rule_inj (a b : Srule_Rule) (h : e_Srule_Rule a = e_Srule_Rule b) : a = b := c_Srule_Rule_inj (congrArg pC h)
structure Srule_Set where
  Default : Int
  Closed : Int
  Fuel : Int
  Stack : Int
  Rules : (List Srule_Rule)
  deriving Inhabited
def c_Srule_Set (a : Srule_Set) : List PV := [(eI .i64) a.Default, (eI .i64) a.Closed, (eI .i64) a.Fuel, (eI .i64) a.Stack, (eL e_Srule_Rule) a.Rules]
def e_Srule_Set (a : Srule_Set) : PV := .agg (c_Srule_Set a)
def k_Srule_Set (a : Srule_Set) (o0 : Own) : List PV := [(eI .i64) a.Default, (eI .i64) a.Closed, (eI .i64) a.Fuel, (eI .i64) a.Stack, .lst o0 (a.Rules.map e_Srule_Rule)]
def r_Srule_Set (a : Srule_Set) (o0 : Own) : Row := [.p ((eI .i64) a.Default), .p ((eI .i64) a.Closed), .p ((eI .i64) a.Fuel), .p ((eI .i64) a.Stack), .p (.lst o0 (a.Rules.map e_Srule_Rule))]
theorem c_Srule_Set_inj {a b : Srule_Set} (h : c_Srule_Set a = c_Srule_Set b) : a = b := by
  have h0 : a.Default = b.Default := eI_inj _ _ (congrArg (fun l => l.getD 0 .junk) h)
  have h1 : a.Closed = b.Closed := eI_inj _ _ (congrArg (fun l => l.getD 1 .junk) h)
  have h2 : a.Fuel = b.Fuel := eI_inj _ _ (congrArg (fun l => l.getD 2 .junk) h)
  have h3 : a.Stack = b.Stack := eI_inj _ _ (congrArg (fun l => l.getD 3 .junk) h)
  have h4 : a.Rules = b.Rules := (eL_inj e_Srule_Rule_inj) _ _ (congrArg (fun l => l.getD 4 .junk) h)
  cases a; cases b
  cases h0
  cases h1
  cases h2
  cases h3
  cases h4
  rfl
theorem e_Srule_Set_inj (a b : Srule_Set) (h : e_Srule_Set a = e_Srule_Set b) : a = b := c_Srule_Set_inj (congrArg pC h)
structure Srule_Delta where
  Default : Int
  Closed : Int
  Fuel : Int
  Stack : Int
  Put : (List Srule_Rule)
  Drop : (List Int)
  deriving Inhabited
def c_Srule_Delta (a : Srule_Delta) : List PV := [(eI .i64) a.Default, (eI .i64) a.Closed, (eI .i64) a.Fuel, (eI .i64) a.Stack, (eL e_Srule_Rule) a.Put, (eL (eI .i64)) a.Drop]
def e_Srule_Delta (a : Srule_Delta) : PV := .agg (c_Srule_Delta a)
def k_Srule_Delta (a : Srule_Delta) (o0 o1 : Own) : List PV := [(eI .i64) a.Default, (eI .i64) a.Closed, (eI .i64) a.Fuel, (eI .i64) a.Stack, .lst o0 (a.Put.map e_Srule_Rule), .lst o1 (a.Drop.map (eI .i64))]
def r_Srule_Delta (a : Srule_Delta) (o0 o1 : Own) : Row := [.p ((eI .i64) a.Default), .p ((eI .i64) a.Closed), .p ((eI .i64) a.Fuel), .p ((eI .i64) a.Stack), .p (.lst o0 (a.Put.map e_Srule_Rule)), .p (.lst o1 (a.Drop.map (eI .i64)))]
theorem c_Srule_Delta_inj {a b : Srule_Delta} (h : c_Srule_Delta a = c_Srule_Delta b) : a = b := by
  have h0 : a.Default = b.Default := eI_inj _ _ (congrArg (fun l => l.getD 0 .junk) h)
  have h1 : a.Closed = b.Closed := eI_inj _ _ (congrArg (fun l => l.getD 1 .junk) h)
  have h2 : a.Fuel = b.Fuel := eI_inj _ _ (congrArg (fun l => l.getD 2 .junk) h)
  have h3 : a.Stack = b.Stack := eI_inj _ _ (congrArg (fun l => l.getD 3 .junk) h)
  have h4 : a.Put = b.Put := (eL_inj e_Srule_Rule_inj) _ _ (congrArg (fun l => l.getD 4 .junk) h)
  have h5 : a.Drop = b.Drop := (eL_inj eI_inj) _ _ (congrArg (fun l => l.getD 5 .junk) h)
  cases a; cases b
  cases h0
  cases h1
  cases h2
  cases h3
  cases h4
  cases h5
  rfl
theorem e_Srule_Delta_inj (a b : Srule_Delta) (h : e_Srule_Delta a = e_Srule_Delta b) : a = b := c_Srule_Delta_inj (congrArg pC h)
structure Scolanderref07_Set where
  Default : Int
  Closed : Int
  Fuel : Int
  Stack : Int
  Rules : (List Srule_Rule)
  deriving Inhabited
def c_Scolanderref07_Set (a : Scolanderref07_Set) : List PV := [(eI .i64) a.Default, (eI .i64) a.Closed, (eI .i64) a.Fuel, (eI .i64) a.Stack, (eL e_Srule_Rule) a.Rules]
def e_Scolanderref07_Set (a : Scolanderref07_Set) : PV := .agg (c_Scolanderref07_Set a)
def k_Scolanderref07_Set (a : Scolanderref07_Set) (o0 : Own) : List PV := [(eI .i64) a.Default, (eI .i64) a.Closed, (eI .i64) a.Fuel, (eI .i64) a.Stack, .lst o0 (a.Rules.map e_Srule_Rule)]
def r_Scolanderref07_Set (a : Scolanderref07_Set) (o0 : Own) : Row := [.p ((eI .i64) a.Default), .p ((eI .i64) a.Closed), .p ((eI .i64) a.Fuel), .p ((eI .i64) a.Stack), .p (.lst o0 (a.Rules.map e_Srule_Rule))]
theorem c_Scolanderref07_Set_inj {a b : Scolanderref07_Set} (h : c_Scolanderref07_Set a = c_Scolanderref07_Set b) : a = b := by
  have h0 : a.Default = b.Default := eI_inj _ _ (congrArg (fun l => l.getD 0 .junk) h)
  have h1 : a.Closed = b.Closed := eI_inj _ _ (congrArg (fun l => l.getD 1 .junk) h)
  have h2 : a.Fuel = b.Fuel := eI_inj _ _ (congrArg (fun l => l.getD 2 .junk) h)
  have h3 : a.Stack = b.Stack := eI_inj _ _ (congrArg (fun l => l.getD 3 .junk) h)
  have h4 : a.Rules = b.Rules := (eL_inj e_Srule_Rule_inj) _ _ (congrArg (fun l => l.getD 4 .junk) h)
  cases a; cases b
  cases h0
  cases h1
  cases h2
  cases h3
  cases h4
  rfl
theorem e_Scolanderref07_Set_inj (a b : Scolanderref07_Set) (h : e_Scolanderref07_Set a = e_Scolanderref07_Set b) : a = b := c_Scolanderref07_Set_inj (congrArg pC h)
structure Scolanderref07_Delta where
  Default : Int
  Closed : Int
  Fuel : Int
  Stack : Int
  Put : (List Srule_Rule)
  Drop : (List Int)
  deriving Inhabited
def c_Scolanderref07_Delta (a : Scolanderref07_Delta) : List PV := [(eI .i64) a.Default, (eI .i64) a.Closed, (eI .i64) a.Fuel, (eI .i64) a.Stack, (eL e_Srule_Rule) a.Put, (eL (eI .i64)) a.Drop]
def e_Scolanderref07_Delta (a : Scolanderref07_Delta) : PV := .agg (c_Scolanderref07_Delta a)
def k_Scolanderref07_Delta (a : Scolanderref07_Delta) (o0 o1 : Own) : List PV := [(eI .i64) a.Default, (eI .i64) a.Closed, (eI .i64) a.Fuel, (eI .i64) a.Stack, .lst o0 (a.Put.map e_Srule_Rule), .lst o1 (a.Drop.map (eI .i64))]
def r_Scolanderref07_Delta (a : Scolanderref07_Delta) (o0 o1 : Own) : Row := [.p ((eI .i64) a.Default), .p ((eI .i64) a.Closed), .p ((eI .i64) a.Fuel), .p ((eI .i64) a.Stack), .p (.lst o0 (a.Put.map e_Srule_Rule)), .p (.lst o1 (a.Drop.map (eI .i64)))]
theorem c_Scolanderref07_Delta_inj {a b : Scolanderref07_Delta} (h : c_Scolanderref07_Delta a = c_Scolanderref07_Delta b) : a = b := by
  have h0 : a.Default = b.Default := eI_inj _ _ (congrArg (fun l => l.getD 0 .junk) h)
  have h1 : a.Closed = b.Closed := eI_inj _ _ (congrArg (fun l => l.getD 1 .junk) h)
  have h2 : a.Fuel = b.Fuel := eI_inj _ _ (congrArg (fun l => l.getD 2 .junk) h)
  have h3 : a.Stack = b.Stack := eI_inj _ _ (congrArg (fun l => l.getD 3 .junk) h)
  have h4 : a.Put = b.Put := (eL_inj e_Srule_Rule_inj) _ _ (congrArg (fun l => l.getD 4 .junk) h)
  have h5 : a.Drop = b.Drop := (eL_inj eI_inj) _ _ (congrArg (fun l => l.getD 5 .junk) h)
  cases a; cases b
  cases h0
  cases h1
  cases h2
  cases h3
  cases h4
  cases h5
  rfl
theorem e_Scolanderref07_Delta_inj (a b : Scolanderref07_Delta) (h : e_Scolanderref07_Delta a = e_Scolanderref07_Delta b) : a = b := c_Scolanderref07_Delta_inj (congrArg pC h)
structure S38 where
  c0 : Int
  c1 : Int
  deriving Inhabited
def c_S38 (a : S38) : List PV := [(eI .i64) a.c0, (eI .i64) a.c1]
def e_S38 (a : S38) : PV := .agg (c_S38 a)
def k_S38 (a : S38) : List PV := [(eI .i64) a.c0, (eI .i64) a.c1]
def r_S38 (a : S38) : Row := [.p ((eI .i64) a.c0), .p ((eI .i64) a.c1)]
theorem c_S38_inj {a b : S38} (h : c_S38 a = c_S38 b) : a = b := by
  have h0 : a.c0 = b.c0 := eI_inj _ _ (congrArg (fun l => l.getD 0 .junk) h)
  have h1 : a.c1 = b.c1 := eI_inj _ _ (congrArg (fun l => l.getD 1 .junk) h)
  cases a; cases b
  cases h0
  cases h1
  rfl
theorem e_S38_inj (a b : S38) (h : e_S38 a = e_S38 b) : a = b := c_S38_inj (congrArg pC h)
structure S39 where
  c0 : S38
  c1 : S38
  c2 : S38
  c3 : S38
  deriving Inhabited
def c_S39 (a : S39) : List PV := [(eI .i64) a.c0.c0, (eI .i64) a.c0.c1, (eI .i64) a.c1.c0, (eI .i64) a.c1.c1, (eI .i64) a.c2.c0, (eI .i64) a.c2.c1, (eI .i64) a.c3.c0, (eI .i64) a.c3.c1]
def e_S39 (a : S39) : PV := .agg (c_S39 a)
def k_S39 (a : S39) : List PV := [(eI .i64) a.c0.c0, (eI .i64) a.c0.c1, (eI .i64) a.c1.c0, (eI .i64) a.c1.c1, (eI .i64) a.c2.c0, (eI .i64) a.c2.c1, (eI .i64) a.c3.c0, (eI .i64) a.c3.c1]
def r_S39 (a : S39) : Row := [.p ((eI .i64) a.c0.c0), .p ((eI .i64) a.c0.c1), .p ((eI .i64) a.c1.c0), .p ((eI .i64) a.c1.c1), .p ((eI .i64) a.c2.c0), .p ((eI .i64) a.c2.c1), .p ((eI .i64) a.c3.c0), .p ((eI .i64) a.c3.c1)]
theorem c_S39_inj {a b : S39} (h : c_S39 a = c_S39 b) : a = b := by
  have h0 : a.c0 = b.c0 := c_S38_inj (congrArg (fun l => (l.drop 0).take 2) h)
  have h1 : a.c1 = b.c1 := c_S38_inj (congrArg (fun l => (l.drop 2).take 2) h)
  have h2 : a.c2 = b.c2 := c_S38_inj (congrArg (fun l => (l.drop 4).take 2) h)
  have h3 : a.c3 = b.c3 := c_S38_inj (congrArg (fun l => (l.drop 6).take 2) h)
  cases a; cases b
  cases h0
  cases h1
  cases h2
  cases h3
  rfl
theorem e_S39_inj (a b : S39) (h : e_S39 a = e_S39 b) : a = b := c_S39_inj (congrArg pC h)
end Go.Proofs.Ytbmmhbpalkepeaa.N2
end

section
set_option linter.unusedSimpArgs false
set_option linter.unusedVariables false
namespace Go.Proofs.Ytbmmhbpalkepeaa.N2
open Go Go.Abs
set_option linter.unusedVariables false
set_option maxRecDepth 100000
/-! "colander/rule.First": g25 -/
abbrev Q25  : (Srule_Set) → Res → Prop := fun r q => ∃ (ex : List Row), q = ((.p (.agg (k_Srule_Set r .sh))), ex)
theorem Q25_u  : ∀ a b q, Q25  a q → Q25  b q → a = b := by
  rintro a b q ⟨_, e1⟩ ⟨_, e2⟩
  have e := e1.symm.trans e2
  exact c_Srule_Set_inj (congrArg (fun q : Res => pC (pA q.1)) e)
/-! "(colander/rule.Set).numbered": g27 -/
abbrev Q27  : (Bool) → Res → Prop := fun r q => ∃ (ex : List Row), q = ((bv r), ex)
theorem Q27_u  : ∀ a b q, Q27  a q → Q27  b q → a = b := by
  rintro a b q ⟨_, e1⟩ ⟨_, e2⟩
  have e := e1.symm.trans e2
  exact congrArg (fun q : Res => pB (pA q.1)) e
/-! "(colander/rule.Rule).Right": g21 -/
abbrev Q21  : (Bool) → Res → Prop := fun r q => ∃ (ex : List Row), q = ((bv r), ex)
theorem Q21_u  : ∀ a b q, Q21  a q → Q21  b q → a = b := by
  rintro a b q ⟨_, e1⟩ ⟨_, e2⟩
  have e := e1.symm.trans e2
  exact congrArg (fun q : Res => pB (pA q.1)) e
/-! "(colander/rule.Set).Right": g16 -/
abbrev Q16  : (Bool) → Res → Prop := fun r q => ∃ (ex : List Row), q = ((bv r), ex)
theorem Q16_u  : ∀ a b q, Q16  a q → Q16  b q → a = b := by
  rintro a b q ⟨_, e1⟩ ⟨_, e2⟩
  have e := e1.symm.trans e2
  exact congrArg (fun q : Res => pB (pA q.1)) e
/-! "colander/rule.change": g26 -/
abbrev Q26 (b0_Closed : Int) (b0_Fuel : Int) (b0_Stack : Int) (b0_Rules : List Srule_Rule) (ob0_Rules : Own) : (Int) → Res → Prop := fun r q => ∃ (ex : List Row), q = ((.p (.tup [])), [(r_Srule_Set (Srule_Set.mk r b0_Closed b0_Fuel b0_Stack b0_Rules) ob0_Rules)] ++ ex)
theorem Q26_u (b0_Closed : Int) (b0_Fuel : Int) (b0_Stack : Int) (b0_Rules : List Srule_Rule) (ob0_Rules : Own) : ∀ a b q, Q26 b0_Closed b0_Fuel b0_Stack b0_Rules ob0_Rules a q → Q26 b0_Closed b0_Fuel b0_Stack b0_Rules ob0_Rules b q → a = b := by
  rintro a b q ⟨_, e1⟩ ⟨_, e2⟩
  have e := e1.symm.trans e2
  exact congrArg (fun q : Res => pI (pA (cellAt q 0 0))) e
/-! "colander/rule.change": g26v1 -/
abbrev Q26v1 (b0_Default : Int) (b0_Fuel : Int) (b0_Stack : Int) (b0_Rules : List Srule_Rule) (ob0_Rules : Own) : (Int) → Res → Prop := fun r q => ∃ (ex : List Row), q = ((.p (.tup [])), [(r_Srule_Set (Srule_Set.mk b0_Default r b0_Fuel b0_Stack b0_Rules) ob0_Rules)] ++ ex)
theorem Q26v1_u (b0_Default : Int) (b0_Fuel : Int) (b0_Stack : Int) (b0_Rules : List Srule_Rule) (ob0_Rules : Own) : ∀ a b q, Q26v1 b0_Default b0_Fuel b0_Stack b0_Rules ob0_Rules a q → Q26v1 b0_Default b0_Fuel b0_Stack b0_Rules ob0_Rules b q → a = b := by
  rintro a b q ⟨_, e1⟩ ⟨_, e2⟩
  have e := e1.symm.trans e2
  exact congrArg (fun q : Res => pI (pA (cellAt q 0 1))) e
/-! "colander/rule.change": g26v2 -/
abbrev Q26v2 (b0_Default : Int) (b0_Closed : Int) (b0_Stack : Int) (b0_Rules : List Srule_Rule) (ob0_Rules : Own) : (Int) → Res → Prop := fun r q => ∃ (ex : List Row), q = ((.p (.tup [])), [(r_Srule_Set (Srule_Set.mk b0_Default b0_Closed r b0_Stack b0_Rules) ob0_Rules)] ++ ex)
theorem Q26v2_u (b0_Default : Int) (b0_Closed : Int) (b0_Stack : Int) (b0_Rules : List Srule_Rule) (ob0_Rules : Own) : ∀ a b q, Q26v2 b0_Default b0_Closed b0_Stack b0_Rules ob0_Rules a q → Q26v2 b0_Default b0_Closed b0_Stack b0_Rules ob0_Rules b q → a = b := by
  rintro a b q ⟨_, e1⟩ ⟨_, e2⟩
  have e := e1.symm.trans e2
  exact congrArg (fun q : Res => pI (pA (cellAt q 0 2))) e
/-! "colander/rule.change": g26v3 -/
abbrev Q26v3 (b0_Default : Int) (b0_Closed : Int) (b0_Fuel : Int) (b0_Rules : List Srule_Rule) (ob0_Rules : Own) : (Int) → Res → Prop := fun r q => ∃ (ex : List Row), q = ((.p (.tup [])), [(r_Srule_Set (Srule_Set.mk b0_Default b0_Closed b0_Fuel r b0_Rules) ob0_Rules)] ++ ex)
theorem Q26v3_u (b0_Default : Int) (b0_Closed : Int) (b0_Fuel : Int) (b0_Rules : List Srule_Rule) (ob0_Rules : Own) : ∀ a b q, Q26v3 b0_Default b0_Closed b0_Fuel b0_Rules ob0_Rules a q → Q26v3 b0_Default b0_Closed b0_Fuel b0_Rules ob0_Rules b q → a = b := by
  rintro a b q ⟨_, e1⟩ ⟨_, e2⟩
  have e := e1.symm.trans e2
  exact congrArg (fun q : Res => pI (pA (cellAt q 0 3))) e
/-! "colander/rule.all[colander/rule.Rule]$1": g43 -/
abbrev Q43  : (Bool) → Res → Prop := fun r q => ∃ (ex : List Row), q = ((bv r), [[(.clo 21 [] [])]] ++ ex)
theorem Q43_u  : ∀ a b q, Q43  a q → Q43  b q → a = b := by
  rintro a b q ⟨_, e1⟩ ⟨_, e2⟩
  have e := e1.symm.trans e2
  exact congrArg (fun q : Res => pB (pA q.1)) e
/-! "slices.IndexFunc[[]colander/rule.Rule,colander/rule.Rule]": g52 -/
abbrev Q52  : (Int) → Res → Prop := fun r q => ∃ (ex : List Row), q = ((iv r), [[(.clo 21 [] [])]] ++ ex)
theorem Q52_u  : ∀ a b q, Q52  a q → Q52  b q → a = b := by
  rintro a b q ⟨_, e1⟩ ⟨_, e2⟩
  have e := e1.symm.trans e2
  exact congrArg (fun q : Res => pI (pA q.1)) e
/-! "slices.ContainsFunc[[]colander/rule.Rule,colander/rule.Rule]": g42 -/
abbrev Q42  : (Bool) → Res → Prop := fun r q => ∃ (ex : List Row), q = ((bv r), [[(.clo 21 [] [])]] ++ ex)
theorem Q42_u  : ∀ a b q, Q42  a q → Q42  b q → a = b := by
  rintro a b q ⟨_, e1⟩ ⟨_, e2⟩
  have e := e1.symm.trans e2
  exact congrArg (fun q : Res => pB (pA q.1)) e
/-! "colander/rule.all[colander/rule.Rule]": g28 -/
abbrev Q28  : (Bool) → Res → Prop := fun r q => ∃ (ex : List Row), q = ((bv r), ex)
theorem Q28_u  : ∀ a b q, Q28  a q → Q28  b q → a = b := by
  rintro a b q ⟨_, e1⟩ ⟨_, e2⟩
  have e := e1.symm.trans e2
  exact congrArg (fun q : Res => pB (pA q.1)) e
/-! "(colander/rule.Delta).twice$1": g44 -/
abbrev Q44  : (Bool × (List (Int × Bool))) → Res → Prop := fun r q => ∃ (ex : List Row), q = ((bv r.1), [[(.mp 1)], [(.md ((r.2).map (encM eB)))]] ++ ex)
theorem Q44_u  : ∀ a b q, Q44  a q → Q44  b q → a = b := by
  rintro a b q ⟨_, e1⟩ ⟨_, e2⟩
  have e := e1.symm.trans e2
  exact Prod.ext (congrArg (fun q : Res => pB (pA q.1)) e) (lmap_inj (encM_inj eB_inj) (congrArg (fun q : Res => pM (cellAt q 1 0)) e))
/-! "(colander/rule.Delta).twice$2": g45 -/
abbrev Q45  : (Bool × (List (Int × Bool))) → Res → Prop := fun r q => ∃ (ex : List Row), q = ((bv r.1), [[(.clo 44 [] [(.ptr 1 0)])], [(.mp 2)], [(.md ((r.2).map (encM eB)))]] ++ ex)
theorem Q45_u  : ∀ a b q, Q45  a q → Q45  b q → a = b := by
  rintro a b q ⟨_, e1⟩ ⟨_, e2⟩
  have e := e1.symm.trans e2
  exact Prod.ext (congrArg (fun q : Res => pB (pA q.1)) e) (lmap_inj (encM_inj eB_inj) (congrArg (fun q : Res => pM (cellAt q 2 0)) e))
/-! "slices.IndexFunc[[]colander/rule.Rule,colander/rule.Rule]": g52v1 -/
abbrev Q52v1  : (Int × (List (Int × Bool))) → Res → Prop := fun r q => ∃ (ex : List Row), q = ((iv r.1), [[(.clo 44 [] [(.ptr 1 0)])], [(.mp 2)], [(.md ((r.2).map (encM eB)))]] ++ ex)
theorem Q52v1_u  : ∀ a b q, Q52v1  a q → Q52v1  b q → a = b := by
  rintro a b q ⟨_, e1⟩ ⟨_, e2⟩
  have e := e1.symm.trans e2
  exact Prod.ext (congrArg (fun q : Res => pI (pA q.1)) e) (lmap_inj (encM_inj eB_inj) (congrArg (fun q : Res => pM (cellAt q 2 0)) e))
/-! "slices.ContainsFunc[[]colander/rule.Rule,colander/rule.Rule]": g42v1 -/
abbrev Q42v1  : (Bool × (List (Int × Bool))) → Res → Prop := fun r q => ∃ (ex : List Row), q = ((bv r.1), [[(.clo 44 [] [(.ptr 1 0)])], [(.mp 2)], [(.md ((r.2).map (encM eB)))]] ++ ex)
theorem Q42v1_u  : ∀ a b q, Q42v1  a q → Q42v1  b q → a = b := by
  rintro a b q ⟨_, e1⟩ ⟨_, e2⟩
  have e := e1.symm.trans e2
  exact Prod.ext (congrArg (fun q : Res => pB (pA q.1)) e) (lmap_inj (encM_inj eB_inj) (congrArg (fun q : Res => pM (cellAt q 2 0)) e))
/-! "slices.IndexFunc[[]int,int]": g53 -/
abbrev Q53  : (Int × (List (Int × Bool))) → Res → Prop := fun r q => ∃ (ex : List Row), q = ((iv r.1), [[(.mp 1)], [(.md ((r.2).map (encM eB)))]] ++ ex)
theorem Q53_u  : ∀ a b q, Q53  a q → Q53  b q → a = b := by
  rintro a b q ⟨_, e1⟩ ⟨_, e2⟩
  have e := e1.symm.trans e2
  exact Prod.ext (congrArg (fun q : Res => pI (pA q.1)) e) (lmap_inj (encM_inj eB_inj) (congrArg (fun q : Res => pM (cellAt q 1 0)) e))
/-! "slices.ContainsFunc[[]int,int]": g46 -/
abbrev Q46  : (Bool × (List (Int × Bool))) → Res → Prop := fun r q => ∃ (ex : List Row), q = ((bv r.1), [[(.mp 1)], [(.md ((r.2).map (encM eB)))]] ++ ex)
theorem Q46_u  : ∀ a b q, Q46  a q → Q46  b q → a = b := by
  rintro a b q ⟨_, e1⟩ ⟨_, e2⟩
  have e := e1.symm.trans e2
  exact Prod.ext (congrArg (fun q : Res => pB (pA q.1)) e) (lmap_inj (encM_inj eB_inj) (congrArg (fun q : Res => pM (cellAt q 1 0)) e))
/-! "(colander/rule.Delta).twice": g29 -/
abbrev Q29  : (Bool) → Res → Prop := fun r q => ∃ (ex : List Row), q = ((bv r), ex)
theorem Q29_u  : ∀ a b q, Q29  a q → Q29  b q → a = b := by
  rintro a b q ⟨_, e1⟩ ⟨_, e2⟩
  have e := e1.symm.trans e2
  exact congrArg (fun q : Res => pB (pA q.1)) e
/-! "maps.Keys[map[int]colander/rule.Rule,int,colander/rule.Rule]": g31 -/
abbrev Q31 (b0_0 : List (Int × Srule_Rule)) : (Unit) → Res → Prop := fun r q => ∃ (ex : List Row), q = ((.clo 49 [] [(.ptr 1 0)]), [[(.md ((b0_0).map (encM e_Srule_Rule)))], [(.mp 0)]]) ∧ ex = []
theorem Q31_u (b0_0 : List (Int × Srule_Rule)) : ∀ a b q, Q31 b0_0 a q → Q31 b0_0 b q → a = b := by
  rintro a b q ⟨_, e1, _⟩ ⟨_, e2, _⟩
  have e := e1.symm.trans e2
  exact rfl
/-! "slices.Sorted[int]": g30 -/
abbrev Q30 (b1_0 : List (Int × Srule_Rule)) : ((List Int)) → Res → Prop := fun r q => ∃ (ex : List Row), q = ((.p (.lst .sh (r.map (eI .i64)))), [[(.mp 1)], [(.md ((b1_0).map (encM e_Srule_Rule)))]] ++ ex)
theorem Q30_u (b1_0 : List (Int × Srule_Rule)) : ∀ a b q, Q30 b1_0 a q → Q30 b1_0 b q → a = b := by
  rintro a b q ⟨_, e1⟩ ⟨_, e2⟩
  have e := e1.symm.trans e2
  exact lmap_inj eI_inj (congrArg (fun q : Res => pL (pA q.1)) e)
/-! "colander/rule.Apply": g12 -/
abbrev Q12  : (Srule_Set × Int) → Res → Prop := fun r q => ∃ (ex : List Row), q = ((.p (.tup [(.agg (k_Srule_Set r.1 .sh)), (.v (.int .i64 r.2))])), ex)
theorem Q12_u  : ∀ a b q, Q12  a q → Q12  b q → a = b := by
  rintro a b q ⟨_, e1⟩ ⟨_, e2⟩
  have e := e1.symm.trans e2
  exact Prod.ext (c_Srule_Set_inj (congrArg (fun q : Res => pC ((pT (pA q.1)).getD 0 .junk)) e)) (congrArg (fun q : Res => pI ((pT (pA q.1)).getD 1 .junk)) e)
/-! "colander/colanderlaw07.anchor": g10 -/
abbrev Q10  : (Bool) → Res → Prop := fun r q => ∃ (ex : List Row), q = ((bv r), ex)
theorem Q10_u  : ∀ a b q, Q10  a q → Q10  b q → a = b := by
  rintro a b q ⟨_, e1⟩ ⟨_, e2⟩
  have e := e1.symm.trans e2
  exact congrArg (fun q : Res => pB (pA q.1)) e
/-! "colander/colandermade.Set": g14 -/
abbrev Q14  : (Scolanderref07_Set) → Res → Prop := fun r q => ∃ (ex : List Row), q = ((.p (.agg (k_Scolanderref07_Set r .sh))), ex)
theorem Q14_u  : ∀ a b q, Q14  a q → Q14  b q → a = b := by
  rintro a b q ⟨_, e1⟩ ⟨_, e2⟩
  have e := e1.symm.trans e2
  exact c_Scolanderref07_Set_inj (congrArg (fun q : Res => pC (pA q.1)) e)
/-! "colander/colanderref07.Same": g13 -/
abbrev Q13  : (Bool) → Res → Prop := fun r q => ∃ (ex : List Row), q = ((bv r), ex)
theorem Q13_u  : ∀ a b q, Q13  a q → Q13  b q → a = b := by
  rintro a b q ⟨_, e1⟩ ⟨_, e2⟩
  have e := e1.symm.trans e2
  exact congrArg (fun q : Res => pB (pA q.1)) e
/-! "colander/colanderlaw07.RuleKeeps": g5 -/
abbrev Q5  : (Bool) → Res → Prop := fun r q => ∃ (ex : List Row), q = ((bv r), ex)
theorem Q5_u  : ∀ a b q, Q5  a q → Q5  b q → a = b := by
  rintro a b q ⟨_, e1⟩ ⟨_, e2⟩
  have e := e1.symm.trans e2
  exact congrArg (fun q : Res => pB (pA q.1)) e
/-! "colander/colanderlaw07.small": g11 -/
abbrev Q11  : (Bool) → Res → Prop := fun r q => ∃ (ex : List Row), q = ((bv r), ex)
theorem Q11_u  : ∀ a b q, Q11  a q → Q11  b q → a = b := by
  rintro a b q ⟨_, e1⟩ ⟨_, e2⟩
  have e := e1.symm.trans e2
  exact congrArg (fun q : Res => pB (pA q.1)) e
/-! "colander/colandermade.Delta": g18 -/
abbrev Q18  : (Scolanderref07_Delta) → Res → Prop := fun r q => ∃ (ex : List Row), q = ((.p (.agg (k_Scolanderref07_Delta r .sh .sh))), ex)
theorem Q18_u  : ∀ a b q, Q18  a q → Q18  b q → a = b := by
  rintro a b q ⟨_, e1⟩ ⟨_, e2⟩
  have e := e1.symm.trans e2
  exact c_Scolanderref07_Delta_inj (congrArg (fun q : Res => pC (pA q.1)) e)
/-! "(colander/colanderref07.Set).Numbered": g33 -/
abbrev Q33  : (Bool) → Res → Prop := fun r q => ∃ (ex : List Row), q = ((bv r), ex)
theorem Q33_u  : ∀ a b q, Q33  a q → Q33  b q → a = b := by
  rintro a b q ⟨_, e1⟩ ⟨_, e2⟩
  have e := e1.symm.trans e2
  exact congrArg (fun q : Res => pB (pA q.1)) e
/-! "(colander/colanderref07.Rule).Right": g34 -/
abbrev Q34  : (Bool) → Res → Prop := fun r q => ∃ (ex : List Row), q = ((bv r), ex)
theorem Q34_u  : ∀ a b q, Q34  a q → Q34  b q → a = b := by
  rintro a b q ⟨_, e1⟩ ⟨_, e2⟩
  have e := e1.symm.trans e2
  exact congrArg (fun q : Res => pB (pA q.1)) e
/-! "(colander/colanderref07.Set).Right": g19 -/
abbrev Q19  : (Bool) → Res → Prop := fun r q => ∃ (ex : List Row), q = ((bv r), ex)
theorem Q19_u  : ∀ a b q, Q19  a q → Q19  b q → a = b := by
  rintro a b q ⟨_, e1⟩ ⟨_, e2⟩
  have e := e1.symm.trans e2
  exact congrArg (fun q : Res => pB (pA q.1)) e
/-! "colander/colanderref07.or": g32 -/
abbrev Q32  : (Int) → Res → Prop := fun r q => ∃ (ex : List Row), q = ((iv r), ex)
theorem Q32_u  : ∀ a b q, Q32  a q → Q32  b q → a = b := by
  rintro a b q ⟨_, e1⟩ ⟨_, e2⟩
  have e := e1.symm.trans e2
  exact congrArg (fun q : Res => pI (pA q.1)) e
/-! "colander/colanderref07.twice": g35 -/
abbrev Q35  : (Bool) → Res → Prop := fun r q => ∃ (ex : List Row), q = ((bv r), ex)
theorem Q35_u  : ∀ a b q, Q35  a q → Q35  b q → a = b := by
  rintro a b q ⟨_, e1⟩ ⟨_, e2⟩
  have e := e1.symm.trans e2
  exact congrArg (fun q : Res => pB (pA q.1)) e
/-! "colander/colanderref07.find": g36 -/
abbrev Q36  : (Int) → Res → Prop := fun r q => ∃ (ex : List Row), q = ((iv r), ex)
theorem Q36_u  : ∀ a b q, Q36  a q → Q36  b q → a = b := by
  rintro a b q ⟨_, e1⟩ ⟨_, e2⟩
  have e := e1.symm.trans e2
  exact congrArg (fun q : Res => pI (pA q.1)) e
/-! "colander/colanderref07.put": g37 -/
abbrev Q37  : ((List Srule_Rule)) → Res → Prop := fun r q => ∃ (ex : List Row), q = ((.p (.lst .sh (r.map e_Srule_Rule))), ex)
theorem Q37_u  : ∀ a b q, Q37  a q → Q37  b q → a = b := by
  rintro a b q ⟨_, e1⟩ ⟨_, e2⟩
  have e := e1.symm.trans e2
  exact lmap_inj e_Srule_Rule_inj (congrArg (fun q : Res => pL (pA q.1)) e)
/-! "colander/colanderref07.Apply": g17 -/
abbrev Q17  : (Scolanderref07_Set × Int) → Res → Prop := fun r q => ∃ (ex : List Row), q = ((.p (.tup [(.agg (k_Scolanderref07_Set r.1 .sh)), (.v (.int .i64 r.2))])), ex)
theorem Q17_u  : ∀ a b q, Q17  a q → Q17  b q → a = b := by
  rintro a b q ⟨_, e1⟩ ⟨_, e2⟩
  have e := e1.symm.trans e2
  exact Prod.ext (c_Scolanderref07_Set_inj (congrArg (fun q : Res => pC ((pT (pA q.1)).getD 0 .junk)) e)) (congrArg (fun q : Res => pI ((pT (pA q.1)).getD 1 .junk)) e)
/-! "(colander/rule.Set).Rule": g20 -/
abbrev Q20  : (Srule_Rule × Bool) → Res → Prop := fun r q => ∃ (ex : List Row), q = ((.p (.tup [(.agg (k_Srule_Rule r.1)), (.v (.bool r.2))])), ex)
theorem Q20_u  : ∀ a b q, Q20  a q → Q20  b q → a = b := by
  rintro a b q ⟨_, e1⟩ ⟨_, e2⟩
  have e := e1.symm.trans e2
  exact Prod.ext (c_Srule_Rule_inj (congrArg (fun q : Res => pC ((pT (pA q.1)).getD 0 .junk)) e)) (congrArg (fun q : Res => pB ((pT (pA q.1)).getD 1 .junk)) e)
/-! "colander/colanderlaw07.RuleApplies": g6 -/
abbrev Q6  : (Bool) → Res → Prop := fun r q => ∃ (ex : List Row), q = ((bv r), ex)
theorem Q6_u  : ∀ a b q, Q6  a q → Q6  b q → a = b := by
  rintro a b q ⟨_, e1⟩ ⟨_, e2⟩
  have e := e1.symm.trans e2
  exact congrArg (fun q : Res => pB (pA q.1)) e
/-! "colander/colanderlaw07.RuleDrops": g7 -/
abbrev Q7  : (Bool) → Res → Prop := fun r q => ∃ (ex : List Row), q = ((bv r), ex)
theorem Q7_u  : ∀ a b q, Q7  a q → Q7  b q → a = b := by
  rintro a b q ⟨_, e1⟩ ⟨_, e2⟩
  have e := e1.symm.trans e2
  exact congrArg (fun q : Res => pB (pA q.1)) e
/-! "colander/rule.unlike": g38 -/
abbrev Q38  : (Int) → Res → Prop := fun r q => ∃ (ex : List Row), q = ((iv r), ex)
theorem Q38_u  : ∀ a b q, Q38  a q → Q38  b q → a = b := by
  rintro a b q ⟨_, e1⟩ ⟨_, e2⟩
  have e := e1.symm.trans e2
  exact congrArg (fun q : Res => pI (pA q.1)) e
/-! "colander/rule.Diff": g22 -/
abbrev Q22  : (Srule_Delta × Int) → Res → Prop := fun r q => ∃ (ex : List Row), q = ((.p (.tup [(.agg (k_Srule_Delta r.1 .sh .sh)), (.v (.int .i64 r.2))])), ex)
theorem Q22_u  : ∀ a b q, Q22  a q → Q22  b q → a = b := by
  rintro a b q ⟨_, e1⟩ ⟨_, e2⟩
  have e := e1.symm.trans e2
  exact Prod.ext (c_Srule_Delta_inj (congrArg (fun q : Res => pC ((pT (pA q.1)).getD 0 .junk)) e)) (congrArg (fun q : Res => pI ((pT (pA q.1)).getD 1 .junk)) e)
/-! "colander/colanderlaw07.RuleDiffs": g8 -/
abbrev Q8  : (Bool) → Res → Prop := fun r q => ∃ (ex : List Row), q = ((bv r), ex)
theorem Q8_u  : ∀ a b q, Q8  a q → Q8  b q → a = b := by
  rintro a b q ⟨_, e1⟩ ⟨_, e2⟩
  have e := e1.symm.trans e2
  exact congrArg (fun q : Res => pB (pA q.1)) e
/-! "slices.SortStableFunc[[]int,int]": g39 -/
abbrev Q39 (b0 : Srule_Set) (ob0_Rules : Own) : (Unit) → Res → Prop := fun r q => ∃ (ex : List Row), q = ((.p (.tup [])), [(r_Srule_Set b0 ob0_Rules)] ++ ex)
theorem Q39_u (b0 : Srule_Set) (ob0_Rules : Own) : ∀ a b q, Q39 b0 ob0_Rules a q → Q39 b0 ob0_Rules b q → a = b := by
  rintro a b q ⟨_, e1⟩ ⟨_, e2⟩
  have e := e1.symm.trans e2
  exact rfl
/-! "(colander/rule.Set).Order": g23 -/
abbrev Q23  : ((List Int)) → Res → Prop := fun r q => ∃ (ex : List Row), q = ((.p (.lst .sh (r.map (eI .i64)))), ex)
theorem Q23_u  : ∀ a b q, Q23  a q → Q23  b q → a = b := by
  rintro a b q ⟨_, e1⟩ ⟨_, e2⟩
  have e := e1.symm.trans e2
  exact lmap_inj eI_inj (congrArg (fun q : Res => pL (pA q.1)) e)
/-! "(colander/colanderref07.Set).Order": g24 -/
abbrev Q24  : ((List Int)) → Res → Prop := fun r q => ∃ (ex : List Row), q = ((.p (.lst .sh (r.map (eI .i64)))), ex)
theorem Q24_u  : ∀ a b q, Q24  a q → Q24  b q → a = b := by
  rintro a b q ⟨_, e1⟩ ⟨_, e2⟩
  have e := e1.symm.trans e2
  exact lmap_inj eI_inj (congrArg (fun q : Res => pL (pA q.1)) e)
/-! "colander/colanderlaw07.RuleOrders": g9 -/
abbrev Q9  : (Bool) → Res → Prop := fun r q => ∃ (ex : List Row), q = ((bv r), ex)
theorem Q9_u  : ∀ a b q, Q9  a q → Q9  b q → a = b := by
  rintro a b q ⟨_, e1⟩ ⟨_, e2⟩
  have e := e1.symm.trans e2
  exact congrArg (fun q : Res => pB (pA q.1)) e
/-! "colander/colanderlaw07.ids": g15 -/
abbrev Q15  : ((List Int)) → Res → Prop := fun r q => ∃ (ex : List Row), q = ((.p (.lst .sh (r.map (eI .i64)))), ex)
theorem Q15_u  : ∀ a b q, Q15  a q → Q15  b q → a = b := by
  rintro a b q ⟨_, e1⟩ ⟨_, e2⟩
  have e := e1.symm.trans e2
  exact lmap_inj eI_inj (congrArg (fun q : Res => pL (pA q.1)) e)
/-! "colander/colanderlaw07.RuleTwice": g3 -/
abbrev Q3  : (Bool) → Res → Prop := fun r q => ∃ (ex : List Row), q = ((bv r), ex)
theorem Q3_u  : ∀ a b q, Q3  a q → Q3  b q → a = b := by
  rintro a b q ⟨_, e1⟩ ⟨_, e2⟩
  have e := e1.symm.trans e2
  exact congrArg (fun q : Res => pB (pA q.1)) e
noncomputable def g5 (x0 : Srule_Set) : Option (Bool) := pick fun r => ∀ (ox0_Rules : Own), RRun (Q5) (EE 5 [(.p (.agg (k_Srule_Set x0 ox0_Rules)))] []) r
theorem g5_to (x0 : Srule_Set) (ox0_Rules : Own) : Sim (Q5) (g5 x0) (EE 5 [(.p (.agg (k_Srule_Set x0 ox0_Rules)))] []) := fun _ h => pick_to h ox0_Rules
noncomputable def g10  : Option (Bool) := pick fun r => RRun (Q10) (EE 10 [] []) r
theorem g10_to  : Sim (Q10) (g10) (EE 10 [] []) := fun _ h => pick_to h 
noncomputable def g25  : Option (Srule_Set) := pick fun r => RRun (Q25) (EE 25 [] []) r
theorem g25_to  : Sim (Q25) (g25) (EE 25 [] []) := fun _ h => pick_to h 
noncomputable def g12 (x0 : Srule_Set) (x1 : Srule_Delta) : Option (Srule_Set × Int) := pick fun r => ∀ (ox0_Rules : Own) (ox1_Put : Own) (ox1_Drop : Own), RRun (Q12) (EE 12 [(.p (.agg (k_Srule_Set x0 ox0_Rules))), (.p (.agg (k_Srule_Delta x1 ox1_Put ox1_Drop)))] []) r
theorem g12_to (x0 : Srule_Set) (x1 : Srule_Delta) (ox0_Rules : Own) (ox1_Put : Own) (ox1_Drop : Own) : Sim (Q12) (g12 x0 x1) (EE 12 [(.p (.agg (k_Srule_Set x0 ox0_Rules))), (.p (.agg (k_Srule_Delta x1 ox1_Put ox1_Drop)))] []) := fun _ h => pick_to h ox0_Rules ox1_Put ox1_Drop
noncomputable def g16 (x0 : Srule_Set) : Option (Bool) := pick fun r => ∀ (ox0_Rules : Own), RRun (Q16) (EE 16 [(.p (.agg (k_Srule_Set x0 ox0_Rules)))] []) r
theorem g16_to (x0 : Srule_Set) (ox0_Rules : Own) : Sim (Q16) (g16 x0) (EE 16 [(.p (.agg (k_Srule_Set x0 ox0_Rules)))] []) := fun _ h => pick_to h ox0_Rules
noncomputable def g27 (x0 : Srule_Set) : Option (Bool) := pick fun r => ∀ (ox0_Rules : Own), RRun (Q27) (EE 27 [(.p (.agg (k_Srule_Set x0 ox0_Rules)))] []) r
theorem g27_to (x0 : Srule_Set) (ox0_Rules : Own) : Sim (Q27) (g27 x0) (EE 27 [(.p (.agg (k_Srule_Set x0 ox0_Rules)))] []) := fun _ h => pick_to h ox0_Rules
noncomputable def g16_l5 (x3 : Int) (x16 : List Srule_Rule) (x17 : Int) (x18 : Int) : Option (Bool) := pick fun r => ∀ (ox16 : Own), RRun (Q16) (f16_l5 0 (iv x3) (.p (.lst ox16 (x16.map e_Srule_Rule))) (iv x17) (iv x18) []) r
theorem g16_l5_to (x3 : Int) (x16 : List Srule_Rule) (x17 : Int) (x18 : Int) (ox16 : Own) : Sim (Q16) (g16_l5 x3 x16 x17 x18) (f16_l5 0 (iv x3) (.p (.lst ox16 (x16.map e_Srule_Rule))) (iv x17) (iv x18) []) := fun _ h => pick_to h ox16
noncomputable def g21 (x0 : Srule_Rule) : Option (Bool) := pick fun r => RRun (Q21) (EE 21 [(.p (.agg (k_Srule_Rule x0)))] []) r
theorem g21_to (x0 : Srule_Rule) : Sim (Q21) (g21 x0) (EE 21 [(.p (.agg (k_Srule_Rule x0)))] []) := fun _ h => pick_to h 
noncomputable def g26 (x1 : Int) (b0_Default : Int) : Option (Int) := pick fun r => ∀ (b0_Closed : Int) (b0_Fuel : Int) (b0_Stack : Int) (b0_Rules : List Srule_Rule) (ob0_Rules : Own), RRun (Q26 b0_Closed b0_Fuel b0_Stack b0_Rules ob0_Rules) (EE 26 [(.ptr 0 0), (iv x1)] [(r_Srule_Set (Srule_Set.mk b0_Default b0_Closed b0_Fuel b0_Stack b0_Rules) ob0_Rules)]) r
theorem g26_to (x1 : Int) (b0_Default : Int) (b0_Closed : Int) (b0_Fuel : Int) (b0_Stack : Int) (b0_Rules : List Srule_Rule) (ob0_Rules : Own) : Sim (Q26 b0_Closed b0_Fuel b0_Stack b0_Rules ob0_Rules) (g26 x1 b0_Default) (EE 26 [(.ptr 0 0), (iv x1)] [(r_Srule_Set (Srule_Set.mk b0_Default b0_Closed b0_Fuel b0_Stack b0_Rules) ob0_Rules)]) := fun _ h => pick_to h b0_Closed b0_Fuel b0_Stack b0_Rules ob0_Rules
noncomputable def g26v1 (x1 : Int) (b0_Closed : Int) : Option (Int) := pick fun r => ∀ (b0_Default : Int) (b0_Fuel : Int) (b0_Stack : Int) (b0_Rules : List Srule_Rule) (ob0_Rules : Own), RRun (Q26v1 b0_Default b0_Fuel b0_Stack b0_Rules ob0_Rules) (EE 26 [(.ptr 0 1), (iv x1)] [(r_Srule_Set (Srule_Set.mk b0_Default b0_Closed b0_Fuel b0_Stack b0_Rules) ob0_Rules)]) r
theorem g26v1_to (x1 : Int) (b0_Default : Int) (b0_Closed : Int) (b0_Fuel : Int) (b0_Stack : Int) (b0_Rules : List Srule_Rule) (ob0_Rules : Own) : Sim (Q26v1 b0_Default b0_Fuel b0_Stack b0_Rules ob0_Rules) (g26v1 x1 b0_Closed) (EE 26 [(.ptr 0 1), (iv x1)] [(r_Srule_Set (Srule_Set.mk b0_Default b0_Closed b0_Fuel b0_Stack b0_Rules) ob0_Rules)]) := fun _ h => pick_to h b0_Default b0_Fuel b0_Stack b0_Rules ob0_Rules
noncomputable def g26v2 (x1 : Int) (b0_Fuel : Int) : Option (Int) := pick fun r => ∀ (b0_Default : Int) (b0_Closed : Int) (b0_Stack : Int) (b0_Rules : List Srule_Rule) (ob0_Rules : Own), RRun (Q26v2 b0_Default b0_Closed b0_Stack b0_Rules ob0_Rules) (EE 26 [(.ptr 0 2), (iv x1)] [(r_Srule_Set (Srule_Set.mk b0_Default b0_Closed b0_Fuel b0_Stack b0_Rules) ob0_Rules)]) r
theorem g26v2_to (x1 : Int) (b0_Default : Int) (b0_Closed : Int) (b0_Fuel : Int) (b0_Stack : Int) (b0_Rules : List Srule_Rule) (ob0_Rules : Own) : Sim (Q26v2 b0_Default b0_Closed b0_Stack b0_Rules ob0_Rules) (g26v2 x1 b0_Fuel) (EE 26 [(.ptr 0 2), (iv x1)] [(r_Srule_Set (Srule_Set.mk b0_Default b0_Closed b0_Fuel b0_Stack b0_Rules) ob0_Rules)]) := fun _ h => pick_to h b0_Default b0_Closed b0_Stack b0_Rules ob0_Rules
noncomputable def g26v3 (x1 : Int) (b0_Stack : Int) : Option (Int) := pick fun r => ∀ (b0_Default : Int) (b0_Closed : Int) (b0_Fuel : Int) (b0_Rules : List Srule_Rule) (ob0_Rules : Own), RRun (Q26v3 b0_Default b0_Closed b0_Fuel b0_Rules ob0_Rules) (EE 26 [(.ptr 0 3), (iv x1)] [(r_Srule_Set (Srule_Set.mk b0_Default b0_Closed b0_Fuel b0_Stack b0_Rules) ob0_Rules)]) r
theorem g26v3_to (x1 : Int) (b0_Default : Int) (b0_Closed : Int) (b0_Fuel : Int) (b0_Stack : Int) (b0_Rules : List Srule_Rule) (ob0_Rules : Own) : Sim (Q26v3 b0_Default b0_Closed b0_Fuel b0_Rules ob0_Rules) (g26v3 x1 b0_Stack) (EE 26 [(.ptr 0 3), (iv x1)] [(r_Srule_Set (Srule_Set.mk b0_Default b0_Closed b0_Fuel b0_Stack b0_Rules) ob0_Rules)]) := fun _ h => pick_to h b0_Default b0_Closed b0_Fuel b0_Rules ob0_Rules
noncomputable def g28 (x0 : List Srule_Rule) : Option (Bool) := pick fun r => ∀ (ox0 : Own), RRun (Q28) (EE 28 [(.p (.lst ox0 (x0.map e_Srule_Rule))), (.clo 21 [] [])] []) r
theorem g28_to (x0 : List Srule_Rule) (ox0 : Own) : Sim (Q28) (g28 x0) (EE 28 [(.p (.lst ox0 (x0.map e_Srule_Rule))), (.clo 21 [] [])] []) := fun _ h => pick_to h ox0
noncomputable def g42 (x0 : List Srule_Rule) : Option (Bool) := pick fun r => ∀ (ox0 : Own), RRun (Q42) (EE 42 [(.p (.lst ox0 (x0.map e_Srule_Rule))), (.clo 43 [] [(.ptr 0 0)])] [[(.clo 21 [] [])]]) r
theorem g42_to (x0 : List Srule_Rule) (ox0 : Own) : Sim (Q42) (g42 x0) (EE 42 [(.p (.lst ox0 (x0.map e_Srule_Rule))), (.clo 43 [] [(.ptr 0 0)])] [[(.clo 21 [] [])]]) := fun _ h => pick_to h ox0
noncomputable def g52 (x0 : List Srule_Rule) : Option (Int) := pick fun r => ∀ (ox0 : Own), RRun (Q52) (EE 52 [(.p (.lst ox0 (x0.map e_Srule_Rule))), (.clo 43 [] [(.ptr 0 0)])] [[(.clo 21 [] [])]]) r
theorem g52_to (x0 : List Srule_Rule) (ox0 : Own) : Sim (Q52) (g52 x0) (EE 52 [(.p (.lst ox0 (x0.map e_Srule_Rule))), (.clo 43 [] [(.ptr 0 0)])] [[(.clo 21 [] [])]]) := fun _ h => pick_to h ox0
noncomputable def g52_l2 (x0 : List Srule_Rule) (x7 : Int) (x8 : Int) : Option (Int) := pick fun r => ∀ (ox0 : Own), RRun (Q52) (f52_l2 1 (.p (.lst ox0 (x0.map e_Srule_Rule))) (.clo 43 [] [(.ptr 0 0)]) (iv x7) (iv x8) [[(.clo 21 [] [])]]) r
theorem g52_l2_to (x0 : List Srule_Rule) (x7 : Int) (x8 : Int) (ox0 : Own) : Sim (Q52) (g52_l2 x0 x7 x8) (f52_l2 1 (.p (.lst ox0 (x0.map e_Srule_Rule))) (.clo 43 [] [(.ptr 0 0)]) (iv x7) (iv x8) [[(.clo 21 [] [])]]) := fun _ h => pick_to h ox0
noncomputable def g43 (x0 : Srule_Rule) : Option (Bool) := pick fun r => RRun (Q43) (EE 43 [(.p (.agg (k_Srule_Rule x0))), (.ptr 0 0)] [[(.clo 21 [] [])]]) r
theorem g43_to (x0 : Srule_Rule) : Sim (Q43) (g43 x0) (EE 43 [(.p (.agg (k_Srule_Rule x0))), (.ptr 0 0)] [[(.clo 21 [] [])]]) := fun _ h => pick_to h 
noncomputable def g29 (x0 : Srule_Delta) : Option (Bool) := pick fun r => ∀ (ox0_Put : Own) (ox0_Drop : Own), RRun (Q29) (EE 29 [(.p (.agg (k_Srule_Delta x0 ox0_Put ox0_Drop)))] []) r
theorem g29_to (x0 : Srule_Delta) (ox0_Put : Own) (ox0_Drop : Own) : Sim (Q29) (g29 x0) (EE 29 [(.p (.agg (k_Srule_Delta x0 ox0_Put ox0_Drop)))] []) := fun _ h => pick_to h ox0_Put ox0_Drop
noncomputable def g42v1 (x0 : List Srule_Rule) (b2_0 : List (Int × Bool)) : Option (Bool × (List (Int × Bool))) := pick fun r => ∀ (ox0 : Own), RRun (Q42v1) (EE 42 [(.p (.lst ox0 (x0.map e_Srule_Rule))), (.clo 45 [] [(.ptr 0 0)])] [[(.clo 44 [] [(.ptr 1 0)])], [(.mp 2)], [(.md ((b2_0).map (encM eB)))]]) r
theorem g42v1_to (x0 : List Srule_Rule) (b2_0 : List (Int × Bool)) (ox0 : Own) : Sim (Q42v1) (g42v1 x0 b2_0) (EE 42 [(.p (.lst ox0 (x0.map e_Srule_Rule))), (.clo 45 [] [(.ptr 0 0)])] [[(.clo 44 [] [(.ptr 1 0)])], [(.mp 2)], [(.md ((b2_0).map (encM eB)))]]) := fun _ h => pick_to h ox0
noncomputable def g52v1 (x0 : List Srule_Rule) (b2_0 : List (Int × Bool)) : Option (Int × (List (Int × Bool))) := pick fun r => ∀ (ox0 : Own), RRun (Q52v1) (EE 52 [(.p (.lst ox0 (x0.map e_Srule_Rule))), (.clo 45 [] [(.ptr 0 0)])] [[(.clo 44 [] [(.ptr 1 0)])], [(.mp 2)], [(.md ((b2_0).map (encM eB)))]]) r
theorem g52v1_to (x0 : List Srule_Rule) (b2_0 : List (Int × Bool)) (ox0 : Own) : Sim (Q52v1) (g52v1 x0 b2_0) (EE 52 [(.p (.lst ox0 (x0.map e_Srule_Rule))), (.clo 45 [] [(.ptr 0 0)])] [[(.clo 44 [] [(.ptr 1 0)])], [(.mp 2)], [(.md ((b2_0).map (encM eB)))]]) := fun _ h => pick_to h ox0
noncomputable def g52v1_l2 (x0 : List Srule_Rule) (x7 : Int) (x8 : Int) (b2_0 : List (Int × Bool)) : Option (Int × (List (Int × Bool))) := pick fun r => ∀ (ox0 : Own), RRun (Q52v1) (f52_l2 3 (.p (.lst ox0 (x0.map e_Srule_Rule))) (.clo 45 [] [(.ptr 0 0)]) (iv x7) (iv x8) [[(.clo 44 [] [(.ptr 1 0)])], [(.mp 2)], [(.md ((b2_0).map (encM eB)))]]) r
theorem g52v1_l2_to (x0 : List Srule_Rule) (x7 : Int) (x8 : Int) (b2_0 : List (Int × Bool)) (ox0 : Own) : Sim (Q52v1) (g52v1_l2 x0 x7 x8 b2_0) (f52_l2 3 (.p (.lst ox0 (x0.map e_Srule_Rule))) (.clo 45 [] [(.ptr 0 0)]) (iv x7) (iv x8) [[(.clo 44 [] [(.ptr 1 0)])], [(.mp 2)], [(.md ((b2_0).map (encM eB)))]]) := fun _ h => pick_to h ox0
noncomputable def g45 (x0 : Srule_Rule) (b2_0 : List (Int × Bool)) : Option (Bool × (List (Int × Bool))) := pick fun r => RRun (Q45) (EE 45 [(.p (.agg (k_Srule_Rule x0))), (.ptr 0 0)] [[(.clo 44 [] [(.ptr 1 0)])], [(.mp 2)], [(.md ((b2_0).map (encM eB)))]]) r
theorem g45_to (x0 : Srule_Rule) (b2_0 : List (Int × Bool)) : Sim (Q45) (g45 x0 b2_0) (EE 45 [(.p (.agg (k_Srule_Rule x0))), (.ptr 0 0)] [[(.clo 44 [] [(.ptr 1 0)])], [(.mp 2)], [(.md ((b2_0).map (encM eB)))]]) := fun _ h => pick_to h 
noncomputable def g44 (x0 : Int) (b1_0 : List (Int × Bool)) : Option (Bool × (List (Int × Bool))) := pick fun r => RRun (Q44) (EE 44 [(iv x0), (.ptr 0 0)] [[(.mp 1)], [(.md ((b1_0).map (encM eB)))]]) r
theorem g44_to (x0 : Int) (b1_0 : List (Int × Bool)) : Sim (Q44) (g44 x0 b1_0) (EE 44 [(iv x0), (.ptr 0 0)] [[(.mp 1)], [(.md ((b1_0).map (encM eB)))]]) := fun _ h => pick_to h 
noncomputable def g46 (x0 : List Int) (b1_0 : List (Int × Bool)) : Option (Bool × (List (Int × Bool))) := pick fun r => ∀ (ox0 : Own), RRun (Q46) (EE 46 [(.p (.lst ox0 (x0.map (eI .i64)))), (.clo 44 [] [(.ptr 0 0)])] [[(.mp 1)], [(.md ((b1_0).map (encM eB)))]]) r
theorem g46_to (x0 : List Int) (b1_0 : List (Int × Bool)) (ox0 : Own) : Sim (Q46) (g46 x0 b1_0) (EE 46 [(.p (.lst ox0 (x0.map (eI .i64)))), (.clo 44 [] [(.ptr 0 0)])] [[(.mp 1)], [(.md ((b1_0).map (encM eB)))]]) := fun _ h => pick_to h ox0
noncomputable def g53 (x0 : List Int) (b1_0 : List (Int × Bool)) : Option (Int × (List (Int × Bool))) := pick fun r => ∀ (ox0 : Own), RRun (Q53) (EE 53 [(.p (.lst ox0 (x0.map (eI .i64)))), (.clo 44 [] [(.ptr 0 0)])] [[(.mp 1)], [(.md ((b1_0).map (encM eB)))]]) r
theorem g53_to (x0 : List Int) (b1_0 : List (Int × Bool)) (ox0 : Own) : Sim (Q53) (g53 x0 b1_0) (EE 53 [(.p (.lst ox0 (x0.map (eI .i64)))), (.clo 44 [] [(.ptr 0 0)])] [[(.mp 1)], [(.md ((b1_0).map (encM eB)))]]) := fun _ h => pick_to h ox0
noncomputable def g53_l2 (x0 : List Int) (x7 : Int) (x8 : Int) (b1_0 : List (Int × Bool)) : Option (Int × (List (Int × Bool))) := pick fun r => ∀ (ox0 : Own), RRun (Q53) (f53_l2 2 (.p (.lst ox0 (x0.map (eI .i64)))) (.clo 44 [] [(.ptr 0 0)]) (iv x7) (iv x8) [[(.mp 1)], [(.md ((b1_0).map (encM eB)))]]) r
theorem g53_l2_to (x0 : List Int) (x7 : Int) (x8 : Int) (b1_0 : List (Int × Bool)) (ox0 : Own) : Sim (Q53) (g53_l2 x0 x7 x8 b1_0) (f53_l2 2 (.p (.lst ox0 (x0.map (eI .i64)))) (.clo 44 [] [(.ptr 0 0)]) (iv x7) (iv x8) [[(.mp 1)], [(.md ((b1_0).map (encM eB)))]]) := fun _ h => pick_to h ox0
noncomputable def g12_l14 (x54 : List Srule_Rule) (x55 : Int) (x56 : Int) (b1 : Srule_Delta) (b3_Default : Int) (b3_Closed : Int) (b3_Fuel : Int) (b3_Stack : Int) (b4_0 : List (Int × Srule_Rule)) : Option (Srule_Set × Int) := pick fun r => ∀ (b0 : Srule_Set) (b2 : Srule_Set) (b3_Rules : List Srule_Rule) (ox54 : Own) (ob0_Rules : Own) (ob1_Put : Own) (ob1_Drop : Own) (ob2_Rules : Own) (ob3_Rules : Own) (hob2_Rules : okApp ob2_Rules = true), RRun (Q12) (f12_l14 0 (.ptr 1 0) (.ptr 2 0) (.ptr 3 0) (.mp 4) (.p (.lst ox54 (x54.map e_Srule_Rule))) (iv x55) (iv x56) [(r_Srule_Set b0 ob0_Rules), (r_Srule_Delta b1 ob1_Put ob1_Drop), (r_Srule_Set b2 ob2_Rules), (r_Srule_Set (Srule_Set.mk b3_Default b3_Closed b3_Fuel b3_Stack b3_Rules) ob3_Rules), [(.md ((b4_0).map (encM e_Srule_Rule)))]]) r
theorem g12_l14_to (x54 : List Srule_Rule) (x55 : Int) (x56 : Int) (b0 : Srule_Set) (b1 : Srule_Delta) (b2 : Srule_Set) (b3_Default : Int) (b3_Closed : Int) (b3_Fuel : Int) (b3_Stack : Int) (b3_Rules : List Srule_Rule) (b4_0 : List (Int × Srule_Rule)) (ox54 : Own) (ob0_Rules : Own) (ob1_Put : Own) (ob1_Drop : Own) (ob2_Rules : Own) (ob3_Rules : Own) (hob2_Rules : okApp ob2_Rules = true) : Sim (Q12) (g12_l14 x54 x55 x56 b1 b3_Default b3_Closed b3_Fuel b3_Stack b4_0) (f12_l14 0 (.ptr 1 0) (.ptr 2 0) (.ptr 3 0) (.mp 4) (.p (.lst ox54 (x54.map e_Srule_Rule))) (iv x55) (iv x56) [(r_Srule_Set b0 ob0_Rules), (r_Srule_Delta b1 ob1_Put ob1_Drop), (r_Srule_Set b2 ob2_Rules), (r_Srule_Set (Srule_Set.mk b3_Default b3_Closed b3_Fuel b3_Stack b3_Rules) ob3_Rules), [(.md ((b4_0).map (encM e_Srule_Rule)))]]) := fun _ h => pick_to h b0 b2 b3_Rules ox54 ob0_Rules ob1_Put ob1_Drop ob2_Rules ob3_Rules hob2_Rules
noncomputable def g12_l19 (x66 : List Int) (x67 : Int) (x68 : Int) (b1 : Srule_Delta) (b3_Default : Int) (b3_Closed : Int) (b3_Fuel : Int) (b3_Stack : Int) (b4_0 : List (Int × Srule_Rule)) : Option (Srule_Set × Int) := pick fun r => ∀ (b0 : Srule_Set) (b2 : Srule_Set) (b3_Rules : List Srule_Rule) (ox66 : Own) (ob0_Rules : Own) (ob1_Put : Own) (ob1_Drop : Own) (ob2_Rules : Own) (ob3_Rules : Own) (hob2_Rules : okApp ob2_Rules = true), RRun (Q12) (f12_l19 0 (.ptr 1 0) (.ptr 2 0) (.ptr 3 0) (.mp 4) (.p (.lst ox66 (x66.map (eI .i64)))) (iv x67) (iv x68) [(r_Srule_Set b0 ob0_Rules), (r_Srule_Delta b1 ob1_Put ob1_Drop), (r_Srule_Set b2 ob2_Rules), (r_Srule_Set (Srule_Set.mk b3_Default b3_Closed b3_Fuel b3_Stack b3_Rules) ob3_Rules), [(.md ((b4_0).map (encM e_Srule_Rule)))]]) r
theorem g12_l19_to (x66 : List Int) (x67 : Int) (x68 : Int) (b0 : Srule_Set) (b1 : Srule_Delta) (b2 : Srule_Set) (b3_Default : Int) (b3_Closed : Int) (b3_Fuel : Int) (b3_Stack : Int) (b3_Rules : List Srule_Rule) (b4_0 : List (Int × Srule_Rule)) (ox66 : Own) (ob0_Rules : Own) (ob1_Put : Own) (ob1_Drop : Own) (ob2_Rules : Own) (ob3_Rules : Own) (hob2_Rules : okApp ob2_Rules = true) : Sim (Q12) (g12_l19 x66 x67 x68 b1 b3_Default b3_Closed b3_Fuel b3_Stack b4_0) (f12_l19 0 (.ptr 1 0) (.ptr 2 0) (.ptr 3 0) (.mp 4) (.p (.lst ox66 (x66.map (eI .i64)))) (iv x67) (iv x68) [(r_Srule_Set b0 ob0_Rules), (r_Srule_Delta b1 ob1_Put ob1_Drop), (r_Srule_Set b2 ob2_Rules), (r_Srule_Set (Srule_Set.mk b3_Default b3_Closed b3_Fuel b3_Stack b3_Rules) ob3_Rules), [(.md ((b4_0).map (encM e_Srule_Rule)))]]) := fun _ h => pick_to h b0 b2 b3_Rules ox66 ob0_Rules ob1_Put ob1_Drop ob2_Rules ob3_Rules hob2_Rules
noncomputable def g12_l27 (x85 : List Srule_Rule) (x86 : Int) (x87 : Int) (b3_Default : Int) (b3_Closed : Int) (b3_Fuel : Int) (b3_Stack : Int) (b4_0 : List (Int × Srule_Rule)) : Option (Srule_Set × Int) := pick fun r => ∀ (b0 : Srule_Set) (b1 : Srule_Delta) (b2 : Srule_Set) (b3_Rules : List Srule_Rule) (ox85 : Own) (ob0_Rules : Own) (ob1_Put : Own) (ob1_Drop : Own) (ob2_Rules : Own) (ob3_Rules : Own) (hob2_Rules : okApp ob2_Rules = true), RRun (Q12) (f12_l27 0 (.ptr 2 0) (.ptr 3 0) (.mp 4) (.p (.lst ox85 (x85.map e_Srule_Rule))) (iv x86) (iv x87) [(r_Srule_Set b0 ob0_Rules), (r_Srule_Delta b1 ob1_Put ob1_Drop), (r_Srule_Set b2 ob2_Rules), (r_Srule_Set (Srule_Set.mk b3_Default b3_Closed b3_Fuel b3_Stack b3_Rules) ob3_Rules), [(.md ((b4_0).map (encM e_Srule_Rule)))]]) r
theorem g12_l27_to (x85 : List Srule_Rule) (x86 : Int) (x87 : Int) (b0 : Srule_Set) (b1 : Srule_Delta) (b2 : Srule_Set) (b3_Default : Int) (b3_Closed : Int) (b3_Fuel : Int) (b3_Stack : Int) (b3_Rules : List Srule_Rule) (b4_0 : List (Int × Srule_Rule)) (ox85 : Own) (ob0_Rules : Own) (ob1_Put : Own) (ob1_Drop : Own) (ob2_Rules : Own) (ob3_Rules : Own) (hob2_Rules : okApp ob2_Rules = true) : Sim (Q12) (g12_l27 x85 x86 x87 b3_Default b3_Closed b3_Fuel b3_Stack b4_0) (f12_l27 0 (.ptr 2 0) (.ptr 3 0) (.mp 4) (.p (.lst ox85 (x85.map e_Srule_Rule))) (iv x86) (iv x87) [(r_Srule_Set b0 ob0_Rules), (r_Srule_Delta b1 ob1_Put ob1_Drop), (r_Srule_Set b2 ob2_Rules), (r_Srule_Set (Srule_Set.mk b3_Default b3_Closed b3_Fuel b3_Stack b3_Rules) ob3_Rules), [(.md ((b4_0).map (encM e_Srule_Rule)))]]) := fun _ h => pick_to h b0 b1 b2 b3_Rules ox85 ob0_Rules ob1_Put ob1_Drop ob2_Rules ob3_Rules hob2_Rules
noncomputable def g31  : Option (Unit) := pick fun r => ∀ (b0_0 : List (Int × Srule_Rule)), RRun (Q31 b0_0) (EE 31 [(.mp 0)] [[(.md ((b0_0).map (encM e_Srule_Rule)))]]) r
theorem g31_to (b0_0 : List (Int × Srule_Rule)) : Sim (Q31 b0_0) (g31) (EE 31 [(.mp 0)] [[(.md ((b0_0).map (encM e_Srule_Rule)))]]) := fun _ h => pick_to h b0_0
noncomputable def g30 (b1_0 : List (Int × Srule_Rule)) : Option ((List Int)) := pick fun r => RRun (Q30 b1_0) (EE 30 [(.clo 49 [] [(.ptr 0 0)])] [[(.mp 1)], [(.md ((b1_0).map (encM e_Srule_Rule)))]]) r
theorem g30_to (b1_0 : List (Int × Srule_Rule)) : Sim (Q30 b1_0) (g30 b1_0) (EE 30 [(.clo 49 [] [(.ptr 0 0)])] [[(.mp 1)], [(.md ((b1_0).map (encM e_Srule_Rule)))]]) := fun _ h => pick_to h 
noncomputable def g12_l35 (x103 : List Int) (x104 : Int) (x105 : Int) (b3_Default : Int) (b3_Closed : Int) (b3_Fuel : Int) (b3_Stack : Int) (b3_Rules : List Srule_Rule) (b4_0 : List (Int × Srule_Rule)) : Option (Srule_Set × Int) := pick fun r => ∀ (b0 : Srule_Set) (b1 : Srule_Delta) (b2 : Srule_Set) (ox103 : Own) (ob0_Rules : Own) (ob1_Put : Own) (ob1_Drop : Own) (ob2_Rules : Own) (ob3_Rules : Own) (hob2_Rules : okApp ob2_Rules = true) (hob3_Rules : okApp ob3_Rules = true), RRun (Q12) (f12_l35 0 (.ptr 2 0) (.ptr 3 0) (.mp 4) (.p (.lst ox103 (x103.map (eI .i64)))) (iv x104) (iv x105) [(r_Srule_Set b0 ob0_Rules), (r_Srule_Delta b1 ob1_Put ob1_Drop), (r_Srule_Set b2 ob2_Rules), (r_Srule_Set (Srule_Set.mk b3_Default b3_Closed b3_Fuel b3_Stack b3_Rules) ob3_Rules), [(.md ((b4_0).map (encM e_Srule_Rule)))]]) r
theorem g12_l35_to (x103 : List Int) (x104 : Int) (x105 : Int) (b0 : Srule_Set) (b1 : Srule_Delta) (b2 : Srule_Set) (b3_Default : Int) (b3_Closed : Int) (b3_Fuel : Int) (b3_Stack : Int) (b3_Rules : List Srule_Rule) (b4_0 : List (Int × Srule_Rule)) (ox103 : Own) (ob0_Rules : Own) (ob1_Put : Own) (ob1_Drop : Own) (ob2_Rules : Own) (ob3_Rules : Own) (hob2_Rules : okApp ob2_Rules = true) (hob3_Rules : okApp ob3_Rules = true) : Sim (Q12) (g12_l35 x103 x104 x105 b3_Default b3_Closed b3_Fuel b3_Stack b3_Rules b4_0) (f12_l35 0 (.ptr 2 0) (.ptr 3 0) (.mp 4) (.p (.lst ox103 (x103.map (eI .i64)))) (iv x104) (iv x105) [(r_Srule_Set b0 ob0_Rules), (r_Srule_Delta b1 ob1_Put ob1_Drop), (r_Srule_Set b2 ob2_Rules), (r_Srule_Set (Srule_Set.mk b3_Default b3_Closed b3_Fuel b3_Stack b3_Rules) ob3_Rules), [(.md ((b4_0).map (encM e_Srule_Rule)))]]) := fun _ h => pick_to h b0 b1 b2 ox103 ob0_Rules ob1_Put ob1_Drop ob2_Rules ob3_Rules hob2_Rules hob3_Rules
noncomputable def g14 (x0 : Srule_Set) : Option (Scolanderref07_Set) := pick fun r => ∀ (ox0_Rules : Own), RRun (Q14) (EE 14 [(.p (.agg (k_Srule_Set x0 ox0_Rules)))] []) r
theorem g14_to (x0 : Srule_Set) (ox0_Rules : Own) : Sim (Q14) (g14 x0) (EE 14 [(.p (.agg (k_Srule_Set x0 ox0_Rules)))] []) := fun _ h => pick_to h ox0_Rules
noncomputable def g14_l3 (x16 : List Srule_Rule) (x17 : Int) (x18 : Int) (b2_Default : Int) (b2_Closed : Int) (b2_Fuel : Int) (b2_Stack : Int) (b2_Rules : List Srule_Rule) : Option (Scolanderref07_Set) := pick fun r => ∀ (b0 : Srule_Set) (b1 : Scolanderref07_Set) (ox16 : Own) (ob0_Rules : Own) (ob1_Rules : Own) (ob2_Rules : Own) (hob1_Rules : okApp ob1_Rules = true) (hob2_Rules : okApp ob2_Rules = true), RRun (Q14) (f14_l3 0 (.ptr 1 0) (.ptr 2 0) (.p (.lst ox16 (x16.map e_Srule_Rule))) (iv x17) (iv x18) [(r_Srule_Set b0 ob0_Rules), (r_Scolanderref07_Set b1 ob1_Rules), (r_Scolanderref07_Set (Scolanderref07_Set.mk b2_Default b2_Closed b2_Fuel b2_Stack b2_Rules) ob2_Rules)]) r
theorem g14_l3_to (x16 : List Srule_Rule) (x17 : Int) (x18 : Int) (b0 : Srule_Set) (b1 : Scolanderref07_Set) (b2_Default : Int) (b2_Closed : Int) (b2_Fuel : Int) (b2_Stack : Int) (b2_Rules : List Srule_Rule) (ox16 : Own) (ob0_Rules : Own) (ob1_Rules : Own) (ob2_Rules : Own) (hob1_Rules : okApp ob1_Rules = true) (hob2_Rules : okApp ob2_Rules = true) : Sim (Q14) (g14_l3 x16 x17 x18 b2_Default b2_Closed b2_Fuel b2_Stack b2_Rules) (f14_l3 0 (.ptr 1 0) (.ptr 2 0) (.p (.lst ox16 (x16.map e_Srule_Rule))) (iv x17) (iv x18) [(r_Srule_Set b0 ob0_Rules), (r_Scolanderref07_Set b1 ob1_Rules), (r_Scolanderref07_Set (Scolanderref07_Set.mk b2_Default b2_Closed b2_Fuel b2_Stack b2_Rules) ob2_Rules)]) := fun _ h => pick_to h b0 b1 ox16 ob0_Rules ob1_Rules ob2_Rules hob1_Rules hob2_Rules
noncomputable def g13 (x0 : Scolanderref07_Set) (x1 : Scolanderref07_Set) : Option (Bool) := pick fun r => ∀ (ox0_Rules : Own) (ox1_Rules : Own), RRun (Q13) (EE 13 [(.p (.agg (k_Scolanderref07_Set x0 ox0_Rules))), (.p (.agg (k_Scolanderref07_Set x1 ox1_Rules)))] []) r
theorem g13_to (x0 : Scolanderref07_Set) (x1 : Scolanderref07_Set) (ox0_Rules : Own) (ox1_Rules : Own) : Sim (Q13) (g13 x0 x1) (EE 13 [(.p (.agg (k_Scolanderref07_Set x0 ox0_Rules))), (.p (.agg (k_Scolanderref07_Set x1 ox1_Rules)))] []) := fun _ h => pick_to h ox0_Rules ox1_Rules
noncomputable def g13_l4 (x5 : Int) (b0 : Scolanderref07_Set) (b1 : Scolanderref07_Set) : Option (Bool) := pick fun r => ∀ (ob0_Rules : Own) (ob1_Rules : Own), RRun (Q13) (f13_l4 0 (.ptr 0 0) (.ptr 1 0) (iv x5) [(r_Scolanderref07_Set b0 ob0_Rules), (r_Scolanderref07_Set b1 ob1_Rules)]) r
theorem g13_l4_to (x5 : Int) (b0 : Scolanderref07_Set) (b1 : Scolanderref07_Set) (ob0_Rules : Own) (ob1_Rules : Own) : Sim (Q13) (g13_l4 x5 b0 b1) (f13_l4 0 (.ptr 0 0) (.ptr 1 0) (iv x5) [(r_Scolanderref07_Set b0 ob0_Rules), (r_Scolanderref07_Set b1 ob1_Rules)]) := fun _ h => pick_to h ob0_Rules ob1_Rules
noncomputable def g6 (x0 : Srule_Set) (x1 : Srule_Delta) (x2 : Int) : Option (Bool) := pick fun r => ∀ (ox0_Rules : Own) (ox1_Put : Own) (ox1_Drop : Own), RRun (Q6) (EE 6 [(.p (.agg (k_Srule_Set x0 ox0_Rules))), (.p (.agg (k_Srule_Delta x1 ox1_Put ox1_Drop))), (iv x2)] []) r
theorem g6_to (x0 : Srule_Set) (x1 : Srule_Delta) (x2 : Int) (ox0_Rules : Own) (ox1_Put : Own) (ox1_Drop : Own) : Sim (Q6) (g6 x0 x1 x2) (EE 6 [(.p (.agg (k_Srule_Set x0 ox0_Rules))), (.p (.agg (k_Srule_Delta x1 ox1_Put ox1_Drop))), (iv x2)] []) := fun _ h => pick_to h ox0_Rules ox1_Put ox1_Drop
noncomputable def g11 (x0 : Srule_Set) (x1 : Srule_Delta) : Option (Bool) := pick fun r => ∀ (ox0_Rules : Own) (ox1_Put : Own) (ox1_Drop : Own), RRun (Q11) (EE 11 [(.p (.agg (k_Srule_Set x0 ox0_Rules))), (.p (.agg (k_Srule_Delta x1 ox1_Put ox1_Drop)))] []) r
theorem g11_to (x0 : Srule_Set) (x1 : Srule_Delta) (ox0_Rules : Own) (ox1_Put : Own) (ox1_Drop : Own) : Sim (Q11) (g11 x0 x1) (EE 11 [(.p (.agg (k_Srule_Set x0 ox0_Rules))), (.p (.agg (k_Srule_Delta x1 ox1_Put ox1_Drop)))] []) := fun _ h => pick_to h ox0_Rules ox1_Put ox1_Drop
noncomputable def g18 (x0 : Srule_Delta) : Option (Scolanderref07_Delta) := pick fun r => ∀ (ox0_Put : Own) (ox0_Drop : Own), RRun (Q18) (EE 18 [(.p (.agg (k_Srule_Delta x0 ox0_Put ox0_Drop)))] []) r
theorem g18_to (x0 : Srule_Delta) (ox0_Put : Own) (ox0_Drop : Own) : Sim (Q18) (g18 x0) (EE 18 [(.p (.agg (k_Srule_Delta x0 ox0_Put ox0_Drop)))] []) := fun _ h => pick_to h ox0_Put ox0_Drop
noncomputable def g18_l3 (x18 : List Srule_Rule) (x19 : Int) (x20 : Int) (b2_Default : Int) (b2_Closed : Int) (b2_Fuel : Int) (b2_Stack : Int) (b2_Put : List Srule_Rule) (b2_Drop : List Int) : Option (Scolanderref07_Delta) := pick fun r => ∀ (b0 : Srule_Delta) (b1 : Scolanderref07_Delta) (ox18 : Own) (ob0_Put : Own) (ob0_Drop : Own) (ob1_Put : Own) (ob1_Drop : Own) (ob2_Put : Own) (ob2_Drop : Own) (hob1_Put : okApp ob1_Put = true) (hob1_Drop : okApp ob1_Drop = true) (hob2_Put : okApp ob2_Put = true), RRun (Q18) (f18_l3 0 (.ptr 1 0) (.ptr 2 0) (.p (.lst ox18 (x18.map e_Srule_Rule))) (iv x19) (iv x20) [(r_Srule_Delta b0 ob0_Put ob0_Drop), (r_Scolanderref07_Delta b1 ob1_Put ob1_Drop), (r_Scolanderref07_Delta (Scolanderref07_Delta.mk b2_Default b2_Closed b2_Fuel b2_Stack b2_Put b2_Drop) ob2_Put ob2_Drop)]) r
theorem g18_l3_to (x18 : List Srule_Rule) (x19 : Int) (x20 : Int) (b0 : Srule_Delta) (b1 : Scolanderref07_Delta) (b2_Default : Int) (b2_Closed : Int) (b2_Fuel : Int) (b2_Stack : Int) (b2_Put : List Srule_Rule) (b2_Drop : List Int) (ox18 : Own) (ob0_Put : Own) (ob0_Drop : Own) (ob1_Put : Own) (ob1_Drop : Own) (ob2_Put : Own) (ob2_Drop : Own) (hob1_Put : okApp ob1_Put = true) (hob1_Drop : okApp ob1_Drop = true) (hob2_Put : okApp ob2_Put = true) : Sim (Q18) (g18_l3 x18 x19 x20 b2_Default b2_Closed b2_Fuel b2_Stack b2_Put b2_Drop) (f18_l3 0 (.ptr 1 0) (.ptr 2 0) (.p (.lst ox18 (x18.map e_Srule_Rule))) (iv x19) (iv x20) [(r_Srule_Delta b0 ob0_Put ob0_Drop), (r_Scolanderref07_Delta b1 ob1_Put ob1_Drop), (r_Scolanderref07_Delta (Scolanderref07_Delta.mk b2_Default b2_Closed b2_Fuel b2_Stack b2_Put b2_Drop) ob2_Put ob2_Drop)]) := fun _ h => pick_to h b0 b1 ox18 ob0_Put ob0_Drop ob1_Put ob1_Drop ob2_Put ob2_Drop hob1_Put hob1_Drop hob2_Put
noncomputable def g17 (x0 : Scolanderref07_Set) (x1 : Scolanderref07_Delta) : Option (Scolanderref07_Set × Int) := pick fun r => ∀ (ox0_Rules : Own) (ox1_Put : Own) (ox1_Drop : Own), RRun (Q17) (EE 17 [(.p (.agg (k_Scolanderref07_Set x0 ox0_Rules))), (.p (.agg (k_Scolanderref07_Delta x1 ox1_Put ox1_Drop)))] []) r
theorem g17_to (x0 : Scolanderref07_Set) (x1 : Scolanderref07_Delta) (ox0_Rules : Own) (ox1_Put : Own) (ox1_Drop : Own) : Sim (Q17) (g17 x0 x1) (EE 17 [(.p (.agg (k_Scolanderref07_Set x0 ox0_Rules))), (.p (.agg (k_Scolanderref07_Delta x1 ox1_Put ox1_Drop)))] []) := fun _ h => pick_to h ox0_Rules ox1_Put ox1_Drop
noncomputable def g19 (x0 : Scolanderref07_Set) : Option (Bool) := pick fun r => ∀ (ox0_Rules : Own), RRun (Q19) (EE 19 [(.p (.agg (k_Scolanderref07_Set x0 ox0_Rules)))] []) r
theorem g19_to (x0 : Scolanderref07_Set) (ox0_Rules : Own) : Sim (Q19) (g19 x0) (EE 19 [(.p (.agg (k_Scolanderref07_Set x0 ox0_Rules)))] []) := fun _ h => pick_to h ox0_Rules
noncomputable def g33 (x0 : Scolanderref07_Set) : Option (Bool) := pick fun r => ∀ (ox0_Rules : Own), RRun (Q33) (EE 33 [(.p (.agg (k_Scolanderref07_Set x0 ox0_Rules)))] []) r
theorem g33_to (x0 : Scolanderref07_Set) (ox0_Rules : Own) : Sim (Q33) (g33 x0) (EE 33 [(.p (.agg (k_Scolanderref07_Set x0 ox0_Rules)))] []) := fun _ h => pick_to h ox0_Rules
noncomputable def g19_l4 (x3 : Int) (b0 : Scolanderref07_Set) : Option (Bool) := pick fun r => ∀ (ob0_Rules : Own), RRun (Q19) (f19_l4 0 (.ptr 0 0) (iv x3) [(r_Scolanderref07_Set b0 ob0_Rules)]) r
theorem g19_l4_to (x3 : Int) (b0 : Scolanderref07_Set) (ob0_Rules : Own) : Sim (Q19) (g19_l4 x3 b0) (f19_l4 0 (.ptr 0 0) (iv x3) [(r_Scolanderref07_Set b0 ob0_Rules)]) := fun _ h => pick_to h ob0_Rules
noncomputable def g34 (x0 : Srule_Rule) : Option (Bool) := pick fun r => RRun (Q34) (EE 34 [(.p (.agg (k_Srule_Rule x0)))] []) r
theorem g34_to (x0 : Srule_Rule) : Sim (Q34) (g34 x0) (EE 34 [(.p (.agg (k_Srule_Rule x0)))] []) := fun _ h => pick_to h 
noncomputable def g32 (x0 : Int) (x1 : Int) : Option (Int) := pick fun r => RRun (Q32) (EE 32 [(iv x0), (iv x1)] []) r
theorem g32_to (x0 : Int) (x1 : Int) : Sim (Q32) (g32 x0 x1) (EE 32 [(iv x0), (iv x1)] []) := fun _ h => pick_to h 
noncomputable def g17_l7 (x7 : Int) (b0 : Scolanderref07_Set) (b1 : Scolanderref07_Delta) (b3_Default : Int) (b3_Closed : Int) (b3_Fuel : Int) (b3_Stack : Int) (b3_Rules : List Srule_Rule) : Option (Scolanderref07_Set × Int) := pick fun r => ∀ (b2 : Scolanderref07_Set) (ob0_Rules : Own) (ob1_Put : Own) (ob1_Drop : Own) (ob2_Rules : Own) (ob3_Rules : Own) (hob2_Rules : okApp ob2_Rules = true) (hob3_Rules : okApp ob3_Rules = true), RRun (Q17) (f17_l7 0 (.ptr 0 0) (.ptr 1 0) (.ptr 2 0) (.ptr 3 0) (iv x7) [(r_Scolanderref07_Set b0 ob0_Rules), (r_Scolanderref07_Delta b1 ob1_Put ob1_Drop), (r_Scolanderref07_Set b2 ob2_Rules), (r_Scolanderref07_Set (Scolanderref07_Set.mk b3_Default b3_Closed b3_Fuel b3_Stack b3_Rules) ob3_Rules)]) r
theorem g17_l7_to (x7 : Int) (b0 : Scolanderref07_Set) (b1 : Scolanderref07_Delta) (b2 : Scolanderref07_Set) (b3_Default : Int) (b3_Closed : Int) (b3_Fuel : Int) (b3_Stack : Int) (b3_Rules : List Srule_Rule) (ob0_Rules : Own) (ob1_Put : Own) (ob1_Drop : Own) (ob2_Rules : Own) (ob3_Rules : Own) (hob2_Rules : okApp ob2_Rules = true) (hob3_Rules : okApp ob3_Rules = true) : Sim (Q17) (g17_l7 x7 b0 b1 b3_Default b3_Closed b3_Fuel b3_Stack b3_Rules) (f17_l7 0 (.ptr 0 0) (.ptr 1 0) (.ptr 2 0) (.ptr 3 0) (iv x7) [(r_Scolanderref07_Set b0 ob0_Rules), (r_Scolanderref07_Delta b1 ob1_Put ob1_Drop), (r_Scolanderref07_Set b2 ob2_Rules), (r_Scolanderref07_Set (Scolanderref07_Set.mk b3_Default b3_Closed b3_Fuel b3_Stack b3_Rules) ob3_Rules)]) := fun _ h => pick_to h b2 ob0_Rules ob1_Put ob1_Drop ob2_Rules ob3_Rules hob2_Rules hob3_Rules
noncomputable def g35 (x0 : Scolanderref07_Delta) : Option (Bool) := pick fun r => ∀ (ox0_Put : Own) (ox0_Drop : Own), RRun (Q35) (EE 35 [(.p (.agg (k_Scolanderref07_Delta x0 ox0_Put ox0_Drop)))] []) r
theorem g35_to (x0 : Scolanderref07_Delta) (ox0_Put : Own) (ox0_Drop : Own) : Sim (Q35) (g35 x0) (EE 35 [(.p (.agg (k_Scolanderref07_Delta x0 ox0_Put ox0_Drop)))] []) := fun _ h => pick_to h ox0_Put ox0_Drop
noncomputable def g35_l3 (x3 : List Int) (x4 : Int) (b0 : Scolanderref07_Delta) : Option (Bool) := pick fun r => ∀ (ox3 : Own) (ob0_Put : Own) (ob0_Drop : Own) (hox3 : okApp ox3 = true), RRun (Q35) (f35_l3 0 (.ptr 0 0) (.p (.lst ox3 (x3.map (eI .i64)))) (iv x4) [(r_Scolanderref07_Delta b0 ob0_Put ob0_Drop)]) r
theorem g35_l3_to (x3 : List Int) (x4 : Int) (b0 : Scolanderref07_Delta) (ox3 : Own) (ob0_Put : Own) (ob0_Drop : Own) (hox3 : okApp ox3 = true) : Sim (Q35) (g35_l3 x3 x4 b0) (f35_l3 0 (.ptr 0 0) (.p (.lst ox3 (x3.map (eI .i64)))) (iv x4) [(r_Scolanderref07_Delta b0 ob0_Put ob0_Drop)]) := fun _ h => pick_to h ox3 ob0_Put ob0_Drop hox3
noncomputable def g35_l8 (x3 : List Int) (x5 : Int) : Option (Bool) := pick fun r => ∀ (ox3 : Own) (hox3 : okApp ox3 = true), RRun (Q35) (f35_l8 0 (.p (.lst ox3 (x3.map (eI .i64)))) (iv x5) []) r
theorem g35_l8_to (x3 : List Int) (x5 : Int) (ox3 : Own) (hox3 : okApp ox3 = true) : Sim (Q35) (g35_l8 x3 x5) (f35_l8 0 (.p (.lst ox3 (x3.map (eI .i64)))) (iv x5) []) := fun _ h => pick_to h ox3 hox3
noncomputable def g35_l11 (x3 : List Int) (x5 : Int) (x6 : Int) : Option (Bool) := pick fun r => ∀ (ox3 : Own) (hox3 : okApp ox3 = true), RRun (Q35) (f35_l11 0 (.p (.lst ox3 (x3.map (eI .i64)))) (iv x5) (iv x6) []) r
theorem g35_l11_to (x3 : List Int) (x5 : Int) (x6 : Int) (ox3 : Own) (hox3 : okApp ox3 = true) : Sim (Q35) (g35_l11 x3 x5 x6) (f35_l11 0 (.p (.lst ox3 (x3.map (eI .i64)))) (iv x5) (iv x6) []) := fun _ h => pick_to h ox3 hox3
noncomputable def g17_l14 (x8 : Int) (b0 : Scolanderref07_Set) (b1 : Scolanderref07_Delta) (b3_Default : Int) (b3_Closed : Int) (b3_Fuel : Int) (b3_Stack : Int) (b3_Rules : List Srule_Rule) : Option (Scolanderref07_Set × Int) := pick fun r => ∀ (b2 : Scolanderref07_Set) (ob0_Rules : Own) (ob1_Put : Own) (ob1_Drop : Own) (ob2_Rules : Own) (ob3_Rules : Own) (hob2_Rules : okApp ob2_Rules = true) (hob3_Rules : okApp ob3_Rules = true), RRun (Q17) (f17_l14 0 (.ptr 0 0) (.ptr 1 0) (.ptr 2 0) (.ptr 3 0) (iv x8) [(r_Scolanderref07_Set b0 ob0_Rules), (r_Scolanderref07_Delta b1 ob1_Put ob1_Drop), (r_Scolanderref07_Set b2 ob2_Rules), (r_Scolanderref07_Set (Scolanderref07_Set.mk b3_Default b3_Closed b3_Fuel b3_Stack b3_Rules) ob3_Rules)]) r
theorem g17_l14_to (x8 : Int) (b0 : Scolanderref07_Set) (b1 : Scolanderref07_Delta) (b2 : Scolanderref07_Set) (b3_Default : Int) (b3_Closed : Int) (b3_Fuel : Int) (b3_Stack : Int) (b3_Rules : List Srule_Rule) (ob0_Rules : Own) (ob1_Put : Own) (ob1_Drop : Own) (ob2_Rules : Own) (ob3_Rules : Own) (hob2_Rules : okApp ob2_Rules = true) (hob3_Rules : okApp ob3_Rules = true) : Sim (Q17) (g17_l14 x8 b0 b1 b3_Default b3_Closed b3_Fuel b3_Stack b3_Rules) (f17_l14 0 (.ptr 0 0) (.ptr 1 0) (.ptr 2 0) (.ptr 3 0) (iv x8) [(r_Scolanderref07_Set b0 ob0_Rules), (r_Scolanderref07_Delta b1 ob1_Put ob1_Drop), (r_Scolanderref07_Set b2 ob2_Rules), (r_Scolanderref07_Set (Scolanderref07_Set.mk b3_Default b3_Closed b3_Fuel b3_Stack b3_Rules) ob3_Rules)]) := fun _ h => pick_to h b2 ob0_Rules ob1_Put ob1_Drop ob2_Rules ob3_Rules hob2_Rules hob3_Rules
noncomputable def g36 (x0 : List Srule_Rule) (x1 : Int) : Option (Int) := pick fun r => ∀ (ox0 : Own), RRun (Q36) (EE 36 [(.p (.lst ox0 (x0.map e_Srule_Rule))), (iv x1)] []) r
theorem g36_to (x0 : List Srule_Rule) (x1 : Int) (ox0 : Own) : Sim (Q36) (g36 x0 x1) (EE 36 [(.p (.lst ox0 (x0.map e_Srule_Rule))), (iv x1)] []) := fun _ h => pick_to h ox0
noncomputable def g36_l2 (x0 : List Srule_Rule) (x1 : Int) (x5 : Int) : Option (Int) := pick fun r => ∀ (ox0 : Own), RRun (Q36) (f36_l2 0 (.p (.lst ox0 (x0.map e_Srule_Rule))) (iv x1) (iv x5) []) r
theorem g36_l2_to (x0 : List Srule_Rule) (x1 : Int) (x5 : Int) (ox0 : Own) : Sim (Q36) (g36_l2 x0 x1 x5) (f36_l2 0 (.p (.lst ox0 (x0.map e_Srule_Rule))) (iv x1) (iv x5) []) := fun _ h => pick_to h ox0
noncomputable def g17_l19 (x9 : Int) (b0 : Scolanderref07_Set) (b1 : Scolanderref07_Delta) (b3_Default : Int) (b3_Closed : Int) (b3_Fuel : Int) (b3_Stack : Int) (b3_Rules : List Srule_Rule) : Option (Scolanderref07_Set × Int) := pick fun r => ∀ (b2 : Scolanderref07_Set) (ob0_Rules : Own) (ob1_Put : Own) (ob1_Drop : Own) (ob2_Rules : Own) (ob3_Rules : Own) (hob2_Rules : okApp ob2_Rules = true) (hob3_Rules : okApp ob3_Rules = true), RRun (Q17) (f17_l19 0 (.ptr 0 0) (.ptr 1 0) (.ptr 2 0) (.ptr 3 0) (iv x9) [(r_Scolanderref07_Set b0 ob0_Rules), (r_Scolanderref07_Delta b1 ob1_Put ob1_Drop), (r_Scolanderref07_Set b2 ob2_Rules), (r_Scolanderref07_Set (Scolanderref07_Set.mk b3_Default b3_Closed b3_Fuel b3_Stack b3_Rules) ob3_Rules)]) r
theorem g17_l19_to (x9 : Int) (b0 : Scolanderref07_Set) (b1 : Scolanderref07_Delta) (b2 : Scolanderref07_Set) (b3_Default : Int) (b3_Closed : Int) (b3_Fuel : Int) (b3_Stack : Int) (b3_Rules : List Srule_Rule) (ob0_Rules : Own) (ob1_Put : Own) (ob1_Drop : Own) (ob2_Rules : Own) (ob3_Rules : Own) (hob2_Rules : okApp ob2_Rules = true) (hob3_Rules : okApp ob3_Rules = true) : Sim (Q17) (g17_l19 x9 b0 b1 b3_Default b3_Closed b3_Fuel b3_Stack b3_Rules) (f17_l19 0 (.ptr 0 0) (.ptr 1 0) (.ptr 2 0) (.ptr 3 0) (iv x9) [(r_Scolanderref07_Set b0 ob0_Rules), (r_Scolanderref07_Delta b1 ob1_Put ob1_Drop), (r_Scolanderref07_Set b2 ob2_Rules), (r_Scolanderref07_Set (Scolanderref07_Set.mk b3_Default b3_Closed b3_Fuel b3_Stack b3_Rules) ob3_Rules)]) := fun _ h => pick_to h b2 ob0_Rules ob1_Put ob1_Drop ob2_Rules ob3_Rules hob2_Rules hob3_Rules
noncomputable def g17_l23 (x9 : Int) (x10 : Bool) (x11 : Int) (b0 : Scolanderref07_Set) (b1 : Scolanderref07_Delta) (b3_Default : Int) (b3_Closed : Int) (b3_Fuel : Int) (b3_Stack : Int) (b3_Rules : List Srule_Rule) : Option (Scolanderref07_Set × Int) := pick fun r => ∀ (b2 : Scolanderref07_Set) (ob0_Rules : Own) (ob1_Put : Own) (ob1_Drop : Own) (ob2_Rules : Own) (ob3_Rules : Own) (hob2_Rules : okApp ob2_Rules = true) (hob3_Rules : okApp ob3_Rules = true), RRun (Q17) (f17_l23 0 (.ptr 0 0) (.ptr 1 0) (.ptr 2 0) (.ptr 3 0) (iv x9) (bv x10) (iv x11) [(r_Scolanderref07_Set b0 ob0_Rules), (r_Scolanderref07_Delta b1 ob1_Put ob1_Drop), (r_Scolanderref07_Set b2 ob2_Rules), (r_Scolanderref07_Set (Scolanderref07_Set.mk b3_Default b3_Closed b3_Fuel b3_Stack b3_Rules) ob3_Rules)]) r
theorem g17_l23_to (x9 : Int) (x10 : Bool) (x11 : Int) (b0 : Scolanderref07_Set) (b1 : Scolanderref07_Delta) (b2 : Scolanderref07_Set) (b3_Default : Int) (b3_Closed : Int) (b3_Fuel : Int) (b3_Stack : Int) (b3_Rules : List Srule_Rule) (ob0_Rules : Own) (ob1_Put : Own) (ob1_Drop : Own) (ob2_Rules : Own) (ob3_Rules : Own) (hob2_Rules : okApp ob2_Rules = true) (hob3_Rules : okApp ob3_Rules = true) : Sim (Q17) (g17_l23 x9 x10 x11 b0 b1 b3_Default b3_Closed b3_Fuel b3_Stack b3_Rules) (f17_l23 0 (.ptr 0 0) (.ptr 1 0) (.ptr 2 0) (.ptr 3 0) (iv x9) (bv x10) (iv x11) [(r_Scolanderref07_Set b0 ob0_Rules), (r_Scolanderref07_Delta b1 ob1_Put ob1_Drop), (r_Scolanderref07_Set b2 ob2_Rules), (r_Scolanderref07_Set (Scolanderref07_Set.mk b3_Default b3_Closed b3_Fuel b3_Stack b3_Rules) ob3_Rules)]) := fun _ h => pick_to h b2 ob0_Rules ob1_Put ob1_Drop ob2_Rules ob3_Rules hob2_Rules hob3_Rules
noncomputable def g17_l29 (x12 : Int) (b1 : Scolanderref07_Delta) (b3_Default : Int) (b3_Closed : Int) (b3_Fuel : Int) (b3_Stack : Int) (b3_Rules : List Srule_Rule) : Option (Scolanderref07_Set × Int) := pick fun r => ∀ (b0 : Scolanderref07_Set) (b2 : Scolanderref07_Set) (ob0_Rules : Own) (ob1_Put : Own) (ob1_Drop : Own) (ob2_Rules : Own) (ob3_Rules : Own) (hob2_Rules : okApp ob2_Rules = true) (hob3_Rules : okApp ob3_Rules = true), RRun (Q17) (f17_l29 0 (.ptr 1 0) (.ptr 2 0) (.ptr 3 0) (iv x12) [(r_Scolanderref07_Set b0 ob0_Rules), (r_Scolanderref07_Delta b1 ob1_Put ob1_Drop), (r_Scolanderref07_Set b2 ob2_Rules), (r_Scolanderref07_Set (Scolanderref07_Set.mk b3_Default b3_Closed b3_Fuel b3_Stack b3_Rules) ob3_Rules)]) r
theorem g17_l29_to (x12 : Int) (b0 : Scolanderref07_Set) (b1 : Scolanderref07_Delta) (b2 : Scolanderref07_Set) (b3_Default : Int) (b3_Closed : Int) (b3_Fuel : Int) (b3_Stack : Int) (b3_Rules : List Srule_Rule) (ob0_Rules : Own) (ob1_Put : Own) (ob1_Drop : Own) (ob2_Rules : Own) (ob3_Rules : Own) (hob2_Rules : okApp ob2_Rules = true) (hob3_Rules : okApp ob3_Rules = true) : Sim (Q17) (g17_l29 x12 b1 b3_Default b3_Closed b3_Fuel b3_Stack b3_Rules) (f17_l29 0 (.ptr 1 0) (.ptr 2 0) (.ptr 3 0) (iv x12) [(r_Scolanderref07_Set b0 ob0_Rules), (r_Scolanderref07_Delta b1 ob1_Put ob1_Drop), (r_Scolanderref07_Set b2 ob2_Rules), (r_Scolanderref07_Set (Scolanderref07_Set.mk b3_Default b3_Closed b3_Fuel b3_Stack b3_Rules) ob3_Rules)]) := fun _ h => pick_to h b0 b2 ob0_Rules ob1_Put ob1_Drop ob2_Rules ob3_Rules hob2_Rules hob3_Rules
noncomputable def g37 (x0 : List Srule_Rule) (x1 : Srule_Rule) : Option ((List Srule_Rule)) := pick fun r => ∀ (ox0 : Own), RRun (Q37) (EE 37 [(.p (.lst ox0 (x0.map e_Srule_Rule))), (.p (.agg (k_Srule_Rule x1)))] []) r
theorem g37_to (x0 : List Srule_Rule) (x1 : Srule_Rule) (ox0 : Own) : Sim (Q37) (g37 x0 x1) (EE 37 [(.p (.lst ox0 (x0.map e_Srule_Rule))), (.p (.agg (k_Srule_Rule x1)))] []) := fun _ h => pick_to h ox0
noncomputable def g37_l4 (x0 : List Srule_Rule) (x5 : List Srule_Rule) (x6 : Bool) (x7 : Int) (b0 : Srule_Rule) : Option ((List Srule_Rule)) := pick fun r => ∀ (ox0 : Own) (ox5 : Own) (hox5 : okApp ox5 = true), RRun (Q37) (f37_l4 0 (.p (.lst ox0 (x0.map e_Srule_Rule))) (.ptr 0 0) (.p (.lst ox5 (x5.map e_Srule_Rule))) (bv x6) (iv x7) [(r_Srule_Rule b0)]) r
theorem g37_l4_to (x0 : List Srule_Rule) (x5 : List Srule_Rule) (x6 : Bool) (x7 : Int) (b0 : Srule_Rule) (ox0 : Own) (ox5 : Own) (hox5 : okApp ox5 = true) : Sim (Q37) (g37_l4 x0 x5 x6 x7 b0) (f37_l4 0 (.p (.lst ox0 (x0.map e_Srule_Rule))) (.ptr 0 0) (.p (.lst ox5 (x5.map e_Srule_Rule))) (bv x6) (iv x7) [(r_Srule_Rule b0)]) := fun _ h => pick_to h ox0 ox5 hox5
noncomputable def g17_l29v1 (x12 : Int) (b1 : Scolanderref07_Delta) (b3_Default : Int) (b3_Closed : Int) (b3_Fuel : Int) (b3_Stack : Int) (b3_Rules : List Srule_Rule) : Option (Scolanderref07_Set × Int) := pick fun r => ∀ (b0 : Scolanderref07_Set) (b2 : Scolanderref07_Set) (ob0_Rules : Own) (ob1_Put : Own) (ob1_Drop : Own) (ob2_Rules : Own) (ob3_Rules : Own) (hob2_Rules : okApp ob2_Rules = true), RRun (Q17) (f17_l29 0 (.ptr 1 0) (.ptr 2 0) (.ptr 3 0) (iv x12) [(r_Scolanderref07_Set b0 ob0_Rules), (r_Scolanderref07_Delta b1 ob1_Put ob1_Drop), (r_Scolanderref07_Set b2 ob2_Rules), (r_Scolanderref07_Set (Scolanderref07_Set.mk b3_Default b3_Closed b3_Fuel b3_Stack b3_Rules) ob3_Rules)]) r
theorem g17_l29v1_to (x12 : Int) (b0 : Scolanderref07_Set) (b1 : Scolanderref07_Delta) (b2 : Scolanderref07_Set) (b3_Default : Int) (b3_Closed : Int) (b3_Fuel : Int) (b3_Stack : Int) (b3_Rules : List Srule_Rule) (ob0_Rules : Own) (ob1_Put : Own) (ob1_Drop : Own) (ob2_Rules : Own) (ob3_Rules : Own) (hob2_Rules : okApp ob2_Rules = true) : Sim (Q17) (g17_l29v1 x12 b1 b3_Default b3_Closed b3_Fuel b3_Stack b3_Rules) (f17_l29 0 (.ptr 1 0) (.ptr 2 0) (.ptr 3 0) (iv x12) [(r_Scolanderref07_Set b0 ob0_Rules), (r_Scolanderref07_Delta b1 ob1_Put ob1_Drop), (r_Scolanderref07_Set b2 ob2_Rules), (r_Scolanderref07_Set (Scolanderref07_Set.mk b3_Default b3_Closed b3_Fuel b3_Stack b3_Rules) ob3_Rules)]) := fun _ h => pick_to h b0 b2 ob0_Rules ob1_Put ob1_Drop ob2_Rules ob3_Rules hob2_Rules
noncomputable def g20 (x0 : Srule_Set) (x1 : Int) : Option (Srule_Rule × Bool) := pick fun r => ∀ (ox0_Rules : Own), RRun (Q20) (EE 20 [(.p (.agg (k_Srule_Set x0 ox0_Rules))), (iv x1)] []) r
theorem g20_to (x0 : Srule_Set) (x1 : Int) (ox0_Rules : Own) : Sim (Q20) (g20 x0 x1) (EE 20 [(.p (.agg (k_Srule_Set x0 ox0_Rules))), (iv x1)] []) := fun _ h => pick_to h ox0_Rules
noncomputable def g20_l2 (x1 : Int) (x9 : List Srule_Rule) (x10 : Int) (x11 : Int) : Option (Srule_Rule × Bool) := pick fun r => ∀ (b0 : Srule_Set) (b1 : Srule_Rule) (ox9 : Own) (ob0_Rules : Own), RRun (Q20) (f20_l2 0 (iv x1) (.ptr 1 0) (.p (.lst ox9 (x9.map e_Srule_Rule))) (iv x10) (iv x11) [(r_Srule_Set b0 ob0_Rules), (r_Srule_Rule b1)]) r
theorem g20_l2_to (x1 : Int) (x9 : List Srule_Rule) (x10 : Int) (x11 : Int) (b0 : Srule_Set) (b1 : Srule_Rule) (ox9 : Own) (ob0_Rules : Own) : Sim (Q20) (g20_l2 x1 x9 x10 x11) (f20_l2 0 (iv x1) (.ptr 1 0) (.p (.lst ox9 (x9.map e_Srule_Rule))) (iv x10) (iv x11) [(r_Srule_Set b0 ob0_Rules), (r_Srule_Rule b1)]) := fun _ h => pick_to h b0 b1 ox9 ob0_Rules
noncomputable def g6_l11 (x2 : Int) (x10 : Int) (x12 : Bool) (x60 : List Srule_Rule) (x61 : Int) (x62 : Int) (b2 : Srule_Set) (b3 : Srule_Rule) : Option (Bool) := pick fun r => ∀ (b0 : Srule_Set) (b1 : Srule_Delta) (ox60 : Own) (ob0_Rules : Own) (ob1_Put : Own) (ob1_Drop : Own) (ob2_Rules : Own), RRun (Q6) (f6_l11 0 (iv x2) (.ptr 2 0) (iv x10) (.ptr 3 0) (bv x12) (.p (.lst ox60 (x60.map e_Srule_Rule))) (iv x61) (iv x62) [(r_Srule_Set b0 ob0_Rules), (r_Srule_Delta b1 ob1_Put ob1_Drop), (r_Srule_Set b2 ob2_Rules), (r_Srule_Rule b3)]) r
theorem g6_l11_to (x2 : Int) (x10 : Int) (x12 : Bool) (x60 : List Srule_Rule) (x61 : Int) (x62 : Int) (b0 : Srule_Set) (b1 : Srule_Delta) (b2 : Srule_Set) (b3 : Srule_Rule) (ox60 : Own) (ob0_Rules : Own) (ob1_Put : Own) (ob1_Drop : Own) (ob2_Rules : Own) : Sim (Q6) (g6_l11 x2 x10 x12 x60 x61 x62 b2 b3) (f6_l11 0 (iv x2) (.ptr 2 0) (iv x10) (.ptr 3 0) (bv x12) (.p (.lst ox60 (x60.map e_Srule_Rule))) (iv x61) (iv x62) [(r_Srule_Set b0 ob0_Rules), (r_Srule_Delta b1 ob1_Put ob1_Drop), (r_Srule_Set b2 ob2_Rules), (r_Srule_Rule b3)]) := fun _ h => pick_to h b0 b1 ox60 ob0_Rules ob1_Put ob1_Drop ob2_Rules
noncomputable def g7 (x0 : Srule_Set) (x1 : Srule_Rule) : Option (Bool) := pick fun r => ∀ (ox0_Rules : Own), RRun (Q7) (EE 7 [(.p (.agg (k_Srule_Set x0 ox0_Rules))), (.p (.agg (k_Srule_Rule x1)))] []) r
theorem g7_to (x0 : Srule_Set) (x1 : Srule_Rule) (ox0_Rules : Own) : Sim (Q7) (g7 x0 x1) (EE 7 [(.p (.agg (k_Srule_Set x0 ox0_Rules))), (.p (.agg (k_Srule_Rule x1)))] []) := fun _ h => pick_to h ox0_Rules
noncomputable def g8 (x0 : Srule_Set) (x1 : Srule_Set) : Option (Bool) := pick fun r => ∀ (ox0_Rules : Own) (ox1_Rules : Own), RRun (Q8) (EE 8 [(.p (.agg (k_Srule_Set x0 ox0_Rules))), (.p (.agg (k_Srule_Set x1 ox1_Rules)))] []) r
theorem g8_to (x0 : Srule_Set) (x1 : Srule_Set) (ox0_Rules : Own) (ox1_Rules : Own) : Sim (Q8) (g8 x0 x1) (EE 8 [(.p (.agg (k_Srule_Set x0 ox0_Rules))), (.p (.agg (k_Srule_Set x1 ox1_Rules)))] []) := fun _ h => pick_to h ox0_Rules ox1_Rules
noncomputable def g22 (x0 : Srule_Set) (x1 : Srule_Set) : Option (Srule_Delta × Int) := pick fun r => ∀ (ox0_Rules : Own) (ox1_Rules : Own), RRun (Q22) (EE 22 [(.p (.agg (k_Srule_Set x0 ox0_Rules))), (.p (.agg (k_Srule_Set x1 ox1_Rules)))] []) r
theorem g22_to (x0 : Srule_Set) (x1 : Srule_Set) (ox0_Rules : Own) (ox1_Rules : Own) : Sim (Q22) (g22 x0 x1) (EE 22 [(.p (.agg (k_Srule_Set x0 ox0_Rules))), (.p (.agg (k_Srule_Set x1 ox1_Rules)))] []) := fun _ h => pick_to h ox0_Rules ox1_Rules
noncomputable def g38 (x0 : Int) (x1 : Int) : Option (Int) := pick fun r => RRun (Q38) (EE 38 [(iv x0), (iv x1)] []) r
theorem g38_to (x0 : Int) (x1 : Int) : Sim (Q38) (g38 x0 x1) (EE 38 [(iv x0), (iv x1)] []) := fun _ h => pick_to h 
noncomputable def g22_l5 (x46 : List Srule_Rule) (x47 : Int) (x48 : Int) (b0 : Srule_Set) (b1 : Srule_Set) (b3_Default : Int) (b3_Closed : Int) (b3_Fuel : Int) (b3_Stack : Int) (b3_Put : List Srule_Rule) (b3_Drop : List Int) : Option (Srule_Delta × Int) := pick fun r => ∀ (b2 : Srule_Delta) (ox46 : Own) (ob0_Rules : Own) (ob1_Rules : Own) (ob2_Put : Own) (ob2_Drop : Own) (ob3_Put : Own) (ob3_Drop : Own) (hob2_Put : okApp ob2_Put = true) (hob2_Drop : okApp ob2_Drop = true) (hob3_Put : okApp ob3_Put = true) (hob3_Drop : okApp ob3_Drop = true), RRun (Q22) (f22_l5 0 (.ptr 0 0) (.ptr 1 0) (.ptr 2 0) (.ptr 3 0) (.p (.lst ox46 (x46.map e_Srule_Rule))) (iv x47) (iv x48) [(r_Srule_Set b0 ob0_Rules), (r_Srule_Set b1 ob1_Rules), (r_Srule_Delta b2 ob2_Put ob2_Drop), (r_Srule_Delta (Srule_Delta.mk b3_Default b3_Closed b3_Fuel b3_Stack b3_Put b3_Drop) ob3_Put ob3_Drop)]) r
theorem g22_l5_to (x46 : List Srule_Rule) (x47 : Int) (x48 : Int) (b0 : Srule_Set) (b1 : Srule_Set) (b2 : Srule_Delta) (b3_Default : Int) (b3_Closed : Int) (b3_Fuel : Int) (b3_Stack : Int) (b3_Put : List Srule_Rule) (b3_Drop : List Int) (ox46 : Own) (ob0_Rules : Own) (ob1_Rules : Own) (ob2_Put : Own) (ob2_Drop : Own) (ob3_Put : Own) (ob3_Drop : Own) (hob2_Put : okApp ob2_Put = true) (hob2_Drop : okApp ob2_Drop = true) (hob3_Put : okApp ob3_Put = true) (hob3_Drop : okApp ob3_Drop = true) : Sim (Q22) (g22_l5 x46 x47 x48 b0 b1 b3_Default b3_Closed b3_Fuel b3_Stack b3_Put b3_Drop) (f22_l5 0 (.ptr 0 0) (.ptr 1 0) (.ptr 2 0) (.ptr 3 0) (.p (.lst ox46 (x46.map e_Srule_Rule))) (iv x47) (iv x48) [(r_Srule_Set b0 ob0_Rules), (r_Srule_Set b1 ob1_Rules), (r_Srule_Delta b2 ob2_Put ob2_Drop), (r_Srule_Delta (Srule_Delta.mk b3_Default b3_Closed b3_Fuel b3_Stack b3_Put b3_Drop) ob3_Put ob3_Drop)]) := fun _ h => pick_to h b2 ox46 ob0_Rules ob1_Rules ob2_Put ob2_Drop ob3_Put ob3_Drop hob2_Put hob2_Drop hob3_Put hob3_Drop
noncomputable def g22_l12 (x74 : List Srule_Rule) (x75 : Int) (x76 : Int) (b1 : Srule_Set) (b3_Default : Int) (b3_Closed : Int) (b3_Fuel : Int) (b3_Stack : Int) (b3_Put : List Srule_Rule) (b3_Drop : List Int) : Option (Srule_Delta × Int) := pick fun r => ∀ (b0 : Srule_Set) (b2 : Srule_Delta) (ox74 : Own) (ob0_Rules : Own) (ob1_Rules : Own) (ob2_Put : Own) (ob2_Drop : Own) (ob3_Put : Own) (ob3_Drop : Own) (hob2_Put : okApp ob2_Put = true) (hob2_Drop : okApp ob2_Drop = true) (hob3_Put : okApp ob3_Put = true) (hob3_Drop : okApp ob3_Drop = true), RRun (Q22) (f22_l12 0 (.ptr 1 0) (.ptr 2 0) (.ptr 3 0) (.p (.lst ox74 (x74.map e_Srule_Rule))) (iv x75) (iv x76) [(r_Srule_Set b0 ob0_Rules), (r_Srule_Set b1 ob1_Rules), (r_Srule_Delta b2 ob2_Put ob2_Drop), (r_Srule_Delta (Srule_Delta.mk b3_Default b3_Closed b3_Fuel b3_Stack b3_Put b3_Drop) ob3_Put ob3_Drop)]) r
theorem g22_l12_to (x74 : List Srule_Rule) (x75 : Int) (x76 : Int) (b0 : Srule_Set) (b1 : Srule_Set) (b2 : Srule_Delta) (b3_Default : Int) (b3_Closed : Int) (b3_Fuel : Int) (b3_Stack : Int) (b3_Put : List Srule_Rule) (b3_Drop : List Int) (ox74 : Own) (ob0_Rules : Own) (ob1_Rules : Own) (ob2_Put : Own) (ob2_Drop : Own) (ob3_Put : Own) (ob3_Drop : Own) (hob2_Put : okApp ob2_Put = true) (hob2_Drop : okApp ob2_Drop = true) (hob3_Put : okApp ob3_Put = true) (hob3_Drop : okApp ob3_Drop = true) : Sim (Q22) (g22_l12 x74 x75 x76 b1 b3_Default b3_Closed b3_Fuel b3_Stack b3_Put b3_Drop) (f22_l12 0 (.ptr 1 0) (.ptr 2 0) (.ptr 3 0) (.p (.lst ox74 (x74.map e_Srule_Rule))) (iv x75) (iv x76) [(r_Srule_Set b0 ob0_Rules), (r_Srule_Set b1 ob1_Rules), (r_Srule_Delta b2 ob2_Put ob2_Drop), (r_Srule_Delta (Srule_Delta.mk b3_Default b3_Closed b3_Fuel b3_Stack b3_Put b3_Drop) ob3_Put ob3_Drop)]) := fun _ h => pick_to h b0 b2 ox74 ob0_Rules ob1_Rules ob2_Put ob2_Drop ob3_Put ob3_Drop hob2_Put hob2_Drop hob3_Put hob3_Drop
noncomputable def g8_l13 (x9 : Int) (x78 : List Srule_Rule) (x79 : Int) (x80 : Int) (b0 : Srule_Set) (b1 : Srule_Set) (b2 : Srule_Delta) : Option (Bool) := pick fun r => ∀ (ox78 : Own) (ob0_Rules : Own) (ob1_Rules : Own) (ob2_Put : Own) (ob2_Drop : Own), RRun (Q8) (f8_l13 0 (.ptr 0 0) (.ptr 1 0) (.ptr 2 0) (iv x9) (.p (.lst ox78 (x78.map e_Srule_Rule))) (iv x79) (iv x80) [(r_Srule_Set b0 ob0_Rules), (r_Srule_Set b1 ob1_Rules), (r_Srule_Delta b2 ob2_Put ob2_Drop)]) r
theorem g8_l13_to (x9 : Int) (x78 : List Srule_Rule) (x79 : Int) (x80 : Int) (b0 : Srule_Set) (b1 : Srule_Set) (b2 : Srule_Delta) (ox78 : Own) (ob0_Rules : Own) (ob1_Rules : Own) (ob2_Put : Own) (ob2_Drop : Own) : Sim (Q8) (g8_l13 x9 x78 x79 x80 b0 b1 b2) (f8_l13 0 (.ptr 0 0) (.ptr 1 0) (.ptr 2 0) (iv x9) (.p (.lst ox78 (x78.map e_Srule_Rule))) (iv x79) (iv x80) [(r_Srule_Set b0 ob0_Rules), (r_Srule_Set b1 ob1_Rules), (r_Srule_Delta b2 ob2_Put ob2_Drop)]) := fun _ h => pick_to h ox78 ob0_Rules ob1_Rules ob2_Put ob2_Drop
noncomputable def g8_l22 (x9 : Int) (x107 : List Int) (x108 : Int) (x109 : Int) (b0 : Srule_Set) (b1 : Srule_Set) (b2 : Srule_Delta) : Option (Bool) := pick fun r => ∀ (ox107 : Own) (ob0_Rules : Own) (ob1_Rules : Own) (ob2_Put : Own) (ob2_Drop : Own), RRun (Q8) (f8_l22 0 (.ptr 0 0) (.ptr 1 0) (.ptr 2 0) (iv x9) (.p (.lst ox107 (x107.map (eI .i64)))) (iv x108) (iv x109) [(r_Srule_Set b0 ob0_Rules), (r_Srule_Set b1 ob1_Rules), (r_Srule_Delta b2 ob2_Put ob2_Drop)]) r
theorem g8_l22_to (x9 : Int) (x107 : List Int) (x108 : Int) (x109 : Int) (b0 : Srule_Set) (b1 : Srule_Set) (b2 : Srule_Delta) (ox107 : Own) (ob0_Rules : Own) (ob1_Rules : Own) (ob2_Put : Own) (ob2_Drop : Own) : Sim (Q8) (g8_l22 x9 x107 x108 x109 b0 b1 b2) (f8_l22 0 (.ptr 0 0) (.ptr 1 0) (.ptr 2 0) (iv x9) (.p (.lst ox107 (x107.map (eI .i64)))) (iv x108) (iv x109) [(r_Srule_Set b0 ob0_Rules), (r_Srule_Set b1 ob1_Rules), (r_Srule_Delta b2 ob2_Put ob2_Drop)]) := fun _ h => pick_to h ox107 ob0_Rules ob1_Rules ob2_Put ob2_Drop
noncomputable def g9 (x0 : Srule_Set) (x1 : Int) : Option (Bool) := pick fun r => ∀ (ox0_Rules : Own), RRun (Q9) (EE 9 [(.p (.agg (k_Srule_Set x0 ox0_Rules))), (iv x1)] []) r
theorem g9_to (x0 : Srule_Set) (x1 : Int) (ox0_Rules : Own) : Sim (Q9) (g9 x0 x1) (EE 9 [(.p (.agg (k_Srule_Set x0 ox0_Rules))), (iv x1)] []) := fun _ h => pick_to h ox0_Rules
noncomputable def g23 (x0 : Srule_Set) (x1 : Int) : Option ((List Int)) := pick fun r => ∀ (ox0_Rules : Own), RRun (Q23) (EE 23 [(.p (.agg (k_Srule_Set x0 ox0_Rules))), (iv x1)] []) r
theorem g23_to (x0 : Srule_Set) (x1 : Int) (ox0_Rules : Own) : Sim (Q23) (g23 x0 x1) (EE 23 [(.p (.agg (k_Srule_Set x0 ox0_Rules))), (iv x1)] []) := fun _ h => pick_to h ox0_Rules
noncomputable def g23_l5 (x1 : Int) (x5 : List Int) (x12 : List Srule_Rule) (x13 : Int) (x14 : Int) (b0 : Srule_Set) : Option ((List Int)) := pick fun r => ∀ (ox5 : Own) (ox12 : Own) (ob0_Rules : Own) (hox5 : okApp ox5 = true), RRun (Q23) (f23_l5 0 (iv x1) (.ptr 0 0) (.p (.lst ox5 (x5.map (eI .i64)))) (.p (.lst ox12 (x12.map e_Srule_Rule))) (iv x13) (iv x14) [(r_Srule_Set b0 ob0_Rules)]) r
theorem g23_l5_to (x1 : Int) (x5 : List Int) (x12 : List Srule_Rule) (x13 : Int) (x14 : Int) (b0 : Srule_Set) (ox5 : Own) (ox12 : Own) (ob0_Rules : Own) (hox5 : okApp ox5 = true) : Sim (Q23) (g23_l5 x1 x5 x12 x13 x14 b0) (f23_l5 0 (iv x1) (.ptr 0 0) (.p (.lst ox5 (x5.map (eI .i64)))) (.p (.lst ox12 (x12.map e_Srule_Rule))) (iv x13) (iv x14) [(r_Srule_Set b0 ob0_Rules)]) := fun _ h => pick_to h ox5 ox12 ob0_Rules hox5
noncomputable def g39 (x0 : List Int) (b0 : Srule_Set) : Option (Unit) := pick fun r => ∀ (ox0 : Own) (ob0_Rules : Own), RRun (Q39 b0 ob0_Rules) (EE 39 [(.p (.lst ox0 (x0.map (eI .i64)))), (.clo 40 [] [(.ptr 0 0)])] [(r_Srule_Set b0 ob0_Rules)]) r
theorem g39_to (x0 : List Int) (b0 : Srule_Set) (ox0 : Own) (ob0_Rules : Own) : Sim (Q39 b0 ob0_Rules) (g39 x0 b0) (EE 39 [(.p (.lst ox0 (x0.map (eI .i64)))), (.clo 40 [] [(.ptr 0 0)])] [(r_Srule_Set b0 ob0_Rules)]) := fun _ h => pick_to h ox0 ob0_Rules
noncomputable def g24 (x0 : Scolanderref07_Set) (x1 : Int) : Option ((List Int)) := pick fun r => ∀ (ox0_Rules : Own), RRun (Q24) (EE 24 [(.p (.agg (k_Scolanderref07_Set x0 ox0_Rules))), (iv x1)] []) r
theorem g24_to (x0 : Scolanderref07_Set) (x1 : Int) (ox0_Rules : Own) : Sim (Q24) (g24 x0 x1) (EE 24 [(.p (.agg (k_Scolanderref07_Set x0 ox0_Rules))), (iv x1)] []) := fun _ h => pick_to h ox0_Rules
noncomputable def g24_l3 (x1 : Int) (x5 : List Int) (x6 : Int) (b0 : Scolanderref07_Set) : Option ((List Int)) := pick fun r => ∀ (ox5 : Own) (ob0_Rules : Own) (hox5 : okApp ox5 = true), RRun (Q24) (f24_l3 0 (iv x1) (.ptr 0 0) (.p (.lst ox5 (x5.map (eI .i64)))) (iv x6) [(r_Scolanderref07_Set b0 ob0_Rules)]) r
theorem g24_l3_to (x1 : Int) (x5 : List Int) (x6 : Int) (b0 : Scolanderref07_Set) (ox5 : Own) (ob0_Rules : Own) (hox5 : okApp ox5 = true) : Sim (Q24) (g24_l3 x1 x5 x6 b0) (f24_l3 0 (iv x1) (.ptr 0 0) (.p (.lst ox5 (x5.map (eI .i64)))) (iv x6) [(r_Scolanderref07_Set b0 ob0_Rules)]) := fun _ h => pick_to h ox5 ob0_Rules hox5
noncomputable def g24_l6 (x1 : Int) (x5 : List Int) (x6 : Int) (x7 : Int) (b0 : Scolanderref07_Set) : Option ((List Int)) := pick fun r => ∀ (ox5 : Own) (ob0_Rules : Own) (hox5 : okApp ox5 = true), RRun (Q24) (f24_l6 0 (iv x1) (.ptr 0 0) (.p (.lst ox5 (x5.map (eI .i64)))) (iv x6) (iv x7) [(r_Scolanderref07_Set b0 ob0_Rules)]) r
theorem g24_l6_to (x1 : Int) (x5 : List Int) (x6 : Int) (x7 : Int) (b0 : Scolanderref07_Set) (ox5 : Own) (ob0_Rules : Own) (hox5 : okApp ox5 = true) : Sim (Q24) (g24_l6 x1 x5 x6 x7 b0) (f24_l6 0 (iv x1) (.ptr 0 0) (.p (.lst ox5 (x5.map (eI .i64)))) (iv x6) (iv x7) [(r_Scolanderref07_Set b0 ob0_Rules)]) := fun _ h => pick_to h ox5 ob0_Rules hox5
noncomputable def g9_l12 (x6 : List Int) (x34 : List Int) (x35 : Int) (x36 : Int) : Option (Bool) := pick fun r => ∀ (ox6 : Own) (ox34 : Own), RRun (Q9) (f9_l12 0 (.p (.lst ox6 (x6.map (eI .i64)))) (.p (.lst ox34 (x34.map (eI .i64)))) (iv x35) (iv x36) []) r
theorem g9_l12_to (x6 : List Int) (x34 : List Int) (x35 : Int) (x36 : Int) (ox6 : Own) (ox34 : Own) : Sim (Q9) (g9_l12 x6 x34 x35 x36) (f9_l12 0 (.p (.lst ox6 (x6.map (eI .i64)))) (.p (.lst ox34 (x34.map (eI .i64)))) (iv x35) (iv x36) []) := fun _ h => pick_to h ox6 ox34
noncomputable def g3 (x0 : Srule_Set) (x1 : Srule_Delta) (x2 : Srule_Delta) : Option (Bool) := pick fun r => ∀ (ox0_Rules : Own) (ox1_Put : Own) (ox1_Drop : Own) (ox2_Put : Own) (ox2_Drop : Own), RRun (Q3) (EE 3 [(.p (.agg (k_Srule_Set x0 ox0_Rules))), (.p (.agg (k_Srule_Delta x1 ox1_Put ox1_Drop))), (.p (.agg (k_Srule_Delta x2 ox2_Put ox2_Drop)))] []) r
theorem g3_to (x0 : Srule_Set) (x1 : Srule_Delta) (x2 : Srule_Delta) (ox0_Rules : Own) (ox1_Put : Own) (ox1_Drop : Own) (ox2_Put : Own) (ox2_Drop : Own) : Sim (Q3) (g3 x0 x1 x2) (EE 3 [(.p (.agg (k_Srule_Set x0 ox0_Rules))), (.p (.agg (k_Srule_Delta x1 ox1_Put ox1_Drop))), (.p (.agg (k_Srule_Delta x2 ox2_Put ox2_Drop)))] []) := fun _ h => pick_to h ox0_Rules ox1_Put ox1_Drop ox2_Put ox2_Drop
noncomputable def g3_l12 (x85 : S39) (x86 : Int) (b0 : Srule_Set) (b1 : Srule_Delta) (b2 : Srule_Delta) (b3 : Srule_Set) : Option (Bool) := pick fun r => ∀ (ob0_Rules : Own) (ob1_Put : Own) (ob1_Drop : Own) (ob2_Put : Own) (ob2_Drop : Own) (ob3_Rules : Own), RRun (Q3) (f3_l12 0 (.ptr 0 0) (.ptr 1 0) (.ptr 2 0) (.ptr 3 0) (.p (.agg (k_S39 x85))) (iv x86) [(r_Srule_Set b0 ob0_Rules), (r_Srule_Delta b1 ob1_Put ob1_Drop), (r_Srule_Delta b2 ob2_Put ob2_Drop), (r_Srule_Set b3 ob3_Rules)]) r
theorem g3_l12_to (x85 : S39) (x86 : Int) (b0 : Srule_Set) (b1 : Srule_Delta) (b2 : Srule_Delta) (b3 : Srule_Set) (ob0_Rules : Own) (ob1_Put : Own) (ob1_Drop : Own) (ob2_Put : Own) (ob2_Drop : Own) (ob3_Rules : Own) : Sim (Q3) (g3_l12 x85 x86 b0 b1 b2 b3) (f3_l12 0 (.ptr 0 0) (.ptr 1 0) (.ptr 2 0) (.ptr 3 0) (.p (.agg (k_S39 x85))) (iv x86) [(r_Srule_Set b0 ob0_Rules), (r_Srule_Delta b1 ob1_Put ob1_Drop), (r_Srule_Delta b2 ob2_Put ob2_Drop), (r_Srule_Set b3 ob3_Rules)]) := fun _ h => pick_to h ob0_Rules ob1_Put ob1_Drop ob2_Put ob2_Drop ob3_Rules
noncomputable def g15 (x0 : Srule_Delta) : Option ((List Int)) := pick fun r => ∀ (ox0_Put : Own) (ox0_Drop : Own), RRun (Q15) (EE 15 [(.p (.agg (k_Srule_Delta x0 ox0_Put ox0_Drop)))] []) r
theorem g15_to (x0 : Srule_Delta) (ox0_Put : Own) (ox0_Drop : Own) : Sim (Q15) (g15 x0) (EE 15 [(.p (.agg (k_Srule_Delta x0 ox0_Put ox0_Drop)))] []) := fun _ h => pick_to h ox0_Put ox0_Drop
noncomputable def g15_l3 (x3 : List Int) (x11 : List Srule_Rule) (x12 : Int) (x13 : Int) : Option ((List Int)) := pick fun r => ∀ (ox3 : Own) (ox11 : Own) (hox3 : okApp ox3 = true), RRun (Q15) (f15_l3 0 (.p (.lst ox3 (x3.map (eI .i64)))) (.p (.lst ox11 (x11.map e_Srule_Rule))) (iv x12) (iv x13) []) r
theorem g15_l3_to (x3 : List Int) (x11 : List Srule_Rule) (x12 : Int) (x13 : Int) (ox3 : Own) (ox11 : Own) (hox3 : okApp ox3 = true) : Sim (Q15) (g15_l3 x3 x11 x12 x13) (f15_l3 0 (.p (.lst ox3 (x3.map (eI .i64)))) (.p (.lst ox11 (x11.map e_Srule_Rule))) (iv x12) (iv x13) []) := fun _ h => pick_to h ox3 ox11 hox3
noncomputable def g3_l18 (x99 : List Int) (x100 : Int) (x101 : Int) (b0 : Srule_Set) (b1 : Srule_Delta) (b2 : Srule_Delta) (b3 : Srule_Set) : Option (Bool) := pick fun r => ∀ (ox99 : Own) (ob0_Rules : Own) (ob1_Put : Own) (ob1_Drop : Own) (ob2_Put : Own) (ob2_Drop : Own) (ob3_Rules : Own), RRun (Q3) (f3_l18 0 (.ptr 0 0) (.ptr 1 0) (.ptr 2 0) (.ptr 3 0) (.p (.lst ox99 (x99.map (eI .i64)))) (iv x100) (iv x101) [(r_Srule_Set b0 ob0_Rules), (r_Srule_Delta b1 ob1_Put ob1_Drop), (r_Srule_Delta b2 ob2_Put ob2_Drop), (r_Srule_Set b3 ob3_Rules)]) r
theorem g3_l18_to (x99 : List Int) (x100 : Int) (x101 : Int) (b0 : Srule_Set) (b1 : Srule_Delta) (b2 : Srule_Delta) (b3 : Srule_Set) (ox99 : Own) (ob0_Rules : Own) (ob1_Put : Own) (ob1_Drop : Own) (ob2_Put : Own) (ob2_Drop : Own) (ob3_Rules : Own) : Sim (Q3) (g3_l18 x99 x100 x101 b0 b1 b2 b3) (f3_l18 0 (.ptr 0 0) (.ptr 1 0) (.ptr 2 0) (.ptr 3 0) (.p (.lst ox99 (x99.map (eI .i64)))) (iv x100) (iv x101) [(r_Srule_Set b0 ob0_Rules), (r_Srule_Delta b1 ob1_Put ob1_Drop), (r_Srule_Delta b2 ob2_Put ob2_Drop), (r_Srule_Set b3 ob3_Rules)]) := fun _ h => pick_to h ox99 ob0_Rules ob1_Put ob1_Drop ob2_Put ob2_Drop ob3_Rules
noncomputable def g3_l21 (x14 : Int) (x99 : List Int) (x100 : Int) (x101 : Int) (x106 : List Int) (x107 : Int) (x108 : Int) (b0 : Srule_Set) (b1 : Srule_Delta) (b2 : Srule_Delta) (b3 : Srule_Set) : Option (Bool) := pick fun r => ∀ (ox99 : Own) (ox106 : Own) (ob0_Rules : Own) (ob1_Put : Own) (ob1_Drop : Own) (ob2_Put : Own) (ob2_Drop : Own) (ob3_Rules : Own), RRun (Q3) (f3_l21 0 (.ptr 0 0) (.ptr 1 0) (.ptr 2 0) (.ptr 3 0) (iv x14) (.p (.lst ox99 (x99.map (eI .i64)))) (iv x100) (iv x101) (.p (.lst ox106 (x106.map (eI .i64)))) (iv x107) (iv x108) [(r_Srule_Set b0 ob0_Rules), (r_Srule_Delta b1 ob1_Put ob1_Drop), (r_Srule_Delta b2 ob2_Put ob2_Drop), (r_Srule_Set b3 ob3_Rules)]) r
theorem g3_l21_to (x14 : Int) (x99 : List Int) (x100 : Int) (x101 : Int) (x106 : List Int) (x107 : Int) (x108 : Int) (b0 : Srule_Set) (b1 : Srule_Delta) (b2 : Srule_Delta) (b3 : Srule_Set) (ox99 : Own) (ox106 : Own) (ob0_Rules : Own) (ob1_Put : Own) (ob1_Drop : Own) (ob2_Put : Own) (ob2_Drop : Own) (ob3_Rules : Own) : Sim (Q3) (g3_l21 x14 x99 x100 x101 x106 x107 x108 b0 b1 b2 b3) (f3_l21 0 (.ptr 0 0) (.ptr 1 0) (.ptr 2 0) (.ptr 3 0) (iv x14) (.p (.lst ox99 (x99.map (eI .i64)))) (iv x100) (iv x101) (.p (.lst ox106 (x106.map (eI .i64)))) (iv x107) (iv x108) [(r_Srule_Set b0 ob0_Rules), (r_Srule_Delta b1 ob1_Put ob1_Drop), (r_Srule_Delta b2 ob2_Put ob2_Drop), (r_Srule_Set b3 ob3_Rules)]) := fun _ h => pick_to h ox99 ox106 ob0_Rules ob1_Put ob1_Drop ob2_Put ob2_Drop ob3_Rules
end Go.Proofs.Ytbmmhbpalkepeaa.N2
end
