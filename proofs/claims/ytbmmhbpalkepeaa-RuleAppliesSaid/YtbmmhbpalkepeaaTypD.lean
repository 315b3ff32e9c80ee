/- The rest of the functions' typed texts. No condition. -/
import Derived.Test.YtbmmhbpalkepeaaTypA

section
set_option linter.unusedSimpArgs false
set_option linter.unusedVariables false
namespace Go.Proofs.Ytbmmhbpalkepeaa.N2
open Go Go.Abs
set_option linter.unusedVariables false
set_option maxRecDepth 100000
/-! "colander/rule.Diff": g22 -/
noncomputable def b22_r2  : Option (Srule_Delta × Int) :=
 some ((Srule_Delta.mk 0 0 0 0 ([] : List Srule_Rule) ([] : List Int)), 10)
theorem g22_r2_sim (b0 : Srule_Set) (b1 : Srule_Set) (b2 : Srule_Delta) (ob0_Rules : Own) (ob1_Rules : Own) (ob2_Put : Own) (ob2_Drop : Own) (hob2_Put : okApp ob2_Put = true) (hob2_Drop : okApp ob2_Drop = true) : Sim (Q22) (b22_r2) (f22_r2 0 (.ptr 2 0) [(r_Srule_Set b0 ob0_Rules), (r_Srule_Set b1 ob1_Rules), (r_Srule_Delta b2 ob2_Put ob2_Drop)]) := by
  unfold b22_r2
  refine Sim.cast (f22_r2_eq _ _ _) ?_
  refine Sim.mk ?_
  refine Sim.ob1 (v := (.p (.agg (k_Srule_Delta (Srule_Delta.mk 0 0 0 0 ([] : List Srule_Rule) ([] : List Int)) .nl .nl)))) (by kernel_rfl) ?_
  refine Sim.stN (B2 := [(r_Srule_Set b0 ob0_Rules), (r_Srule_Set b1 ob1_Rules), (r_Srule_Delta (Srule_Delta.mk 0 0 0 0 ([] : List Srule_Rule) ([] : List Int)) .nl .nl)]) (fun _ => by kernel_rfl) ?_
  exact Sim.cast (y' := some ((.p (.tup [(.agg (k_Srule_Delta (Srule_Delta.mk 0 0 0 0 ([] : List Srule_Rule) ([] : List Int)) .sh .sh)), (.v (.int .i64 10))])), [(r_Srule_Set b0 ob0_Rules), (r_Srule_Set b1 ob1_Rules), (r_Srule_Delta (Srule_Delta.mk 0 0 0 0 ([] : List Srule_Rule) ([] : List Int)) .nl .nl)])) (by kernel_rfl) (Sim.ret ⟨[(r_Srule_Set b0 ob0_Rules), (r_Srule_Set b1 ob1_Rules), (r_Srule_Delta (Srule_Delta.mk 0 0 0 0 ([] : List Srule_Rule) ([] : List Int)) .nl .nl)], by kernel_rfl⟩)
noncomputable def b22_r3 (b0 : Srule_Set) (b1 : Srule_Set) : Option (Srule_Delta × Int) :=
 (g38 b0.Default b1.Default).bind fun r1 =>
 (g38 b0.Closed b1.Closed).bind fun r2 =>
 (g38 b0.Fuel b1.Fuel).bind fun r3 =>
 (g38 b0.Stack b1.Stack).bind fun r4 =>
 g22_l5 b1.Rules ((b1.Rules.length : Int)) 0 b0 b1 r1 r2 r3 r4 (([] : List Srule_Rule)) (([] : List Int))
theorem g22_r3_sim (b0 : Srule_Set) (b1 : Srule_Set) (b2 : Srule_Delta) (ob0_Rules : Own) (ob1_Rules : Own) (ob2_Put : Own) (ob2_Drop : Own) (hob2_Put : okApp ob2_Put = true) (hob2_Drop : okApp ob2_Drop = true) : Sim (Q22) (b22_r3 b0 b1) (f22_r3 0 (.ptr 0 0) (.ptr 1 0) (.ptr 2 0) [(r_Srule_Set b0 ob0_Rules), (r_Srule_Set b1 ob1_Rules), (r_Srule_Delta b2 ob2_Put ob2_Drop)]) := by
  unfold b22_r3
  refine Sim.cast (f22_r3_eq _ _ _ _ _) ?_
  refine Sim.mk ?_
  refine Sim.ob1 (v := (.ptr 0 0)) (by kernel_rfl) ?_
  refine Sim.ob1 (v := (iv b0.Default)) (by kernel_rfl) ?_
  refine Sim.ob1 (v := (.ptr 1 0)) (by kernel_rfl) ?_
  refine Sim.ob1 (v := (iv b1.Default)) (by kernel_rfl) ?_
  refine Sim.bind fun r1 hr1 => ?_
  obtain ⟨qr1, er1, exr1, rfl⟩ := g38_to (b0.Default) (b1.Default) r1 hr1
  refine Sim.callS (rs := []) (v := (iv r1)) (B2 := [(r_Srule_Set b0 ob0_Rules), (r_Srule_Set b1 ob1_Rules), (r_Srule_Delta b2 ob2_Put ob2_Drop)]) (fun _ => by kernel_rfl) er1 (fun _ => by kernel_rfl) ?_
  refine Sim.ob1 (v := (.ptr 0 1)) (by kernel_rfl) ?_
  refine Sim.ob1 (v := (iv b0.Closed)) (by kernel_rfl) ?_
  refine Sim.ob1 (v := (.ptr 1 1)) (by kernel_rfl) ?_
  refine Sim.ob1 (v := (iv b1.Closed)) (by kernel_rfl) ?_
  refine Sim.bind fun r2 hr2 => ?_
  obtain ⟨qr2, er2, exr2, rfl⟩ := g38_to (b0.Closed) (b1.Closed) r2 hr2
  refine Sim.callS (rs := []) (v := (iv r2)) (B2 := [(r_Srule_Set b0 ob0_Rules), (r_Srule_Set b1 ob1_Rules), (r_Srule_Delta b2 ob2_Put ob2_Drop)]) (fun _ => by kernel_rfl) er2 (fun _ => by kernel_rfl) ?_
  refine Sim.ob1 (v := (.ptr 0 2)) (by kernel_rfl) ?_
  refine Sim.ob1 (v := (iv b0.Fuel)) (by kernel_rfl) ?_
  refine Sim.ob1 (v := (.ptr 1 2)) (by kernel_rfl) ?_
  refine Sim.ob1 (v := (iv b1.Fuel)) (by kernel_rfl) ?_
  refine Sim.bind fun r3 hr3 => ?_
  obtain ⟨qr3, er3, exr3, rfl⟩ := g38_to (b0.Fuel) (b1.Fuel) r3 hr3
  refine Sim.callS (rs := []) (v := (iv r3)) (B2 := [(r_Srule_Set b0 ob0_Rules), (r_Srule_Set b1 ob1_Rules), (r_Srule_Delta b2 ob2_Put ob2_Drop)]) (fun _ => by kernel_rfl) er3 (fun _ => by kernel_rfl) ?_
  refine Sim.ob1 (v := (.ptr 0 3)) (by kernel_rfl) ?_
  refine Sim.ob1 (v := (iv b0.Stack)) (by kernel_rfl) ?_
  refine Sim.ob1 (v := (.ptr 1 3)) (by kernel_rfl) ?_
  refine Sim.ob1 (v := (iv b1.Stack)) (by kernel_rfl) ?_
  refine Sim.bind fun r4 hr4 => ?_
  obtain ⟨qr4, er4, exr4, rfl⟩ := g38_to (b0.Stack) (b1.Stack) r4 hr4
  refine Sim.callS (rs := []) (v := (iv r4)) (B2 := [(r_Srule_Set b0 ob0_Rules), (r_Srule_Set b1 ob1_Rules), (r_Srule_Delta b2 ob2_Put ob2_Drop)]) (fun _ => by kernel_rfl) er4 (fun _ => by kernel_rfl) ?_
  refine Sim.ob1 (v := (.p (.agg (k_Srule_Delta (Srule_Delta.mk r1 r2 r3 r4 ([] : List Srule_Rule) ([] : List Int)) .nl .nl)))) (by kernel_rfl) ?_
  refine Sim.bz (v := (.ptr 3 0)) (B2 := [(r_Srule_Set b0 ob0_Rules), (r_Srule_Set b1 ob1_Rules), (r_Srule_Delta b2 ob2_Put ob2_Drop), (r_Srule_Delta (Srule_Delta.mk 0 0 0 0 ([] : List Srule_Rule) ([] : List Int)) .nl .nl)]) (fun _ => by kernel_rfl) ?_
  refine Sim.stN (B2 := [(r_Srule_Set b0 ob0_Rules), (r_Srule_Set b1 ob1_Rules), (r_Srule_Delta b2 ob2_Put ob2_Drop), (r_Srule_Delta (Srule_Delta.mk r1 r2 r3 r4 ([] : List Srule_Rule) ([] : List Int)) .nl .nl)]) (fun _ => by kernel_rfl) ?_
  refine Sim.grd (by kernel_rfl) ?_
  refine Sim.grd (by kernel_rfl) ?_
  refine Sim.grd (by kernel_rfl) ?_
  refine Sim.grd (by kernel_rfl) ?_
  refine Sim.grd (by kernel_rfl) ?_
  refine Sim.grd (by kernel_rfl) ?_
  refine Sim.grd (by kernel_rfl) ?_
  refine Sim.grd (by kernel_rfl) ?_
  refine Sim.grd (by kernel_rfl) ?_
  refine Sim.grd (by kernel_rfl) ?_
  refine Sim.grd (by kernel_rfl) ?_
  refine Sim.grd (by kernel_rfl) ?_
  refine Sim.grd (by kernel_rfl) ?_
  refine Sim.grd (by kernel_rfl) ?_
  refine Sim.grd (by kernel_rfl) ?_
  refine Sim.grd (by kernel_rfl) ?_
  refine Sim.grd (by kernel_rfl) ?_
  refine Sim.grd (by kernel_rfl) ?_
  refine Sim.grd (by kernel_rfl) ?_
  refine Sim.grd (by kernel_rfl) ?_
  refine Sim.grd (by kernel_rfl) ?_
  refine Sim.grd (by kernel_rfl) ?_
  refine Sim.grd (by kernel_rfl) ?_
  refine Sim.grd (by kernel_rfl) ?_
  refine Sim.mk ?_
  refine Sim.ob1 (v := (.ptr 1 4)) (by kernel_rfl) ?_
  refine Sim.ob1 (v := (.p (.lst (shrO ob1_Rules) (b1.Rules.map e_Srule_Rule)))) (by kernel_rfl) ?_
  refine Sim.ob1 (v := (iv (b1.Rules.length : Int))) (Eq.trans (by kernel_rfl) (xlen_of (P := PP) (t := 22) (d := 43) (by kernel_rfl) e_Srule_Rule (shrO ob1_Rules) b1.Rules)) ?_
  exact Sim.cast (by kernel_rfl) (g22_l5_to (b1.Rules) ((b1.Rules.length : Int)) (0) (b0) (b1) (b2) (r1) (r2) (r3) (r4) (([] : List Srule_Rule)) (([] : List Int)) (shrO ob1_Rules) ob0_Rules ob1_Rules ob2_Put ob2_Drop .nl .nl hob2_Put hob2_Drop rfl rfl)
noncomputable def b22 (x0 : Srule_Set) (x1 : Srule_Set) : Option (Srule_Delta × Int) :=
 (g16 x0).bind fun r1 =>
 if ((!r1)) = true then
 (b22_r2)
 else
 ((g16 x1).bind fun r2 =>
 if ((!r2)) = true then
 (b22_r2)
 else
 (b22_r3 x0 x1))
theorem g22_sim (x0 : Srule_Set) (x1 : Srule_Set) (ox0_Rules : Own) (ox1_Rules : Own) : Sim (Q22) (b22 x0 x1) (EE 22 [(.p (.agg (k_Srule_Set x0 ox0_Rules))), (.p (.agg (k_Srule_Set x1 ox1_Rules)))] []) := by
  unfold b22
  refine Sim.cast (f22_eq _ _ _) ?_
  refine Sim.mk ?_
  refine Sim.bx (v := (.ptr 0 0)) (B2 := [(r_Srule_Set x0 ox0_Rules)]) (fun _ => by kernel_rfl) ?_
  refine Sim.bx (v := (.ptr 1 0)) (B2 := [(r_Srule_Set x0 ox0_Rules), (r_Srule_Set x1 ox1_Rules)]) (fun _ => by kernel_rfl) ?_
  refine Sim.bz (v := (.ptr 2 0)) (B2 := [(r_Srule_Set x0 ox0_Rules), (r_Srule_Set x1 ox1_Rules), (r_Srule_Delta (Srule_Delta.mk 0 0 0 0 ([] : List Srule_Rule) ([] : List Int)) .nl .nl)]) (fun _ => by kernel_rfl) ?_
  refine Sim.mk ?_
  refine Sim.ob1 (v := (.p (.agg (k_Srule_Set x0 (shrO ox0_Rules))))) (by kernel_rfl) ?_
  refine Sim.bind fun r1 hr1 => ?_
  obtain ⟨qr1, er1, exr1, rfl⟩ := g16_to (x0) .sh r1 hr1
  refine Sim.callS (rs := []) (v := (bv r1)) (B2 := [(r_Srule_Set x0 ox0_Rules), (r_Srule_Set x1 ox1_Rules), (r_Srule_Delta (Srule_Delta.mk 0 0 0 0 ([] : List Srule_Rule) ([] : List Int)) .nl .nl)]) (fun _ => by kernel_rfl) er1 (fun _ => by kernel_rfl) ?_
  refine Sim.ob1 (v := (bv (!r1))) (by kernel_rfl) ?_
  refine Sim.asB (b := (!r1)) (by kernel_rfl) ?_
  refine Sim.br (fun _ => ?_) (fun _ => ?_)
  · skip
    exact Sim.cast (by kernel_rfl) (g22_r2_sim (x0) (x1) ((Srule_Delta.mk 0 0 0 0 ([] : List Srule_Rule) ([] : List Int))) ox0_Rules ox1_Rules .nl .nl rfl rfl)
  · skip
    refine Sim.ob1 (v := (.p (.agg (k_Srule_Set x1 (shrO ox1_Rules))))) (by kernel_rfl) ?_
    refine Sim.bind fun r2 hr2 => ?_
    obtain ⟨qr2, er2, exr2, rfl⟩ := g16_to (x1) .sh r2 hr2
    refine Sim.callS (rs := []) (v := (bv r2)) (B2 := [(r_Srule_Set x0 ox0_Rules), (r_Srule_Set x1 ox1_Rules), (r_Srule_Delta (Srule_Delta.mk 0 0 0 0 ([] : List Srule_Rule) ([] : List Int)) .nl .nl)]) (fun _ => by kernel_rfl) er2 (fun _ => by kernel_rfl) ?_
    refine Sim.ob1 (v := (bv (!r2))) (by kernel_rfl) ?_
    refine Sim.asB (b := (!r2)) (by kernel_rfl) ?_
    refine Sim.br (fun _ => ?_) (fun _ => ?_)
    · skip
      exact Sim.cast (by kernel_rfl) (g22_r2_sim (x0) (x1) ((Srule_Delta.mk 0 0 0 0 ([] : List Srule_Rule) ([] : List Int))) ox0_Rules ox1_Rules .nl .nl rfl rfl)
    · skip
      exact Sim.cast (by kernel_rfl) (g22_r3_sim (x0) (x1) ((Srule_Delta.mk 0 0 0 0 ([] : List Srule_Rule) ([] : List Int))) ox0_Rules ox1_Rules .nl .nl rfl rfl)
theorem g22_of (x0 : Srule_Set) (x1 : Srule_Set) {r} (h : b22 x0 x1 = some r) : g22 x0 x1 = some r :=
  pick_of (fun _ _ ha hb => RRun.uniq (Q22_u) (ha .ex .ex) (hb .ex .ex)) (fun ox0_Rules ox1_Rules => g22_sim x0 x1 ox0_Rules ox1_Rules r h)
noncomputable def b22_r10 (x46 : List Srule_Rule) (x47 : Int) (x48 : Int) (b0 : Srule_Set) (b1 : Srule_Set) (b3_Default : Int) (b3_Closed : Int) (b3_Fuel : Int) (b3_Stack : Int) (b3_Put : List Srule_Rule) (b3_Drop : List Int) : Option (Srule_Delta × Int) :=
 g22_l5 x46 x47 ((IntKind.i64.wrap (x48 + 1))) b0 b1 b3_Default b3_Closed b3_Fuel b3_Stack b3_Put b3_Drop
theorem g22_r10_sim (x46 : List Srule_Rule) (x47 : Int) (x48 : Int) (b0 : Srule_Set) (b1 : Srule_Set) (b2 : Srule_Delta) (b3_Default : Int) (b3_Closed : Int) (b3_Fuel : Int) (b3_Stack : Int) (b3_Put : List Srule_Rule) (b3_Drop : List Int) (ox46 : Own) (ob0_Rules : Own) (ob1_Rules : Own) (ob2_Put : Own) (ob2_Drop : Own) (ob3_Put : Own) (ob3_Drop : Own) (hob2_Put : okApp ob2_Put = true) (hob2_Drop : okApp ob2_Drop = true) (hob3_Put : okApp ob3_Put = true) (hob3_Drop : okApp ob3_Drop = true) : Sim (Q22) (b22_r10 x46 x47 x48 b0 b1 b3_Default b3_Closed b3_Fuel b3_Stack b3_Put b3_Drop) (f22_r10 0 (.ptr 0 0) (.ptr 1 0) (.ptr 2 0) (.ptr 3 0) (.p (.lst ox46 (x46.map e_Srule_Rule))) (iv x47) (iv x48) [(r_Srule_Set b0 ob0_Rules), (r_Srule_Set b1 ob1_Rules), (r_Srule_Delta b2 ob2_Put ob2_Drop), (r_Srule_Delta (Srule_Delta.mk b3_Default b3_Closed b3_Fuel b3_Stack b3_Put b3_Drop) ob3_Put ob3_Drop)]) := by
  unfold b22_r10
  refine Sim.cast (f22_r10_eq _ _ _ _ _ _ _ _ _) ?_
  refine Sim.mk ?_
  refine Sim.ob1 (v := (iv (IntKind.i64.wrap (x48 + 1)))) (by kernel_rfl) ?_
  exact Sim.cast (by kernel_rfl) (g22_l5_to (x46) (x47) ((IntKind.i64.wrap (x48 + 1))) (b0) (b1) (b2) (b3_Default) (b3_Closed) (b3_Fuel) (b3_Stack) (b3_Put) (b3_Drop) ox46 ob0_Rules ob1_Rules ob2_Put ob2_Drop ob3_Put ob3_Drop hob2_Put hob2_Drop hob3_Put hob3_Drop)
noncomputable def b22_r9 (x46 : List Srule_Rule) (x47 : Int) (x48 : Int) (b0 : Srule_Set) (b1 : Srule_Set) (b3_Default : Int) (b3_Closed : Int) (b3_Fuel : Int) (b3_Stack : Int) (b3_Put : List Srule_Rule) (b3_Drop : List Int) (b4 : Srule_Rule) : Option (Srule_Delta × Int) :=
 (lapp b3_Put ([b4] : List Srule_Rule)).bind fun a1 =>
 b22_r10 x46 x47 x48 b0 b1 b3_Default b3_Closed b3_Fuel b3_Stack a1 b3_Drop
theorem g22_r9_sim (x46 : List Srule_Rule) (x47 : Int) (x48 : Int) (b0 : Srule_Set) (b1 : Srule_Set) (b2 : Srule_Delta) (b3_Default : Int) (b3_Closed : Int) (b3_Fuel : Int) (b3_Stack : Int) (b3_Put : List Srule_Rule) (b3_Drop : List Int) (b4 : Srule_Rule) (ox46 : Own) (ob0_Rules : Own) (ob1_Rules : Own) (ob2_Put : Own) (ob2_Drop : Own) (ob3_Put : Own) (ob3_Drop : Own) (hob2_Put : okApp ob2_Put = true) (hob2_Drop : okApp ob2_Drop = true) (hob3_Put : okApp ob3_Put = true) (hob3_Drop : okApp ob3_Drop = true) : Sim (Q22) (b22_r9 x46 x47 x48 b0 b1 b3_Default b3_Closed b3_Fuel b3_Stack b3_Put b3_Drop b4) (f22_r9 0 (.ptr 0 0) (.ptr 1 0) (.ptr 2 0) (.ptr 3 0) (.ptr 4 0) (.p (.lst ox46 (x46.map e_Srule_Rule))) (iv x47) (iv x48) [(r_Srule_Set b0 ob0_Rules), (r_Srule_Set b1 ob1_Rules), (r_Srule_Delta b2 ob2_Put ob2_Drop), (r_Srule_Delta (Srule_Delta.mk b3_Default b3_Closed b3_Fuel b3_Stack b3_Put b3_Drop) ob3_Put ob3_Drop), (r_Srule_Rule b4)]) := by
  unfold b22_r9
  refine Sim.cast (f22_r9_eq _ _ _ _ _ _ _ _ _ _) ?_
  refine Sim.mk ?_
  refine Sim.ob1 (v := (.ptr 3 4)) (by kernel_rfl) ?_
  refine Sim.ldOwn (v := (.p (.lst ob3_Put (b3_Put.map e_Srule_Rule)))) (B2 := [(r_Srule_Set b0 ob0_Rules), (r_Srule_Set b1 ob1_Rules), (r_Srule_Delta b2 ob2_Put ob2_Drop), (r_Srule_Delta (Srule_Delta.mk b3_Default b3_Closed b3_Fuel b3_Stack b3_Put b3_Drop) (shrO ob3_Put) ob3_Drop), (r_Srule_Rule b4)]) (fun _ => by kernel_rfl) ?_
  refine Sim.ob1 (v := (.p (.agg (k_Srule_Rule b4)))) (by kernel_rfl) ?_
  refine Sim.ob1 (v := (.p (.lst .ex (([b4] : List Srule_Rule).map e_Srule_Rule)))) (by kernel_rfl) ?_
  refine Sim.bind fun a1 ha1 => ?_
  refine Sim.ob1 (v := (.p (.lst .un (a1.map e_Srule_Rule)))) (Eq.trans (by kernel_rfl) <| xapp_of (n := 5) (o := ob3_Put) (o' := .ex) (e := e_Srule_Rule) (ys := ([b4] : List Srule_Rule)) (fun _ => rfl) (by decide) hob3_Put ha1) ?_
  refine Sim.ob1 (v := (.ptr 3 4)) (by kernel_rfl) ?_
  refine Sim.stN (B2 := [(r_Srule_Set b0 ob0_Rules), (r_Srule_Set b1 ob1_Rules), (r_Srule_Delta b2 ob2_Put ob2_Drop), (r_Srule_Delta (Srule_Delta.mk b3_Default b3_Closed b3_Fuel b3_Stack a1 b3_Drop) .un ob3_Drop), (r_Srule_Rule b4)]) (fun _ => by kernel_rfl) ?_
  exact Sim.cast (by kernel_rfl) (g22_r10_sim (x46) (x47) (x48) (b0) (b1) (b2) (b3_Default) (b3_Closed) (b3_Fuel) (b3_Stack) (a1) (b3_Drop) ox46 ob0_Rules ob1_Rules ob2_Put ob2_Drop .un ob3_Drop hob2_Put hob2_Drop rfl hob3_Drop)
noncomputable def b22_r6 (x46 : List Srule_Rule) (x47 : Int) (x48 : Int) (b0 : Srule_Set) (b1 : Srule_Set) (b3_Default : Int) (b3_Closed : Int) (b3_Fuel : Int) (b3_Stack : Int) (b3_Put : List Srule_Rule) (b3_Drop : List Int) : Option (Srule_Delta × Int) :=
 (lget x46 x48).bind fun a1 =>
 (g20 b0 a1.ID).bind fun r2 =>
 if ((!r2.2)) = true then
 (b22_r9 x46 x47 x48 b0 b1 b3_Default b3_Closed b3_Fuel b3_Stack b3_Put b3_Drop a1)
 else
 (if ((!((r2.1.ID == a1.ID) && ((r2.1.Priority == a1.Priority) && ((r2.1.Action == a1.Action) && ((r2.1.Scope == a1.Scope) && ((seq r2.1.Pattern a1.Pattern) && true))))))) = true then
 (b22_r9 x46 x47 x48 b0 b1 b3_Default b3_Closed b3_Fuel b3_Stack b3_Put b3_Drop a1)
 else
 (b22_r10 x46 x47 x48 b0 b1 b3_Default b3_Closed b3_Fuel b3_Stack b3_Put b3_Drop))
theorem g22_r6_sim (x46 : List Srule_Rule) (x47 : Int) (x48 : Int) (b0 : Srule_Set) (b1 : Srule_Set) (b2 : Srule_Delta) (b3_Default : Int) (b3_Closed : Int) (b3_Fuel : Int) (b3_Stack : Int) (b3_Put : List Srule_Rule) (b3_Drop : List Int) (ox46 : Own) (ob0_Rules : Own) (ob1_Rules : Own) (ob2_Put : Own) (ob2_Drop : Own) (ob3_Put : Own) (ob3_Drop : Own) (hob2_Put : okApp ob2_Put = true) (hob2_Drop : okApp ob2_Drop = true) (hob3_Put : okApp ob3_Put = true) (hob3_Drop : okApp ob3_Drop = true) : Sim (Q22) (b22_r6 x46 x47 x48 b0 b1 b3_Default b3_Closed b3_Fuel b3_Stack b3_Put b3_Drop) (f22_r6 0 (.ptr 0 0) (.ptr 1 0) (.ptr 2 0) (.ptr 3 0) (.p (.lst ox46 (x46.map e_Srule_Rule))) (iv x47) (iv x48) [(r_Srule_Set b0 ob0_Rules), (r_Srule_Set b1 ob1_Rules), (r_Srule_Delta b2 ob2_Put ob2_Drop), (r_Srule_Delta (Srule_Delta.mk b3_Default b3_Closed b3_Fuel b3_Stack b3_Put b3_Drop) ob3_Put ob3_Drop)]) := by
  unfold b22_r6
  refine Sim.cast (f22_r6_eq _ _ _ _ _ _ _ _ _) ?_
  refine Sim.mk ?_
  refine Sim.bind fun a1 ha1 => ?_
  refine Sim.ob1 (v := (.cptr (k_Srule_Rule a1))) (Eq.trans (by kernel_rfl) (xidx_of (o := ox46) (k := .i64) (n := 5) (e := e_Srule_Rule) (cs := c_Srule_Rule) (fun _ => rfl) (fun _ => rfl) (by decide) ha1)) ?_
  refine Sim.ob1 (v := (.p (.agg (k_Srule_Rule a1)))) (by kernel_rfl) ?_
  refine Sim.bz (v := (.ptr 4 0)) (B2 := [(r_Srule_Set b0 ob0_Rules), (r_Srule_Set b1 ob1_Rules), (r_Srule_Delta b2 ob2_Put ob2_Drop), (r_Srule_Delta (Srule_Delta.mk b3_Default b3_Closed b3_Fuel b3_Stack b3_Put b3_Drop) ob3_Put ob3_Drop), (r_Srule_Rule (Srule_Rule.mk 0 0 0 0 (ByteArray.mk #[])))]) (fun _ => by kernel_rfl) ?_
  refine Sim.stN (B2 := [(r_Srule_Set b0 ob0_Rules), (r_Srule_Set b1 ob1_Rules), (r_Srule_Delta b2 ob2_Put ob2_Drop), (r_Srule_Delta (Srule_Delta.mk b3_Default b3_Closed b3_Fuel b3_Stack b3_Put b3_Drop) ob3_Put ob3_Drop), (r_Srule_Rule a1)]) (fun _ => by kernel_rfl) ?_
  refine Sim.mk ?_
  refine Sim.ob1 (v := (.p (.agg (k_Srule_Set b0 (shrO ob0_Rules))))) (by kernel_rfl) ?_
  refine Sim.ob1 (v := (.ptr 4 0)) (by kernel_rfl) ?_
  refine Sim.ob1 (v := (iv a1.ID)) (by kernel_rfl) ?_
  refine Sim.bind fun r2 hr2 => ?_
  obtain ⟨qr2, er2, exr2, rfl⟩ := g20_to (b0) (a1.ID) .sh r2 hr2
  refine Sim.callS (rs := []) (v := (.p (.tup [(.agg (k_Srule_Rule r2.1)), (.v (.bool r2.2))]))) (B2 := [(r_Srule_Set b0 ob0_Rules), (r_Srule_Set b1 ob1_Rules), (r_Srule_Delta b2 ob2_Put ob2_Drop), (r_Srule_Delta (Srule_Delta.mk b3_Default b3_Closed b3_Fuel b3_Stack b3_Put b3_Drop) ob3_Put ob3_Drop), (r_Srule_Rule a1)]) (fun _ => by kernel_rfl) er2 (fun _ => by kernel_rfl) ?_
  refine Sim.ob1 (v := (.p (.agg (k_Srule_Rule r2.1)))) (by kernel_rfl) ?_
  refine Sim.ob1 (v := (bv r2.2)) (by kernel_rfl) ?_
  refine Sim.bz (v := (.ptr 5 0)) (B2 := [(r_Srule_Set b0 ob0_Rules), (r_Srule_Set b1 ob1_Rules), (r_Srule_Delta b2 ob2_Put ob2_Drop), (r_Srule_Delta (Srule_Delta.mk b3_Default b3_Closed b3_Fuel b3_Stack b3_Put b3_Drop) ob3_Put ob3_Drop), (r_Srule_Rule a1), (r_Srule_Rule (Srule_Rule.mk 0 0 0 0 (ByteArray.mk #[])))]) (fun _ => by kernel_rfl) ?_
  refine Sim.stN (B2 := [(r_Srule_Set b0 ob0_Rules), (r_Srule_Set b1 ob1_Rules), (r_Srule_Delta b2 ob2_Put ob2_Drop), (r_Srule_Delta (Srule_Delta.mk b3_Default b3_Closed b3_Fuel b3_Stack b3_Put b3_Drop) ob3_Put ob3_Drop), (r_Srule_Rule a1), (r_Srule_Rule r2.1)]) (fun _ => by kernel_rfl) ?_
  refine Sim.mk ?_
  refine Sim.ob1 (v := (bv (!r2.2))) (by kernel_rfl) ?_
  refine Sim.asB (b := (!r2.2)) (by kernel_rfl) ?_
  refine Sim.br (fun _ => ?_) (fun _ => ?_)
  · skip
    exact Sim.cast (by kernel_rfl) (g22_r9_sim (x46) (x47) (x48) (b0) (b1) (b2) (b3_Default) (b3_Closed) (b3_Fuel) (b3_Stack) (b3_Put) (b3_Drop) (a1) ox46 ob0_Rules ob1_Rules ob2_Put ob2_Drop ob3_Put ob3_Drop hob2_Put hob2_Drop hob3_Put hob3_Drop)
  · skip
    refine Sim.ob1 (v := (.p (.agg (k_Srule_Rule r2.1)))) (by kernel_rfl) ?_
    refine Sim.ob1 (v := (.p (.agg (k_Srule_Rule a1)))) (by kernel_rfl) ?_
    refine Sim.ob1 (v := (bv (!((r2.1.ID == a1.ID) && ((r2.1.Priority == a1.Priority) && ((r2.1.Action == a1.Action) && ((r2.1.Scope == a1.Scope) && ((seq r2.1.Pattern a1.Pattern) && true)))))))) (Eq.trans (b := xbin PP .neq 43 (.p (.agg (k_Srule_Rule r2.1))) (.p (.agg (k_Srule_Rule a1)))) (by kernel_rfl) (xeq_neq (by kernel_rfl) (by kernel_rfl) (by kernel_rfl) (by kernel_rfl) (by kernel_rfl))) ?_
    refine Sim.asB (b := (!((r2.1.ID == a1.ID) && ((r2.1.Priority == a1.Priority) && ((r2.1.Action == a1.Action) && ((r2.1.Scope == a1.Scope) && ((seq r2.1.Pattern a1.Pattern) && true))))))) (by kernel_rfl) ?_
    refine Sim.br (fun _ => ?_) (fun _ => ?_)
    · skip
      exact Sim.cast (by kernel_rfl) (g22_r9_sim (x46) (x47) (x48) (b0) (b1) (b2) (b3_Default) (b3_Closed) (b3_Fuel) (b3_Stack) (b3_Put) (b3_Drop) (a1) ox46 ob0_Rules ob1_Rules ob2_Put ob2_Drop ob3_Put ob3_Drop hob2_Put hob2_Drop hob3_Put hob3_Drop)
    · skip
      exact Sim.cast (by kernel_rfl) (g22_r10_sim (x46) (x47) (x48) (b0) (b1) (b2) (b3_Default) (b3_Closed) (b3_Fuel) (b3_Stack) (b3_Put) (b3_Drop) ox46 ob0_Rules ob1_Rules ob2_Put ob2_Drop ob3_Put ob3_Drop hob2_Put hob2_Drop hob3_Put hob3_Drop)
noncomputable def b22_r11 (b0 : Srule_Set) (b1 : Srule_Set) (b3_Default : Int) (b3_Closed : Int) (b3_Fuel : Int) (b3_Stack : Int) (b3_Put : List Srule_Rule) (b3_Drop : List Int) : Option (Srule_Delta × Int) :=
 g22_l12 b0.Rules ((b0.Rules.length : Int)) 0 b1 b3_Default b3_Closed b3_Fuel b3_Stack b3_Put b3_Drop
theorem g22_r11_sim (b0 : Srule_Set) (b1 : Srule_Set) (b2 : Srule_Delta) (b3_Default : Int) (b3_Closed : Int) (b3_Fuel : Int) (b3_Stack : Int) (b3_Put : List Srule_Rule) (b3_Drop : List Int) (ob0_Rules : Own) (ob1_Rules : Own) (ob2_Put : Own) (ob2_Drop : Own) (ob3_Put : Own) (ob3_Drop : Own) (hob2_Put : okApp ob2_Put = true) (hob2_Drop : okApp ob2_Drop = true) (hob3_Put : okApp ob3_Put = true) (hob3_Drop : okApp ob3_Drop = true) : Sim (Q22) (b22_r11 b0 b1 b3_Default b3_Closed b3_Fuel b3_Stack b3_Put b3_Drop) (f22_r11 0 (.ptr 0 0) (.ptr 1 0) (.ptr 2 0) (.ptr 3 0) [(r_Srule_Set b0 ob0_Rules), (r_Srule_Set b1 ob1_Rules), (r_Srule_Delta b2 ob2_Put ob2_Drop), (r_Srule_Delta (Srule_Delta.mk b3_Default b3_Closed b3_Fuel b3_Stack b3_Put b3_Drop) ob3_Put ob3_Drop)]) := by
  unfold b22_r11
  refine Sim.cast (f22_r11_eq _ _ _ _ _ _) ?_
  refine Sim.mk ?_
  refine Sim.ob1 (v := (.ptr 0 4)) (by kernel_rfl) ?_
  refine Sim.ob1 (v := (.p (.lst (shrO ob0_Rules) (b0.Rules.map e_Srule_Rule)))) (by kernel_rfl) ?_
  refine Sim.ob1 (v := (iv (b0.Rules.length : Int))) (Eq.trans (by kernel_rfl) (xlen_of (P := PP) (t := 22) (d := 43) (by kernel_rfl) e_Srule_Rule (shrO ob0_Rules) b0.Rules)) ?_
  exact Sim.cast (by kernel_rfl) (g22_l12_to (b0.Rules) ((b0.Rules.length : Int)) (0) (b0) (b1) (b2) (b3_Default) (b3_Closed) (b3_Fuel) (b3_Stack) (b3_Put) (b3_Drop) (shrO ob0_Rules) ob0_Rules ob1_Rules ob2_Put ob2_Drop ob3_Put ob3_Drop hob2_Put hob2_Drop hob3_Put hob3_Drop)
noncomputable def b22_l5 (x46 : List Srule_Rule) (x47 : Int) (x48 : Int) (b0 : Srule_Set) (b1 : Srule_Set) (b3_Default : Int) (b3_Closed : Int) (b3_Fuel : Int) (b3_Stack : Int) (b3_Put : List Srule_Rule) (b3_Drop : List Int) : Option (Srule_Delta × Int) :=
 if ((decide (x48 < x47))) = true then
 (b22_r6 x46 x47 x48 b0 b1 b3_Default b3_Closed b3_Fuel b3_Stack b3_Put b3_Drop)
 else
 (b22_r11 b0 b1 b3_Default b3_Closed b3_Fuel b3_Stack b3_Put b3_Drop)
theorem g22_l5_sim (x46 : List Srule_Rule) (x47 : Int) (x48 : Int) (b0 : Srule_Set) (b1 : Srule_Set) (b2 : Srule_Delta) (b3_Default : Int) (b3_Closed : Int) (b3_Fuel : Int) (b3_Stack : Int) (b3_Put : List Srule_Rule) (b3_Drop : List Int) (ox46 : Own) (ob0_Rules : Own) (ob1_Rules : Own) (ob2_Put : Own) (ob2_Drop : Own) (ob3_Put : Own) (ob3_Drop : Own) (hob2_Put : okApp ob2_Put = true) (hob2_Drop : okApp ob2_Drop = true) (hob3_Put : okApp ob3_Put = true) (hob3_Drop : okApp ob3_Drop = true) : Sim (Q22) (b22_l5 x46 x47 x48 b0 b1 b3_Default b3_Closed b3_Fuel b3_Stack b3_Put b3_Drop) (f22_l5 0 (.ptr 0 0) (.ptr 1 0) (.ptr 2 0) (.ptr 3 0) (.p (.lst ox46 (x46.map e_Srule_Rule))) (iv x47) (iv x48) [(r_Srule_Set b0 ob0_Rules), (r_Srule_Set b1 ob1_Rules), (r_Srule_Delta b2 ob2_Put ob2_Drop), (r_Srule_Delta (Srule_Delta.mk b3_Default b3_Closed b3_Fuel b3_Stack b3_Put b3_Drop) ob3_Put ob3_Drop)]) := by
  unfold b22_l5
  refine Sim.cast (f22_l5_eq _ _ _ _ _ _ _ _ _) ?_
  refine Sim.mk ?_
  refine Sim.ob1 (v := (bv (decide (x48 < x47)))) (by kernel_rfl) ?_
  refine Sim.asB (b := (decide (x48 < x47))) (by kernel_rfl) ?_
  refine Sim.br (fun _ => ?_) (fun _ => ?_)
  · skip
    exact Sim.cast (by kernel_rfl) (g22_r6_sim (x46) (x47) (x48) (b0) (b1) (b2) (b3_Default) (b3_Closed) (b3_Fuel) (b3_Stack) (b3_Put) (b3_Drop) ox46 ob0_Rules ob1_Rules ob2_Put ob2_Drop ob3_Put ob3_Drop hob2_Put hob2_Drop hob3_Put hob3_Drop)
  · skip
    exact Sim.cast (by kernel_rfl) (g22_r11_sim (b0) (b1) (b2) (b3_Default) (b3_Closed) (b3_Fuel) (b3_Stack) (b3_Put) (b3_Drop) ob0_Rules ob1_Rules ob2_Put ob2_Drop ob3_Put ob3_Drop hob2_Put hob2_Drop hob3_Put hob3_Drop)
theorem g22_l5_of (x46 : List Srule_Rule) (x47 : Int) (x48 : Int) (b0 : Srule_Set) (b1 : Srule_Set) (b3_Default : Int) (b3_Closed : Int) (b3_Fuel : Int) (b3_Stack : Int) (b3_Put : List Srule_Rule) (b3_Drop : List Int) {r} (h : b22_l5 x46 x47 x48 b0 b1 b3_Default b3_Closed b3_Fuel b3_Stack b3_Put b3_Drop = some r) : g22_l5 x46 x47 x48 b0 b1 b3_Default b3_Closed b3_Fuel b3_Stack b3_Put b3_Drop = some r :=
  pick_of (fun _ _ ha hb => RRun.uniq (Q22_u) (ha default .ex .ex .ex .ex .ex .ex .ex rfl rfl rfl rfl) (hb default .ex .ex .ex .ex .ex .ex .ex rfl rfl rfl rfl)) (fun b2 ox46 ob0_Rules ob1_Rules ob2_Put ob2_Drop ob3_Put ob3_Drop hob2_Put hob2_Drop hob3_Put hob3_Drop => g22_l5_sim x46 x47 x48 b0 b1 b2 b3_Default b3_Closed b3_Fuel b3_Stack b3_Put b3_Drop ox46 ob0_Rules ob1_Rules ob2_Put ob2_Drop ob3_Put ob3_Drop hob2_Put hob2_Drop hob3_Put hob3_Drop r h)
noncomputable def b22_r17 (x74 : List Srule_Rule) (x75 : Int) (x76 : Int) (b1 : Srule_Set) (b3_Default : Int) (b3_Closed : Int) (b3_Fuel : Int) (b3_Stack : Int) (b3_Put : List Srule_Rule) (b3_Drop : List Int) : Option (Srule_Delta × Int) :=
 g22_l12 x74 x75 ((IntKind.i64.wrap (x76 + 1))) b1 b3_Default b3_Closed b3_Fuel b3_Stack b3_Put b3_Drop
theorem g22_r17_sim (x74 : List Srule_Rule) (x75 : Int) (x76 : Int) (b0 : Srule_Set) (b1 : Srule_Set) (b2 : Srule_Delta) (b3_Default : Int) (b3_Closed : Int) (b3_Fuel : Int) (b3_Stack : Int) (b3_Put : List Srule_Rule) (b3_Drop : List Int) (ox74 : Own) (ob0_Rules : Own) (ob1_Rules : Own) (ob2_Put : Own) (ob2_Drop : Own) (ob3_Put : Own) (ob3_Drop : Own) (hob2_Put : okApp ob2_Put = true) (hob2_Drop : okApp ob2_Drop = true) (hob3_Put : okApp ob3_Put = true) (hob3_Drop : okApp ob3_Drop = true) : Sim (Q22) (b22_r17 x74 x75 x76 b1 b3_Default b3_Closed b3_Fuel b3_Stack b3_Put b3_Drop) (f22_r17 0 (.ptr 1 0) (.ptr 2 0) (.ptr 3 0) (.p (.lst ox74 (x74.map e_Srule_Rule))) (iv x75) (iv x76) [(r_Srule_Set b0 ob0_Rules), (r_Srule_Set b1 ob1_Rules), (r_Srule_Delta b2 ob2_Put ob2_Drop), (r_Srule_Delta (Srule_Delta.mk b3_Default b3_Closed b3_Fuel b3_Stack b3_Put b3_Drop) ob3_Put ob3_Drop)]) := by
  unfold b22_r17
  refine Sim.cast (f22_r17_eq _ _ _ _ _ _ _ _) ?_
  refine Sim.mk ?_
  refine Sim.ob1 (v := (iv (IntKind.i64.wrap (x76 + 1)))) (by kernel_rfl) ?_
  exact Sim.cast (by kernel_rfl) (g22_l12_to (x74) (x75) ((IntKind.i64.wrap (x76 + 1))) (b0) (b1) (b2) (b3_Default) (b3_Closed) (b3_Fuel) (b3_Stack) (b3_Put) (b3_Drop) ox74 ob0_Rules ob1_Rules ob2_Put ob2_Drop ob3_Put ob3_Drop hob2_Put hob2_Drop hob3_Put hob3_Drop)
noncomputable def b22_r13 (x74 : List Srule_Rule) (x75 : Int) (x76 : Int) (b1 : Srule_Set) (b3_Default : Int) (b3_Closed : Int) (b3_Fuel : Int) (b3_Stack : Int) (b3_Put : List Srule_Rule) (b3_Drop : List Int) : Option (Srule_Delta × Int) :=
 (lget x74 x76).bind fun a1 =>
 (g20 b1 a1.ID).bind fun r2 =>
 if ((!r2.2)) = true then
 ((lapp b3_Drop ([a1.ID] : List Int)).bind fun a3 =>
 b22_r17 x74 x75 x76 b1 b3_Default b3_Closed b3_Fuel b3_Stack b3_Put a3)
 else
 (b22_r17 x74 x75 x76 b1 b3_Default b3_Closed b3_Fuel b3_Stack b3_Put b3_Drop)
theorem g22_r13_sim (x74 : List Srule_Rule) (x75 : Int) (x76 : Int) (b0 : Srule_Set) (b1 : Srule_Set) (b2 : Srule_Delta) (b3_Default : Int) (b3_Closed : Int) (b3_Fuel : Int) (b3_Stack : Int) (b3_Put : List Srule_Rule) (b3_Drop : List Int) (ox74 : Own) (ob0_Rules : Own) (ob1_Rules : Own) (ob2_Put : Own) (ob2_Drop : Own) (ob3_Put : Own) (ob3_Drop : Own) (hob2_Put : okApp ob2_Put = true) (hob2_Drop : okApp ob2_Drop = true) (hob3_Put : okApp ob3_Put = true) (hob3_Drop : okApp ob3_Drop = true) : Sim (Q22) (b22_r13 x74 x75 x76 b1 b3_Default b3_Closed b3_Fuel b3_Stack b3_Put b3_Drop) (f22_r13 0 (.ptr 1 0) (.ptr 2 0) (.ptr 3 0) (.p (.lst ox74 (x74.map e_Srule_Rule))) (iv x75) (iv x76) [(r_Srule_Set b0 ob0_Rules), (r_Srule_Set b1 ob1_Rules), (r_Srule_Delta b2 ob2_Put ob2_Drop), (r_Srule_Delta (Srule_Delta.mk b3_Default b3_Closed b3_Fuel b3_Stack b3_Put b3_Drop) ob3_Put ob3_Drop)]) := by
  unfold b22_r13
  refine Sim.cast (f22_r13_eq _ _ _ _ _ _ _ _) ?_
  refine Sim.mk ?_
  refine Sim.bind fun a1 ha1 => ?_
  refine Sim.ob1 (v := (.cptr (k_Srule_Rule a1))) (Eq.trans (by kernel_rfl) (xidx_of (o := ox74) (k := .i64) (n := 5) (e := e_Srule_Rule) (cs := c_Srule_Rule) (fun _ => rfl) (fun _ => rfl) (by decide) ha1)) ?_
  refine Sim.ob1 (v := (.p (.agg (k_Srule_Rule a1)))) (by kernel_rfl) ?_
  refine Sim.bz (v := (.ptr 4 0)) (B2 := [(r_Srule_Set b0 ob0_Rules), (r_Srule_Set b1 ob1_Rules), (r_Srule_Delta b2 ob2_Put ob2_Drop), (r_Srule_Delta (Srule_Delta.mk b3_Default b3_Closed b3_Fuel b3_Stack b3_Put b3_Drop) ob3_Put ob3_Drop), (r_Srule_Rule (Srule_Rule.mk 0 0 0 0 (ByteArray.mk #[])))]) (fun _ => by kernel_rfl) ?_
  refine Sim.stN (B2 := [(r_Srule_Set b0 ob0_Rules), (r_Srule_Set b1 ob1_Rules), (r_Srule_Delta b2 ob2_Put ob2_Drop), (r_Srule_Delta (Srule_Delta.mk b3_Default b3_Closed b3_Fuel b3_Stack b3_Put b3_Drop) ob3_Put ob3_Drop), (r_Srule_Rule a1)]) (fun _ => by kernel_rfl) ?_
  refine Sim.mk ?_
  refine Sim.ob1 (v := (.p (.agg (k_Srule_Set b1 (shrO ob1_Rules))))) (by kernel_rfl) ?_
  refine Sim.ob1 (v := (.ptr 4 0)) (by kernel_rfl) ?_
  refine Sim.ob1 (v := (iv a1.ID)) (by kernel_rfl) ?_
  refine Sim.bind fun r2 hr2 => ?_
  obtain ⟨qr2, er2, exr2, rfl⟩ := g20_to (b1) (a1.ID) .sh r2 hr2
  refine Sim.callS (rs := []) (v := (.p (.tup [(.agg (k_Srule_Rule r2.1)), (.v (.bool r2.2))]))) (B2 := [(r_Srule_Set b0 ob0_Rules), (r_Srule_Set b1 ob1_Rules), (r_Srule_Delta b2 ob2_Put ob2_Drop), (r_Srule_Delta (Srule_Delta.mk b3_Default b3_Closed b3_Fuel b3_Stack b3_Put b3_Drop) ob3_Put ob3_Drop), (r_Srule_Rule a1)]) (fun _ => by kernel_rfl) er2 (fun _ => by kernel_rfl) ?_
  refine Sim.ob1 (v := (.p (.agg (k_Srule_Rule r2.1)))) (by kernel_rfl) ?_
  refine Sim.ob1 (v := (bv r2.2)) (by kernel_rfl) ?_
  refine Sim.bz (v := (.ptr 5 0)) (B2 := [(r_Srule_Set b0 ob0_Rules), (r_Srule_Set b1 ob1_Rules), (r_Srule_Delta b2 ob2_Put ob2_Drop), (r_Srule_Delta (Srule_Delta.mk b3_Default b3_Closed b3_Fuel b3_Stack b3_Put b3_Drop) ob3_Put ob3_Drop), (r_Srule_Rule a1), (r_Srule_Rule (Srule_Rule.mk 0 0 0 0 (ByteArray.mk #[])))]) (fun _ => by kernel_rfl) ?_
  refine Sim.stN (B2 := [(r_Srule_Set b0 ob0_Rules), (r_Srule_Set b1 ob1_Rules), (r_Srule_Delta b2 ob2_Put ob2_Drop), (r_Srule_Delta (Srule_Delta.mk b3_Default b3_Closed b3_Fuel b3_Stack b3_Put b3_Drop) ob3_Put ob3_Drop), (r_Srule_Rule a1), (r_Srule_Rule r2.1)]) (fun _ => by kernel_rfl) ?_
  refine Sim.mk ?_
  refine Sim.ob1 (v := (bv (!r2.2))) (by kernel_rfl) ?_
  refine Sim.asB (b := (!r2.2)) (by kernel_rfl) ?_
  refine Sim.br (fun _ => ?_) (fun _ => ?_)
  · skip
    refine Sim.mk ?_
    refine Sim.ob1 (v := (.ptr 3 5)) (by kernel_rfl) ?_
    refine Sim.ldOwn (v := (.p (.lst ob3_Drop (b3_Drop.map (eI .i64))))) (B2 := [(r_Srule_Set b0 ob0_Rules), (r_Srule_Set b1 ob1_Rules), (r_Srule_Delta b2 ob2_Put ob2_Drop), (r_Srule_Delta (Srule_Delta.mk b3_Default b3_Closed b3_Fuel b3_Stack b3_Put b3_Drop) ob3_Put (shrO ob3_Drop)), (r_Srule_Rule a1), (r_Srule_Rule r2.1)]) (fun _ => by kernel_rfl) ?_
    refine Sim.ob1 (v := (.ptr 4 0)) (by kernel_rfl) ?_
    refine Sim.ob1 (v := (iv a1.ID)) (by kernel_rfl) ?_
    refine Sim.ob1 (v := (.p (.lst .ex (([a1.ID] : List Int).map (eI .i64))))) (by kernel_rfl) ?_
    refine Sim.bind fun a3 ha3 => ?_
    refine Sim.ob1 (v := (.p (.lst .un (a3.map (eI .i64))))) (Eq.trans (by kernel_rfl) <| xapp_of (n := 1) (o := ob3_Drop) (o' := .ex) (e := (eI .i64)) (ys := ([a1.ID] : List Int)) (fun _ => rfl) (by decide) hob3_Drop ha3) ?_
    refine Sim.ob1 (v := (.ptr 3 5)) (by kernel_rfl) ?_
    refine Sim.stN (B2 := [(r_Srule_Set b0 ob0_Rules), (r_Srule_Set b1 ob1_Rules), (r_Srule_Delta b2 ob2_Put ob2_Drop), (r_Srule_Delta (Srule_Delta.mk b3_Default b3_Closed b3_Fuel b3_Stack b3_Put a3) ob3_Put .un), (r_Srule_Rule a1), (r_Srule_Rule r2.1)]) (fun _ => by kernel_rfl) ?_
    exact Sim.cast (by kernel_rfl) (g22_r17_sim (x74) (x75) (x76) (b0) (b1) (b2) (b3_Default) (b3_Closed) (b3_Fuel) (b3_Stack) (b3_Put) (a3) ox74 ob0_Rules ob1_Rules ob2_Put ob2_Drop ob3_Put .un hob2_Put hob2_Drop hob3_Put rfl)
  · skip
    exact Sim.cast (by kernel_rfl) (g22_r17_sim (x74) (x75) (x76) (b0) (b1) (b2) (b3_Default) (b3_Closed) (b3_Fuel) (b3_Stack) (b3_Put) (b3_Drop) ox74 ob0_Rules ob1_Rules ob2_Put ob2_Drop ob3_Put ob3_Drop hob2_Put hob2_Drop hob3_Put hob3_Drop)
noncomputable def b22_r18 (b3_Default : Int) (b3_Closed : Int) (b3_Fuel : Int) (b3_Stack : Int) (b3_Put : List Srule_Rule) (b3_Drop : List Int) : Option (Srule_Delta × Int) :=
 some ((Srule_Delta.mk b3_Default b3_Closed b3_Fuel b3_Stack b3_Put b3_Drop), 0)
theorem g22_r18_sim (b0 : Srule_Set) (b1 : Srule_Set) (b2 : Srule_Delta) (b3_Default : Int) (b3_Closed : Int) (b3_Fuel : Int) (b3_Stack : Int) (b3_Put : List Srule_Rule) (b3_Drop : List Int) (ob0_Rules : Own) (ob1_Rules : Own) (ob2_Put : Own) (ob2_Drop : Own) (ob3_Put : Own) (ob3_Drop : Own) (hob2_Put : okApp ob2_Put = true) (hob2_Drop : okApp ob2_Drop = true) (hob3_Put : okApp ob3_Put = true) (hob3_Drop : okApp ob3_Drop = true) : Sim (Q22) (b22_r18 b3_Default b3_Closed b3_Fuel b3_Stack b3_Put b3_Drop) (f22_r18 0 (.ptr 2 0) (.ptr 3 0) [(r_Srule_Set b0 ob0_Rules), (r_Srule_Set b1 ob1_Rules), (r_Srule_Delta b2 ob2_Put ob2_Drop), (r_Srule_Delta (Srule_Delta.mk b3_Default b3_Closed b3_Fuel b3_Stack b3_Put b3_Drop) ob3_Put ob3_Drop)]) := by
  unfold b22_r18
  refine Sim.cast (f22_r18_eq _ _ _ _) ?_
  refine Sim.mk ?_
  refine Sim.ob1 (v := (.p (.agg (k_Srule_Delta (Srule_Delta.mk b3_Default b3_Closed b3_Fuel b3_Stack b3_Put b3_Drop) (shrO ob3_Put) (shrO ob3_Drop))))) (by kernel_rfl) ?_
  refine Sim.stN (B2 := [(r_Srule_Set b0 ob0_Rules), (r_Srule_Set b1 ob1_Rules), (r_Srule_Delta (Srule_Delta.mk b3_Default b3_Closed b3_Fuel b3_Stack b3_Put b3_Drop) (shrO ob3_Put) (shrO ob3_Drop)), (r_Srule_Delta (Srule_Delta.mk b3_Default b3_Closed b3_Fuel b3_Stack b3_Put b3_Drop) ob3_Put ob3_Drop)]) (fun _ => by kernel_rfl) ?_
  exact Sim.cast (y' := some ((.p (.tup [(.agg (k_Srule_Delta (Srule_Delta.mk b3_Default b3_Closed b3_Fuel b3_Stack b3_Put b3_Drop) .sh .sh)), (.v (.int .i64 0))])), [(r_Srule_Set b0 ob0_Rules), (r_Srule_Set b1 ob1_Rules), (r_Srule_Delta (Srule_Delta.mk b3_Default b3_Closed b3_Fuel b3_Stack b3_Put b3_Drop) (shrO ob3_Put) (shrO ob3_Drop)), (r_Srule_Delta (Srule_Delta.mk b3_Default b3_Closed b3_Fuel b3_Stack b3_Put b3_Drop) ob3_Put ob3_Drop)])) (by kernel_rfl) (Sim.ret ⟨[(r_Srule_Set b0 ob0_Rules), (r_Srule_Set b1 ob1_Rules), (r_Srule_Delta (Srule_Delta.mk b3_Default b3_Closed b3_Fuel b3_Stack b3_Put b3_Drop) (shrO ob3_Put) (shrO ob3_Drop)), (r_Srule_Delta (Srule_Delta.mk b3_Default b3_Closed b3_Fuel b3_Stack b3_Put b3_Drop) ob3_Put ob3_Drop)], by kernel_rfl⟩)
noncomputable def b22_l12 (x74 : List Srule_Rule) (x75 : Int) (x76 : Int) (b1 : Srule_Set) (b3_Default : Int) (b3_Closed : Int) (b3_Fuel : Int) (b3_Stack : Int) (b3_Put : List Srule_Rule) (b3_Drop : List Int) : Option (Srule_Delta × Int) :=
 if ((decide (x76 < x75))) = true then
 (b22_r13 x74 x75 x76 b1 b3_Default b3_Closed b3_Fuel b3_Stack b3_Put b3_Drop)
 else
 (b22_r18 b3_Default b3_Closed b3_Fuel b3_Stack b3_Put b3_Drop)
theorem g22_l12_sim (x74 : List Srule_Rule) (x75 : Int) (x76 : Int) (b0 : Srule_Set) (b1 : Srule_Set) (b2 : Srule_Delta) (b3_Default : Int) (b3_Closed : Int) (b3_Fuel : Int) (b3_Stack : Int) (b3_Put : List Srule_Rule) (b3_Drop : List Int) (ox74 : Own) (ob0_Rules : Own) (ob1_Rules : Own) (ob2_Put : Own) (ob2_Drop : Own) (ob3_Put : Own) (ob3_Drop : Own) (hob2_Put : okApp ob2_Put = true) (hob2_Drop : okApp ob2_Drop = true) (hob3_Put : okApp ob3_Put = true) (hob3_Drop : okApp ob3_Drop = true) : Sim (Q22) (b22_l12 x74 x75 x76 b1 b3_Default b3_Closed b3_Fuel b3_Stack b3_Put b3_Drop) (f22_l12 0 (.ptr 1 0) (.ptr 2 0) (.ptr 3 0) (.p (.lst ox74 (x74.map e_Srule_Rule))) (iv x75) (iv x76) [(r_Srule_Set b0 ob0_Rules), (r_Srule_Set b1 ob1_Rules), (r_Srule_Delta b2 ob2_Put ob2_Drop), (r_Srule_Delta (Srule_Delta.mk b3_Default b3_Closed b3_Fuel b3_Stack b3_Put b3_Drop) ob3_Put ob3_Drop)]) := by
  unfold b22_l12
  refine Sim.cast (f22_l12_eq _ _ _ _ _ _ _ _) ?_
  refine Sim.mk ?_
  refine Sim.ob1 (v := (bv (decide (x76 < x75)))) (by kernel_rfl) ?_
  refine Sim.asB (b := (decide (x76 < x75))) (by kernel_rfl) ?_
  refine Sim.br (fun _ => ?_) (fun _ => ?_)
  · skip
    exact Sim.cast (by kernel_rfl) (g22_r13_sim (x74) (x75) (x76) (b0) (b1) (b2) (b3_Default) (b3_Closed) (b3_Fuel) (b3_Stack) (b3_Put) (b3_Drop) ox74 ob0_Rules ob1_Rules ob2_Put ob2_Drop ob3_Put ob3_Drop hob2_Put hob2_Drop hob3_Put hob3_Drop)
  · skip
    exact Sim.cast (by kernel_rfl) (g22_r18_sim (b0) (b1) (b2) (b3_Default) (b3_Closed) (b3_Fuel) (b3_Stack) (b3_Put) (b3_Drop) ob0_Rules ob1_Rules ob2_Put ob2_Drop ob3_Put ob3_Drop hob2_Put hob2_Drop hob3_Put hob3_Drop)
theorem g22_l12_of (x74 : List Srule_Rule) (x75 : Int) (x76 : Int) (b1 : Srule_Set) (b3_Default : Int) (b3_Closed : Int) (b3_Fuel : Int) (b3_Stack : Int) (b3_Put : List Srule_Rule) (b3_Drop : List Int) {r} (h : b22_l12 x74 x75 x76 b1 b3_Default b3_Closed b3_Fuel b3_Stack b3_Put b3_Drop = some r) : g22_l12 x74 x75 x76 b1 b3_Default b3_Closed b3_Fuel b3_Stack b3_Put b3_Drop = some r :=
  pick_of (fun _ _ ha hb => RRun.uniq (Q22_u) (ha default default .ex .ex .ex .ex .ex .ex .ex rfl rfl rfl rfl) (hb default default .ex .ex .ex .ex .ex .ex .ex rfl rfl rfl rfl)) (fun b0 b2 ox74 ob0_Rules ob1_Rules ob2_Put ob2_Drop ob3_Put ob3_Drop hob2_Put hob2_Drop hob3_Put hob3_Drop => g22_l12_sim x74 x75 x76 b0 b1 b2 b3_Default b3_Closed b3_Fuel b3_Stack b3_Put b3_Drop ox74 ob0_Rules ob1_Rules ob2_Put ob2_Drop ob3_Put ob3_Drop hob2_Put hob2_Drop hob3_Put hob3_Drop r h)
/-! "colander/rule.unlike": g38 -/
noncomputable def b38_r3 (x1 : Int) : Option (Int) :=
 some (x1)
theorem g38_r3_sim (x1 : Int) : Sim (Q38) (b38_r3 x1) (f38_r3 0 (iv x1) []) := by
  unfold b38_r3
  refine Sim.cast (f38_r3_eq _ _ _) ?_
  refine Sim.mk ?_
  exact Sim.cast (y' := some ((iv x1), [])) (by kernel_rfl) (Sim.ret ⟨[], by kernel_rfl⟩)
noncomputable def b38 (x0 : Int) (x1 : Int) : Option (Int) :=
 if ((x0 == x1)) = true then
 (some ((-1)))
 else
 (b38_r3 x1)
theorem g38_sim (x0 : Int) (x1 : Int) : Sim (Q38) (b38 x0 x1) (EE 38 [(iv x0), (iv x1)] []) := by
  unfold b38
  refine Sim.cast (f38_eq _ _ _) ?_
  refine Sim.mk ?_
  refine Sim.mk ?_
  refine Sim.ob1 (v := (bv (x0 == x1))) (by kernel_rfl) ?_
  refine Sim.asB (b := (x0 == x1)) (by kernel_rfl) ?_
  refine Sim.br (fun _ => ?_) (fun _ => ?_)
  · skip
    refine Sim.mk ?_
    exact Sim.cast (y' := some ((iv (-1)), [])) (by kernel_rfl) (Sim.ret ⟨[], by kernel_rfl⟩)
  · skip
    exact Sim.cast (by kernel_rfl) (g38_r3_sim (x1))
theorem g38_of (x0 : Int) (x1 : Int) {r} (h : b38 x0 x1 = some r) : g38 x0 x1 = some r :=
  pick_of (fun _ _ ha hb => RRun.uniq (Q38_u) (ha ) (hb )) (g38_sim x0 x1 r h)
/-! "colander/colanderlaw07.RuleOrders": g9 -/
noncomputable def b9_r11 (x5 : List Int) (x6 : List Int) : Option (Bool) :=
 g9_l12 x6 x5 ((x5.length : Int)) 0
theorem g9_r11_sim (x5 : List Int) (x6 : List Int) (ox5 : Own) (ox6 : Own) : Sim (Q9) (b9_r11 x5 x6) (f9_r11 0 (.p (.lst ox5 (x5.map (eI .i64)))) (.p (.lst ox6 (x6.map (eI .i64)))) []) := by
  unfold b9_r11
  refine Sim.cast (f9_r11_eq _ _ _ _) ?_
  refine Sim.mk ?_
  refine Sim.ob1 (v := (iv (x5.length : Int))) (Eq.trans (by kernel_rfl) (xlen_of (P := PP) (t := 25) (d := 3) (by kernel_rfl) (eI .i64) (shrO ox5) x5)) ?_
  exact Sim.cast (by kernel_rfl) (g9_l12_to (x6) (x5) ((x5.length : Int)) (0) ox6 (shrO ox5))
noncomputable def b9_r8 (x1 : Int) (x5 : List Int) (b0 : Srule_Set) : Option (Bool) :=
 (g14 b0).bind fun r1 =>
 (g24 r1 x1).bind fun r2 =>
 if (((x5.length : Int) != (r2.length : Int))) = true then
 (some (false))
 else
 (b9_r11 x5 r2)
theorem g9_r8_sim (x1 : Int) (x5 : List Int) (b0 : Srule_Set) (ox5 : Own) (ob0_Rules : Own) : Sim (Q9) (b9_r8 x1 x5 b0) (f9_r8 0 (iv x1) (.ptr 0 0) (.p (.lst ox5 (x5.map (eI .i64)))) [(r_Srule_Set b0 ob0_Rules)]) := by
  unfold b9_r8
  refine Sim.cast (f9_r8_eq _ _ _ _ _) ?_
  refine Sim.mk ?_
  refine Sim.ob1 (v := (.p (.agg (k_Srule_Set b0 (shrO ob0_Rules))))) (by kernel_rfl) ?_
  refine Sim.bind fun r1 hr1 => ?_
  obtain ⟨qr1, er1, exr1, rfl⟩ := g14_to (b0) .sh r1 hr1
  refine Sim.callS (rs := []) (v := (.p (.agg (k_Scolanderref07_Set r1 .sh)))) (B2 := [(r_Srule_Set b0 ob0_Rules)]) (fun _ => by kernel_rfl) er1 (fun _ => by kernel_rfl) ?_
  refine Sim.bind fun r2 hr2 => ?_
  obtain ⟨qr2, er2, exr2, rfl⟩ := g24_to (r1) (x1) .sh r2 hr2
  refine Sim.callS (rs := []) (v := (.p (.lst .sh (r2.map (eI .i64))))) (B2 := [(r_Srule_Set b0 ob0_Rules)]) (fun _ => by kernel_rfl) er2 (fun _ => by kernel_rfl) ?_
  refine Sim.mk ?_
  refine Sim.ob1 (v := (iv (x5.length : Int))) (Eq.trans (by kernel_rfl) (xlen_of (P := PP) (t := 25) (d := 3) (by kernel_rfl) (eI .i64) (shrO ox5) x5)) ?_
  refine Sim.ob1 (v := (iv (r2.length : Int))) (Eq.trans (by kernel_rfl) (xlen_of (P := PP) (t := 25) (d := 3) (by kernel_rfl) (eI .i64) .sh r2)) ?_
  refine Sim.ob1 (v := (bv ((x5.length : Int) != (r2.length : Int)))) (by kernel_rfl) ?_
  refine Sim.asB (b := ((x5.length : Int) != (r2.length : Int))) (by kernel_rfl) ?_
  refine Sim.br (fun _ => ?_) (fun _ => ?_)
  · skip
    refine Sim.mk ?_
    exact Sim.cast (y' := some ((bv false), [(r_Srule_Set b0 ob0_Rules)])) (by kernel_rfl) (Sim.ret ⟨[(r_Srule_Set b0 ob0_Rules)], by kernel_rfl⟩)
  · skip
    exact Sim.cast (by kernel_rfl) (g9_r11_sim (x5) (r2) ox5 .sh)
noncomputable def b9_r5 (x1 : Int) (b0 : Srule_Set) : Option (Bool) :=
 (g23 b0 x1).bind fun r1 =>
 (g14 b0).bind fun r2 =>
 (g19 r2).bind fun r3 =>
 if ((!r3)) = true then
 (some (((r1.length : Int) == 0)))
 else
 (b9_r8 x1 r1 b0)
theorem g9_r5_sim (x1 : Int) (b0 : Srule_Set) (ob0_Rules : Own) : Sim (Q9) (b9_r5 x1 b0) (f9_r5 0 (iv x1) (.ptr 0 0) [(r_Srule_Set b0 ob0_Rules)]) := by
  unfold b9_r5
  refine Sim.cast (f9_r5_eq _ _ _ _) ?_
  refine Sim.mk ?_
  refine Sim.ob1 (v := (.p (.agg (k_Srule_Set b0 (shrO ob0_Rules))))) (by kernel_rfl) ?_
  refine Sim.bind fun r1 hr1 => ?_
  obtain ⟨qr1, er1, exr1, rfl⟩ := g23_to (b0) (x1) .sh r1 hr1
  refine Sim.callS (rs := []) (v := (.p (.lst .sh (r1.map (eI .i64))))) (B2 := [(r_Srule_Set b0 ob0_Rules)]) (fun _ => by kernel_rfl) er1 (fun _ => by kernel_rfl) ?_
  refine Sim.mk ?_
  refine Sim.ob1 (v := (.p (.agg (k_Srule_Set b0 (shrO ob0_Rules))))) (by kernel_rfl) ?_
  refine Sim.bind fun r2 hr2 => ?_
  obtain ⟨qr2, er2, exr2, rfl⟩ := g14_to (b0) .sh r2 hr2
  refine Sim.callS (rs := []) (v := (.p (.agg (k_Scolanderref07_Set r2 .sh)))) (B2 := [(r_Srule_Set b0 ob0_Rules)]) (fun _ => by kernel_rfl) er2 (fun _ => by kernel_rfl) ?_
  refine Sim.bind fun r3 hr3 => ?_
  obtain ⟨qr3, er3, exr3, rfl⟩ := g19_to (r2) .sh r3 hr3
  refine Sim.callS (rs := []) (v := (bv r3)) (B2 := [(r_Srule_Set b0 ob0_Rules)]) (fun _ => by kernel_rfl) er3 (fun _ => by kernel_rfl) ?_
  refine Sim.ob1 (v := (bv (!r3))) (by kernel_rfl) ?_
  refine Sim.asB (b := (!r3)) (by kernel_rfl) ?_
  refine Sim.br (fun _ => ?_) (fun _ => ?_)
  · skip
    refine Sim.mk ?_
    refine Sim.ob1 (v := (iv (r1.length : Int))) (Eq.trans (by kernel_rfl) (xlen_of (P := PP) (t := 25) (d := 3) (by kernel_rfl) (eI .i64) .sh r1)) ?_
    refine Sim.ob1 (v := (bv ((r1.length : Int) == 0))) (by kernel_rfl) ?_
    exact Sim.cast (y' := some ((bv ((r1.length : Int) == 0)), [(r_Srule_Set b0 ob0_Rules)])) (by kernel_rfl) (Sim.ret ⟨[(r_Srule_Set b0 ob0_Rules)], by kernel_rfl⟩)
  · skip
    exact Sim.cast (by kernel_rfl) (g9_r8_sim (x1) (r1) (b0) .sh ob0_Rules)
noncomputable def b9_r3 (x1 : Int) (b0 : Srule_Set) : Option (Bool) :=
 (g11 b0 ((Srule_Delta.mk 0 0 0 0 ([] : List Srule_Rule) ([] : List Int)))).bind fun r1 =>
 if ((!r1)) = true then
 (some (true))
 else
 (b9_r5 x1 b0)
theorem g9_r3_sim (x1 : Int) (b0 : Srule_Set) (ob0_Rules : Own) : Sim (Q9) (b9_r3 x1 b0) (f9_r3 0 (iv x1) (.ptr 0 0) [(r_Srule_Set b0 ob0_Rules)]) := by
  unfold b9_r3
  refine Sim.cast (f9_r3_eq _ _ _ _) ?_
  refine Sim.mk ?_
  refine Sim.ob1 (v := (.p (.agg (k_Srule_Set b0 (shrO ob0_Rules))))) (by kernel_rfl) ?_
  refine Sim.ob1 (v := (.p (.agg (k_Srule_Delta (Srule_Delta.mk 0 0 0 0 ([] : List Srule_Rule) ([] : List Int)) .nl .nl)))) (by kernel_rfl) ?_
  refine Sim.bind fun r1 hr1 => ?_
  obtain ⟨qr1, er1, exr1, rfl⟩ := g11_to (b0) ((Srule_Delta.mk 0 0 0 0 ([] : List Srule_Rule) ([] : List Int))) .sh .sh .sh r1 hr1
  refine Sim.callS (rs := []) (v := (bv r1)) (B2 := [(r_Srule_Set b0 ob0_Rules)]) (fun _ => by kernel_rfl) er1 (fun _ => by kernel_rfl) ?_
  refine Sim.ob1 (v := (bv (!r1))) (by kernel_rfl) ?_
  refine Sim.asB (b := (!r1)) (by kernel_rfl) ?_
  refine Sim.br (fun _ => ?_) (fun _ => ?_)
  · skip
    refine Sim.mk ?_
    exact Sim.cast (y' := some ((bv true), [(r_Srule_Set b0 ob0_Rules)])) (by kernel_rfl) (Sim.ret ⟨[(r_Srule_Set b0 ob0_Rules)], by kernel_rfl⟩)
  · skip
    exact Sim.cast (by kernel_rfl) (g9_r5_sim (x1) (b0) ob0_Rules)
noncomputable def b9 (x0 : Srule_Set) (x1 : Int) : Option (Bool) :=
 (g10).bind fun r1 =>
 if ((!r1)) = true then
 (some (false))
 else
 (b9_r3 x1 x0)
theorem g9_sim (x0 : Srule_Set) (x1 : Int) (ox0_Rules : Own) : Sim (Q9) (b9 x0 x1) (EE 9 [(.p (.agg (k_Srule_Set x0 ox0_Rules))), (iv x1)] []) := by
  unfold b9
  refine Sim.cast (f9_eq _ _ _) ?_
  refine Sim.mk ?_
  refine Sim.bx (v := (.ptr 0 0)) (B2 := [(r_Srule_Set x0 ox0_Rules)]) (fun _ => by kernel_rfl) ?_
  refine Sim.mk ?_
  refine Sim.bind fun r1 hr1 => ?_
  obtain ⟨qr1, er1, exr1, rfl⟩ := g10_to  r1 hr1
  refine Sim.callS (rs := []) (v := (bv r1)) (B2 := [(r_Srule_Set x0 ox0_Rules)]) (fun _ => by kernel_rfl) er1 (fun _ => by kernel_rfl) ?_
  refine Sim.ob1 (v := (bv (!r1))) (by kernel_rfl) ?_
  refine Sim.asB (b := (!r1)) (by kernel_rfl) ?_
  refine Sim.br (fun _ => ?_) (fun _ => ?_)
  · skip
    refine Sim.mk ?_
    exact Sim.cast (y' := some ((bv false), [(r_Srule_Set x0 ox0_Rules)])) (by kernel_rfl) (Sim.ret ⟨[(r_Srule_Set x0 ox0_Rules)], by kernel_rfl⟩)
  · skip
    exact Sim.cast (by kernel_rfl) (g9_r3_sim (x1) (x0) ox0_Rules)
theorem g9_of (x0 : Srule_Set) (x1 : Int) {r} (h : b9 x0 x1 = some r) : g9 x0 x1 = some r :=
  pick_of (fun _ _ ha hb => RRun.uniq (Q9_u) (ha .ex) (hb .ex)) (fun ox0_Rules => g9_sim x0 x1 ox0_Rules r h)
noncomputable def b9_r16 (x6 : List Int) (x34 : List Int) (x35 : Int) (x36 : Int) : Option (Bool) :=
 g9_l12 x6 x34 x35 ((IntKind.i64.wrap (x36 + 1)))
theorem g9_r16_sim (x6 : List Int) (x34 : List Int) (x35 : Int) (x36 : Int) (ox6 : Own) (ox34 : Own) : Sim (Q9) (b9_r16 x6 x34 x35 x36) (f9_r16 0 (.p (.lst ox6 (x6.map (eI .i64)))) (.p (.lst ox34 (x34.map (eI .i64)))) (iv x35) (iv x36) []) := by
  unfold b9_r16
  refine Sim.cast (f9_r16_eq _ _ _ _ _ _) ?_
  refine Sim.mk ?_
  refine Sim.ob1 (v := (iv (IntKind.i64.wrap (x36 + 1)))) (by kernel_rfl) ?_
  exact Sim.cast (by kernel_rfl) (g9_l12_to (x6) (x34) (x35) ((IntKind.i64.wrap (x36 + 1))) ox6 ox34)
noncomputable def b9_r13 (x6 : List Int) (x34 : List Int) (x35 : Int) (x36 : Int) : Option (Bool) :=
 (lget x34 x36).bind fun a1 =>
 (lget x6 x36).bind fun a2 =>
 if ((a1 != a2)) = true then
 (some (false))
 else
 (b9_r16 x6 x34 x35 x36)
theorem g9_r13_sim (x6 : List Int) (x34 : List Int) (x35 : Int) (x36 : Int) (ox6 : Own) (ox34 : Own) : Sim (Q9) (b9_r13 x6 x34 x35 x36) (f9_r13 0 (.p (.lst ox6 (x6.map (eI .i64)))) (.p (.lst ox34 (x34.map (eI .i64)))) (iv x35) (iv x36) []) := by
  unfold b9_r13
  refine Sim.cast (f9_r13_eq _ _ _ _ _ _) ?_
  refine Sim.mk ?_
  refine Sim.bind fun a1 ha1 => ?_
  refine Sim.ob1 (v := (.cptr [(.v (.int .i64 a1))])) (Eq.trans (by kernel_rfl) (xidx_of (o := ox34) (k := .i64) (n := 1) (e := (eI .i64)) (cs := (fun a => [(eI .i64) a])) (fun _ => rfl) (fun _ => rfl) (by decide) ha1)) ?_
  refine Sim.ob1 (v := (iv a1)) (by kernel_rfl) ?_
  refine Sim.mk ?_
  refine Sim.bind fun a2 ha2 => ?_
  refine Sim.ob1 (v := (.cptr [(.v (.int .i64 a2))])) (Eq.trans (by kernel_rfl) (xidx_of (o := (shrO ox6)) (k := .i64) (n := 1) (e := (eI .i64)) (cs := (fun a => [(eI .i64) a])) (fun _ => rfl) (fun _ => rfl) (by decide) ha2)) ?_
  refine Sim.ob1 (v := (iv a2)) (by kernel_rfl) ?_
  refine Sim.ob1 (v := (bv (a1 != a2))) (by kernel_rfl) ?_
  refine Sim.asB (b := (a1 != a2)) (by kernel_rfl) ?_
  refine Sim.br (fun _ => ?_) (fun _ => ?_)
  · skip
    refine Sim.mk ?_
    exact Sim.cast (y' := some ((bv false), [])) (by kernel_rfl) (Sim.ret ⟨[], by kernel_rfl⟩)
  · skip
    exact Sim.cast (by kernel_rfl) (g9_r16_sim (x6) (x34) (x35) (x36) ox6 ox34)
noncomputable def b9_r17  : Option (Bool) :=
 some (true)
theorem g9_r17_sim  : Sim (Q9) (b9_r17) (f9_r17 0  []) := by
  unfold b9_r17
  refine Sim.cast (f9_r17_eq _ _) ?_
  refine Sim.mk ?_
  exact Sim.cast (y' := some ((bv true), [])) (by kernel_rfl) (Sim.ret ⟨[], by kernel_rfl⟩)
noncomputable def b9_l12 (x6 : List Int) (x34 : List Int) (x35 : Int) (x36 : Int) : Option (Bool) :=
 if ((decide (x36 < x35))) = true then
 (b9_r13 x6 x34 x35 x36)
 else
 (b9_r17)
theorem g9_l12_sim (x6 : List Int) (x34 : List Int) (x35 : Int) (x36 : Int) (ox6 : Own) (ox34 : Own) : Sim (Q9) (b9_l12 x6 x34 x35 x36) (f9_l12 0 (.p (.lst ox6 (x6.map (eI .i64)))) (.p (.lst ox34 (x34.map (eI .i64)))) (iv x35) (iv x36) []) := by
  unfold b9_l12
  refine Sim.cast (f9_l12_eq _ _ _ _ _ _) ?_
  refine Sim.mk ?_
  refine Sim.ob1 (v := (bv (decide (x36 < x35)))) (by kernel_rfl) ?_
  refine Sim.asB (b := (decide (x36 < x35))) (by kernel_rfl) ?_
  refine Sim.br (fun _ => ?_) (fun _ => ?_)
  · skip
    exact Sim.cast (by kernel_rfl) (g9_r13_sim (x6) (x34) (x35) (x36) ox6 ox34)
  · skip
    exact Sim.cast (by kernel_rfl) (g9_r17_sim )
theorem g9_l12_of (x6 : List Int) (x34 : List Int) (x35 : Int) (x36 : Int) {r} (h : b9_l12 x6 x34 x35 x36 = some r) : g9_l12 x6 x34 x35 x36 = some r :=
  pick_of (fun _ _ ha hb => RRun.uniq (Q9_u) (ha .ex .ex) (hb .ex .ex)) (fun ox6 ox34 => g9_l12_sim x6 x34 x35 x36 ox6 ox34 r h)
/-! "(colander/rule.Set).Order": g23 -/
noncomputable def b23_r3 (x1 : Int) (b0 : Srule_Set) : Option ((List Int)) :=
 g23_l5 x1 (([] : List Int)) b0.Rules ((b0.Rules.length : Int)) 0 b0
theorem g23_r3_sim (x1 : Int) (b0 : Srule_Set) (ob0_Rules : Own) : Sim (Q23) (b23_r3 x1 b0) (f23_r3 0 (iv x1) (.ptr 0 0) [(r_Srule_Set b0 ob0_Rules)]) := by
  unfold b23_r3
  refine Sim.cast (f23_r3_eq _ _ _ _) ?_
  refine Sim.mk ?_
  refine Sim.mk ?_
  refine Sim.ob1 (v := (.ptr 0 4)) (by kernel_rfl) ?_
  refine Sim.ob1 (v := (.p (.lst (shrO ob0_Rules) (b0.Rules.map e_Srule_Rule)))) (by kernel_rfl) ?_
  refine Sim.ob1 (v := (iv (b0.Rules.length : Int))) (Eq.trans (by kernel_rfl) (xlen_of (P := PP) (t := 22) (d := 43) (by kernel_rfl) e_Srule_Rule (shrO ob0_Rules) b0.Rules)) ?_
  exact Sim.cast (by kernel_rfl) (g23_l5_to (x1) (([] : List Int)) (b0.Rules) ((b0.Rules.length : Int)) (0) (b0) .nl (shrO ob0_Rules) ob0_Rules rfl)
noncomputable def b23 (x0 : Srule_Set) (x1 : Int) : Option ((List Int)) :=
 (g16 x0).bind fun r1 =>
 if ((!r1)) = true then
 (some (([] : List Int)))
 else
 (b23_r3 x1 x0)
theorem g23_sim (x0 : Srule_Set) (x1 : Int) (ox0_Rules : Own) : Sim (Q23) (b23 x0 x1) (EE 23 [(.p (.agg (k_Srule_Set x0 ox0_Rules))), (iv x1)] []) := by
  unfold b23
  refine Sim.cast (f23_eq _ _ _) ?_
  refine Sim.mk ?_
  refine Sim.bx (v := (.ptr 0 0)) (B2 := [(r_Srule_Set x0 ox0_Rules)]) (fun _ => by kernel_rfl) ?_
  refine Sim.mk ?_
  refine Sim.ob1 (v := (.p (.agg (k_Srule_Set x0 (shrO ox0_Rules))))) (by kernel_rfl) ?_
  refine Sim.bind fun r1 hr1 => ?_
  obtain ⟨qr1, er1, exr1, rfl⟩ := g16_to (x0) .sh r1 hr1
  refine Sim.callS (rs := []) (v := (bv r1)) (B2 := [(r_Srule_Set x0 ox0_Rules)]) (fun _ => by kernel_rfl) er1 (fun _ => by kernel_rfl) ?_
  refine Sim.ob1 (v := (bv (!r1))) (by kernel_rfl) ?_
  refine Sim.asB (b := (!r1)) (by kernel_rfl) ?_
  refine Sim.br (fun _ => ?_) (fun _ => ?_)
  · skip
    refine Sim.mk ?_
    exact Sim.cast (y' := some ((.p (.lst .sh [])), [(r_Srule_Set x0 ox0_Rules)])) (by kernel_rfl) (Sim.ret ⟨[(r_Srule_Set x0 ox0_Rules)], by kernel_rfl⟩)
  · skip
    exact Sim.cast (by kernel_rfl) (g23_r3_sim (x1) (x0) ox0_Rules)
theorem g23_of (x0 : Srule_Set) (x1 : Int) {r} (h : b23 x0 x1 = some r) : g23 x0 x1 = some r :=
  pick_of (fun _ _ ha hb => RRun.uniq (Q23_u) (ha .ex) (hb .ex)) (fun ox0_Rules => g23_sim x0 x1 ox0_Rules r h)
noncomputable def b23_r9 (x1 : Int) (x5 : List Int) (x12 : List Srule_Rule) (x13 : Int) (x14 : Int) (b0 : Srule_Set) : Option ((List Int)) :=
 g23_l5 x1 x5 x12 x13 ((IntKind.i64.wrap (x14 + 1))) b0
theorem g23_r9_sim (x1 : Int) (x5 : List Int) (x12 : List Srule_Rule) (x13 : Int) (x14 : Int) (b0 : Srule_Set) (ox5 : Own) (ox12 : Own) (ob0_Rules : Own) (hox5 : okApp ox5 = true) : Sim (Q23) (b23_r9 x1 x5 x12 x13 x14 b0) (f23_r9 0 (iv x1) (.ptr 0 0) (.p (.lst ox5 (x5.map (eI .i64)))) (.p (.lst ox12 (x12.map e_Srule_Rule))) (iv x13) (iv x14) [(r_Srule_Set b0 ob0_Rules)]) := by
  unfold b23_r9
  refine Sim.cast (f23_r9_eq _ _ _ _ _ _ _ _) ?_
  refine Sim.mk ?_
  refine Sim.ob1 (v := (iv (IntKind.i64.wrap (x14 + 1)))) (by kernel_rfl) ?_
  exact Sim.cast (by kernel_rfl) (g23_l5_to (x1) (x5) (x12) (x13) ((IntKind.i64.wrap (x14 + 1))) (b0) ox5 ox12 ob0_Rules hox5)
noncomputable def b23_r6 (x1 : Int) (x5 : List Int) (x12 : List Srule_Rule) (x13 : Int) (x14 : Int) (b0 : Srule_Set) : Option ((List Int)) :=
 (lget x12 x14).bind fun a1 =>
 if (((iand .i64 a1.Scope x1) != 0)) = true then
 ((lapp x5 ([x14] : List Int)).bind fun a2 =>
 b23_r9 x1 a2 x12 x13 x14 b0)
 else
 (b23_r9 x1 x5 x12 x13 x14 b0)
theorem g23_r6_sim (x1 : Int) (x5 : List Int) (x12 : List Srule_Rule) (x13 : Int) (x14 : Int) (b0 : Srule_Set) (ox5 : Own) (ox12 : Own) (ob0_Rules : Own) (hox5 : okApp ox5 = true) : Sim (Q23) (b23_r6 x1 x5 x12 x13 x14 b0) (f23_r6 0 (iv x1) (.ptr 0 0) (.p (.lst ox5 (x5.map (eI .i64)))) (.p (.lst ox12 (x12.map e_Srule_Rule))) (iv x13) (iv x14) [(r_Srule_Set b0 ob0_Rules)]) := by
  unfold b23_r6
  refine Sim.cast (f23_r6_eq _ _ _ _ _ _ _ _) ?_
  refine Sim.mk ?_
  refine Sim.bind fun a1 ha1 => ?_
  refine Sim.ob1 (v := (.cptr (k_Srule_Rule a1))) (Eq.trans (by kernel_rfl) (xidx_of (o := ox12) (k := .i64) (n := 5) (e := e_Srule_Rule) (cs := c_Srule_Rule) (fun _ => rfl) (fun _ => rfl) (by decide) ha1)) ?_
  refine Sim.ob1 (v := (.p (.agg (k_Srule_Rule a1)))) (by kernel_rfl) ?_
  refine Sim.bz (v := (.ptr 1 0)) (B2 := [(r_Srule_Set b0 ob0_Rules), (r_Srule_Rule (Srule_Rule.mk 0 0 0 0 (ByteArray.mk #[])))]) (fun _ => by kernel_rfl) ?_
  refine Sim.stN (B2 := [(r_Srule_Set b0 ob0_Rules), (r_Srule_Rule a1)]) (fun _ => by kernel_rfl) ?_
  refine Sim.mk ?_
  refine Sim.ob1 (v := (.ptr 1 3)) (by kernel_rfl) ?_
  refine Sim.ob1 (v := (iv a1.Scope)) (by kernel_rfl) ?_
  refine Sim.ob1 (v := (iv (iand .i64 a1.Scope x1))) (by kernel_rfl) ?_
  refine Sim.ob1 (v := (bv ((iand .i64 a1.Scope x1) != 0))) (by kernel_rfl) ?_
  refine Sim.asB (b := ((iand .i64 a1.Scope x1) != 0)) (by kernel_rfl) ?_
  refine Sim.br (fun _ => ?_) (fun _ => ?_)
  · skip
    refine Sim.mk ?_
    refine Sim.ob1 (v := (.p (.lst .ex (([x14] : List Int).map (eI .i64))))) (by kernel_rfl) ?_
    refine Sim.bind fun a2 ha2 => ?_
    refine Sim.ob1 (v := (.p (.lst .un (a2.map (eI .i64))))) (Eq.trans (by kernel_rfl) <| xapp_of (n := 1) (o := ox5) (o' := .ex) (e := (eI .i64)) (ys := ([x14] : List Int)) (fun _ => rfl) (by decide) hox5 ha2) ?_
    exact Sim.cast (by kernel_rfl) (g23_r9_sim (x1) (a2) (x12) (x13) (x14) (b0) .un ox12 ob0_Rules rfl)
  · skip
    exact Sim.cast (by kernel_rfl) (g23_r9_sim (x1) (x5) (x12) (x13) (x14) (b0) ox5 ox12 ob0_Rules hox5)
noncomputable def b23_r10 (x5 : List Int) (b0 : Srule_Set) : Option ((List Int)) :=
 (g39 x5 b0).bind fun r1 =>
 some (x5)
theorem g23_r10_sim (x5 : List Int) (b0 : Srule_Set) (ox5 : Own) (ob0_Rules : Own) (hox5 : okApp ox5 = true) : Sim (Q23) (b23_r10 x5 b0) (f23_r10 0 (.ptr 0 0) (.p (.lst ox5 (x5.map (eI .i64)))) [(r_Srule_Set b0 ob0_Rules)]) := by
  unfold b23_r10
  refine Sim.cast (f23_r10_eq _ _ _ _) ?_
  refine Sim.mk ?_
  refine Sim.bind fun r1 hr1 => ?_
  obtain ⟨qr1, er1, exr1, rfl⟩ := g39_to (x5) (b0) .sh ob0_Rules r1 hr1
  refine Sim.callS (rs := [0]) (v := (.p (.tup []))) (B2 := [(r_Srule_Set b0 ob0_Rules)]) (fun _ => by kernel_rfl) er1 (fun _ => by kernel_rfl) ?_
  refine Sim.mk ?_
  exact Sim.cast (y' := some ((.p (.lst .sh (x5.map (eI .i64)))), [(r_Srule_Set b0 ob0_Rules)])) (by kernel_rfl) (Sim.ret ⟨[(r_Srule_Set b0 ob0_Rules)], by kernel_rfl⟩)
noncomputable def b23_l5 (x1 : Int) (x5 : List Int) (x12 : List Srule_Rule) (x13 : Int) (x14 : Int) (b0 : Srule_Set) : Option ((List Int)) :=
 if ((decide (x14 < x13))) = true then
 (b23_r6 x1 x5 x12 x13 x14 b0)
 else
 (b23_r10 x5 b0)
theorem g23_l5_sim (x1 : Int) (x5 : List Int) (x12 : List Srule_Rule) (x13 : Int) (x14 : Int) (b0 : Srule_Set) (ox5 : Own) (ox12 : Own) (ob0_Rules : Own) (hox5 : okApp ox5 = true) : Sim (Q23) (b23_l5 x1 x5 x12 x13 x14 b0) (f23_l5 0 (iv x1) (.ptr 0 0) (.p (.lst ox5 (x5.map (eI .i64)))) (.p (.lst ox12 (x12.map e_Srule_Rule))) (iv x13) (iv x14) [(r_Srule_Set b0 ob0_Rules)]) := by
  unfold b23_l5
  refine Sim.cast (f23_l5_eq _ _ _ _ _ _ _ _) ?_
  refine Sim.mk ?_
  refine Sim.ob1 (v := (bv (decide (x14 < x13)))) (by kernel_rfl) ?_
  refine Sim.asB (b := (decide (x14 < x13))) (by kernel_rfl) ?_
  refine Sim.br (fun _ => ?_) (fun _ => ?_)
  · skip
    exact Sim.cast (by kernel_rfl) (g23_r6_sim (x1) (x5) (x12) (x13) (x14) (b0) ox5 ox12 ob0_Rules hox5)
  · skip
    exact Sim.cast (by kernel_rfl) (g23_r10_sim (x5) (b0) ox5 ob0_Rules hox5)
theorem g23_l5_of (x1 : Int) (x5 : List Int) (x12 : List Srule_Rule) (x13 : Int) (x14 : Int) (b0 : Srule_Set) {r} (h : b23_l5 x1 x5 x12 x13 x14 b0 = some r) : g23_l5 x1 x5 x12 x13 x14 b0 = some r :=
  pick_of (fun _ _ ha hb => RRun.uniq (Q23_u) (ha .ex .ex .ex rfl) (hb .ex .ex .ex rfl)) (fun ox5 ox12 ob0_Rules hox5 => g23_l5_sim x1 x5 x12 x13 x14 b0 ox5 ox12 ob0_Rules hox5 r h)
/-! "(colander/colanderref07.Set).Order": g24 -/
noncomputable def b24 (x0 : Scolanderref07_Set) (x1 : Int) : Option ((List Int)) :=
 g24_l3 x1 (([] : List Int)) 1000 x0
theorem g24_sim (x0 : Scolanderref07_Set) (x1 : Int) (ox0_Rules : Own) : Sim (Q24) (b24 x0 x1) (EE 24 [(.p (.agg (k_Scolanderref07_Set x0 ox0_Rules))), (iv x1)] []) := by
  unfold b24
  refine Sim.cast (f24_eq _ _ _) ?_
  refine Sim.mk ?_
  refine Sim.bx (v := (.ptr 0 0)) (B2 := [(r_Scolanderref07_Set x0 ox0_Rules)]) (fun _ => by kernel_rfl) ?_
  refine Sim.mk ?_
  refine Sim.mk ?_
  exact Sim.cast (by kernel_rfl) (g24_l3_to (x1) (([] : List Int)) (1000) (x0) .nl ox0_Rules rfl)
theorem g24_of (x0 : Scolanderref07_Set) (x1 : Int) {r} (h : b24 x0 x1 = some r) : g24 x0 x1 = some r :=
  pick_of (fun _ _ ha hb => RRun.uniq (Q24_u) (ha .ex) (hb .ex)) (fun ox0_Rules => g24_sim x0 x1 ox0_Rules r h)
noncomputable def b24_r5 (x1 : Int) (x5 : List Int) (x6 : Int) (b0 : Scolanderref07_Set) : Option ((List Int)) :=
 g24_l6 x1 x5 x6 0 b0
theorem g24_r5_sim (x1 : Int) (x5 : List Int) (x6 : Int) (b0 : Scolanderref07_Set) (ox5 : Own) (ob0_Rules : Own) (hox5 : okApp ox5 = true) : Sim (Q24) (b24_r5 x1 x5 x6 b0) (f24_r5 0 (iv x1) (.ptr 0 0) (.p (.lst ox5 (x5.map (eI .i64)))) (iv x6) [(r_Scolanderref07_Set b0 ob0_Rules)]) := by
  unfold b24_r5
  refine Sim.cast (f24_r5_eq _ _ _ _ _ _) ?_
  refine Sim.mk ?_
  exact Sim.cast (by kernel_rfl) (g24_l6_to (x1) (x5) (x6) (0) (b0) ox5 ob0_Rules hox5)
noncomputable def b24_r10 (x5 : List Int) : Option ((List Int)) :=
 some (x5)
theorem g24_r10_sim (x5 : List Int) (ox5 : Own) (hox5 : okApp ox5 = true) : Sim (Q24) (b24_r10 x5) (f24_r10 0 (.p (.lst ox5 (x5.map (eI .i64)))) []) := by
  unfold b24_r10
  refine Sim.cast (f24_r10_eq _ _ _) ?_
  refine Sim.mk ?_
  exact Sim.cast (y' := some ((.p (.lst .sh (x5.map (eI .i64)))), [])) (by kernel_rfl) (Sim.ret ⟨[], by kernel_rfl⟩)
noncomputable def b24_l3 (x1 : Int) (x5 : List Int) (x6 : Int) (b0 : Scolanderref07_Set) : Option ((List Int)) :=
 if ((decide (0 ≤ x6))) = true then
 (b24_r5 x1 x5 x6 b0)
 else
 (b24_r10 x5)
theorem g24_l3_sim (x1 : Int) (x5 : List Int) (x6 : Int) (b0 : Scolanderref07_Set) (ox5 : Own) (ob0_Rules : Own) (hox5 : okApp ox5 = true) : Sim (Q24) (b24_l3 x1 x5 x6 b0) (f24_l3 0 (iv x1) (.ptr 0 0) (.p (.lst ox5 (x5.map (eI .i64)))) (iv x6) [(r_Scolanderref07_Set b0 ob0_Rules)]) := by
  unfold b24_l3
  refine Sim.cast (f24_l3_eq _ _ _ _ _ _) ?_
  refine Sim.mk ?_
  refine Sim.ob1 (v := (bv (decide (0 ≤ x6)))) (by kernel_rfl) ?_
  refine Sim.asB (b := (decide (0 ≤ x6))) (by kernel_rfl) ?_
  refine Sim.br (fun _ => ?_) (fun _ => ?_)
  · skip
    exact Sim.cast (by kernel_rfl) (g24_r5_sim (x1) (x5) (x6) (b0) ox5 ob0_Rules hox5)
  · skip
    exact Sim.cast (by kernel_rfl) (g24_r10_sim (x5) ox5 hox5)
theorem g24_l3_of (x1 : Int) (x5 : List Int) (x6 : Int) (b0 : Scolanderref07_Set) {r} (h : b24_l3 x1 x5 x6 b0 = some r) : g24_l3 x1 x5 x6 b0 = some r :=
  pick_of (fun _ _ ha hb => RRun.uniq (Q24_u) (ha .ex .ex rfl) (hb .ex .ex rfl)) (fun ox5 ob0_Rules hox5 => g24_l3_sim x1 x5 x6 b0 ox5 ob0_Rules hox5 r h)
noncomputable def b24_r7 (x1 : Int) (x5 : List Int) (x6 : Int) (x7 : Int) (b0 : Scolanderref07_Set) : Option ((List Int)) :=
 g24_l6 x1 x5 x6 ((IntKind.i64.wrap (x7 + 1))) b0
theorem g24_r7_sim (x1 : Int) (x5 : List Int) (x6 : Int) (x7 : Int) (b0 : Scolanderref07_Set) (ox5 : Own) (ob0_Rules : Own) (hox5 : okApp ox5 = true) : Sim (Q24) (b24_r7 x1 x5 x6 x7 b0) (f24_r7 0 (iv x1) (.ptr 0 0) (.p (.lst ox5 (x5.map (eI .i64)))) (iv x6) (iv x7) [(r_Scolanderref07_Set b0 ob0_Rules)]) := by
  unfold b24_r7
  refine Sim.cast (f24_r7_eq _ _ _ _ _ _ _) ?_
  refine Sim.mk ?_
  refine Sim.ob1 (v := (iv (IntKind.i64.wrap (x7 + 1)))) (by kernel_rfl) ?_
  exact Sim.cast (by kernel_rfl) (g24_l6_to (x1) (x5) (x6) ((IntKind.i64.wrap (x7 + 1))) (b0) ox5 ob0_Rules hox5)
noncomputable def b24_r9 (x1 : Int) (x5 : List Int) (x6 : Int) (x7 : Int) (b0 : Scolanderref07_Set) : Option ((List Int)) :=
 (lapp x5 ([x7] : List Int)).bind fun a1 =>
 b24_r7 x1 a1 x6 x7 b0
theorem g24_r9_sim (x1 : Int) (x5 : List Int) (x6 : Int) (x7 : Int) (b0 : Scolanderref07_Set) (ox5 : Own) (ob0_Rules : Own) (hox5 : okApp ox5 = true) : Sim (Q24) (b24_r9 x1 x5 x6 x7 b0) (f24_r9 0 (iv x1) (.ptr 0 0) (.p (.lst ox5 (x5.map (eI .i64)))) (iv x6) (iv x7) [(r_Scolanderref07_Set b0 ob0_Rules)]) := by
  unfold b24_r9
  refine Sim.cast (f24_r9_eq _ _ _ _ _ _ _) ?_
  refine Sim.mk ?_
  refine Sim.ob1 (v := (.p (.lst .ex (([x7] : List Int).map (eI .i64))))) (by kernel_rfl) ?_
  refine Sim.bind fun a1 ha1 => ?_
  refine Sim.ob1 (v := (.p (.lst .un (a1.map (eI .i64))))) (Eq.trans (by kernel_rfl) <| xapp_of (n := 1) (o := ox5) (o' := .ex) (e := (eI .i64)) (ys := ([x7] : List Int)) (fun _ => rfl) (by decide) hox5 ha1) ?_
  exact Sim.cast (by kernel_rfl) (g24_r7_sim (x1) (a1) (x6) (x7) (b0) .un ob0_Rules rfl)
noncomputable def b24_r8 (x1 : Int) (x5 : List Int) (x6 : Int) (x7 : Int) (b0 : Scolanderref07_Set) : Option ((List Int)) :=
 (lget b0.Rules x7).bind fun a1 =>
 if ((a1.Priority == x6)) = true then
 ((lget b0.Rules x7).bind fun a2 =>
 if (((iand .i64 a2.Scope x1) != 0)) = true then
 (b24_r9 x1 x5 x6 x7 b0)
 else
 (b24_r7 x1 x5 x6 x7 b0))
 else
 (b24_r7 x1 x5 x6 x7 b0)
theorem g24_r8_sim (x1 : Int) (x5 : List Int) (x6 : Int) (x7 : Int) (b0 : Scolanderref07_Set) (ox5 : Own) (ob0_Rules : Own) (hox5 : okApp ox5 = true) : Sim (Q24) (b24_r8 x1 x5 x6 x7 b0) (f24_r8 0 (iv x1) (.ptr 0 0) (.p (.lst ox5 (x5.map (eI .i64)))) (iv x6) (iv x7) [(r_Scolanderref07_Set b0 ob0_Rules)]) := by
  unfold b24_r8
  refine Sim.cast (f24_r8_eq _ _ _ _ _ _ _) ?_
  refine Sim.mk ?_
  refine Sim.ob1 (v := (.ptr 0 4)) (by kernel_rfl) ?_
  refine Sim.ob1 (v := (.p (.lst (shrO ob0_Rules) (b0.Rules.map e_Srule_Rule)))) (by kernel_rfl) ?_
  refine Sim.bind fun a1 ha1 => ?_
  refine Sim.ob1 (v := (.cptr (k_Srule_Rule a1))) (Eq.trans (by kernel_rfl) (xidx_of (o := (shrO ob0_Rules)) (k := .i64) (n := 5) (e := e_Srule_Rule) (cs := c_Srule_Rule) (fun _ => rfl) (fun _ => rfl) (by decide) ha1)) ?_
  refine Sim.ob1 (v := (.cptr [(.v (.int .i64 a1.Priority)), (.v (.int .i64 a1.Action)), (.v (.int .i64 a1.Scope)), (.v (.string a1.Pattern))])) (by kernel_rfl) ?_
  refine Sim.ob1 (v := (iv a1.Priority)) (by kernel_rfl) ?_
  refine Sim.ob1 (v := (bv (a1.Priority == x6))) (by kernel_rfl) ?_
  refine Sim.asB (b := (a1.Priority == x6)) (by kernel_rfl) ?_
  refine Sim.br (fun _ => ?_) (fun _ => ?_)
  · skip
    refine Sim.ob1 (v := (.ptr 0 4)) (by kernel_rfl) ?_
    refine Sim.ob1 (v := (.p (.lst (shrO ob0_Rules) (b0.Rules.map e_Srule_Rule)))) (by kernel_rfl) ?_
    refine Sim.bind fun a2 ha2 => ?_
    refine Sim.ob1 (v := (.cptr (k_Srule_Rule a2))) (Eq.trans (by kernel_rfl) (xidx_of (o := (shrO ob0_Rules)) (k := .i64) (n := 5) (e := e_Srule_Rule) (cs := c_Srule_Rule) (fun _ => rfl) (fun _ => rfl) (by decide) ha2)) ?_
    refine Sim.ob1 (v := (.cptr [(.v (.int .i64 a2.Scope)), (.v (.string a2.Pattern))])) (by kernel_rfl) ?_
    refine Sim.ob1 (v := (iv a2.Scope)) (by kernel_rfl) ?_
    refine Sim.ob1 (v := (iv (iand .i64 a2.Scope x1))) (by kernel_rfl) ?_
    refine Sim.ob1 (v := (bv ((iand .i64 a2.Scope x1) != 0))) (by kernel_rfl) ?_
    refine Sim.asB (b := ((iand .i64 a2.Scope x1) != 0)) (by kernel_rfl) ?_
    refine Sim.br (fun _ => ?_) (fun _ => ?_)
    · skip
      exact Sim.cast (by kernel_rfl) (g24_r9_sim (x1) (x5) (x6) (x7) (b0) ox5 ob0_Rules hox5)
    · skip
      exact Sim.cast (by kernel_rfl) (g24_r7_sim (x1) (x5) (x6) (x7) (b0) ox5 ob0_Rules hox5)
  · skip
    exact Sim.cast (by kernel_rfl) (g24_r7_sim (x1) (x5) (x6) (x7) (b0) ox5 ob0_Rules hox5)
noncomputable def b24_r4 (x1 : Int) (x5 : List Int) (x6 : Int) (b0 : Scolanderref07_Set) : Option ((List Int)) :=
 g24_l3 x1 x5 ((IntKind.i64.wrap (x6 - 1))) b0
theorem g24_r4_sim (x1 : Int) (x5 : List Int) (x6 : Int) (b0 : Scolanderref07_Set) (ox5 : Own) (ob0_Rules : Own) (hox5 : okApp ox5 = true) : Sim (Q24) (b24_r4 x1 x5 x6 b0) (f24_r4 0 (iv x1) (.ptr 0 0) (.p (.lst ox5 (x5.map (eI .i64)))) (iv x6) [(r_Scolanderref07_Set b0 ob0_Rules)]) := by
  unfold b24_r4
  refine Sim.cast (f24_r4_eq _ _ _ _ _ _) ?_
  refine Sim.mk ?_
  refine Sim.ob1 (v := (iv (IntKind.i64.wrap (x6 - 1)))) (by kernel_rfl) ?_
  exact Sim.cast (by kernel_rfl) (g24_l3_to (x1) (x5) ((IntKind.i64.wrap (x6 - 1))) (b0) ox5 ob0_Rules hox5)
noncomputable def b24_l6 (x1 : Int) (x5 : List Int) (x6 : Int) (x7 : Int) (b0 : Scolanderref07_Set) : Option ((List Int)) :=
 if ((decide (x7 < (b0.Rules.length : Int)))) = true then
 (b24_r8 x1 x5 x6 x7 b0)
 else
 (b24_r4 x1 x5 x6 b0)
theorem g24_l6_sim (x1 : Int) (x5 : List Int) (x6 : Int) (x7 : Int) (b0 : Scolanderref07_Set) (ox5 : Own) (ob0_Rules : Own) (hox5 : okApp ox5 = true) : Sim (Q24) (b24_l6 x1 x5 x6 x7 b0) (f24_l6 0 (iv x1) (.ptr 0 0) (.p (.lst ox5 (x5.map (eI .i64)))) (iv x6) (iv x7) [(r_Scolanderref07_Set b0 ob0_Rules)]) := by
  unfold b24_l6
  refine Sim.cast (f24_l6_eq _ _ _ _ _ _ _) ?_
  refine Sim.mk ?_
  refine Sim.ob1 (v := (.ptr 0 4)) (by kernel_rfl) ?_
  refine Sim.ob1 (v := (.p (.lst (shrO ob0_Rules) (b0.Rules.map e_Srule_Rule)))) (by kernel_rfl) ?_
  refine Sim.ob1 (v := (iv (b0.Rules.length : Int))) (Eq.trans (by kernel_rfl) (xlen_of (P := PP) (t := 34) (d := 69) (by kernel_rfl) e_Srule_Rule (shrO ob0_Rules) b0.Rules)) ?_
  refine Sim.ob1 (v := (bv (decide (x7 < (b0.Rules.length : Int))))) (by kernel_rfl) ?_
  refine Sim.asB (b := (decide (x7 < (b0.Rules.length : Int)))) (by kernel_rfl) ?_
  refine Sim.br (fun _ => ?_) (fun _ => ?_)
  · skip
    exact Sim.cast (by kernel_rfl) (g24_r8_sim (x1) (x5) (x6) (x7) (b0) ox5 ob0_Rules hox5)
  · skip
    exact Sim.cast (by kernel_rfl) (g24_r4_sim (x1) (x5) (x6) (b0) ox5 ob0_Rules hox5)
theorem g24_l6_of (x1 : Int) (x5 : List Int) (x6 : Int) (x7 : Int) (b0 : Scolanderref07_Set) {r} (h : b24_l6 x1 x5 x6 x7 b0 = some r) : g24_l6 x1 x5 x6 x7 b0 = some r :=
  pick_of (fun _ _ ha hb => RRun.uniq (Q24_u) (ha .ex .ex rfl) (hb .ex .ex rfl)) (fun ox5 ob0_Rules hox5 => g24_l6_sim x1 x5 x6 x7 b0 ox5 ob0_Rules hox5 r h)
end Go.Proofs.Ytbmmhbpalkepeaa.N2
end
