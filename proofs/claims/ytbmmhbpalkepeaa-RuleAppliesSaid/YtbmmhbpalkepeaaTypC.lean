/- More of the functions' typed texts. No condition. -/
import Derived.Test.YtbmmhbpalkepeaaTypA

section
set_option linter.unusedSimpArgs false
set_option linter.unusedVariables false
namespace Go.Proofs.Ytbmmhbpalkepeaa.N2
open Go Go.Abs
set_option linter.unusedVariables false
set_option maxRecDepth 100000
/-! "colander/colanderref07.Apply": g17 -/
noncomputable def b17_r6 (b0 : Scolanderref07_Set) (b1 : Scolanderref07_Delta) (b3_Default : Int) (b3_Closed : Int) (b3_Fuel : Int) (b3_Stack : Int) (b3_Rules : List Srule_Rule) : Option (Scolanderref07_Set × Int) :=
 g17_l7 0 b0 b1 b3_Default b3_Closed b3_Fuel b3_Stack b3_Rules
theorem g17_r6_sim (b0 : Scolanderref07_Set) (b1 : Scolanderref07_Delta) (b2 : Scolanderref07_Set) (b3_Default : Int) (b3_Closed : Int) (b3_Fuel : Int) (b3_Stack : Int) (b3_Rules : List Srule_Rule) (ob0_Rules : Own) (ob1_Put : Own) (ob1_Drop : Own) (ob2_Rules : Own) (ob3_Rules : Own) (hob2_Rules : okApp ob2_Rules = true) (hob3_Rules : okApp ob3_Rules = true) : Sim (Q17) (b17_r6 b0 b1 b3_Default b3_Closed b3_Fuel b3_Stack b3_Rules) (f17_r6 0 (.ptr 0 0) (.ptr 1 0) (.ptr 2 0) (.ptr 3 0) [(r_Scolanderref07_Set b0 ob0_Rules), (r_Scolanderref07_Delta b1 ob1_Put ob1_Drop), (r_Scolanderref07_Set b2 ob2_Rules), (r_Scolanderref07_Set (Scolanderref07_Set.mk b3_Default b3_Closed b3_Fuel b3_Stack b3_Rules) ob3_Rules)]) := by
  unfold b17_r6
  refine Sim.cast (f17_r6_eq _ _ _ _ _ _) ?_
  refine Sim.mk ?_
  exact Sim.cast (by kernel_rfl) (g17_l7_to (0) (b0) (b1) (b2) (b3_Default) (b3_Closed) (b3_Fuel) (b3_Stack) (b3_Rules) ob0_Rules ob1_Put ob1_Drop ob2_Rules ob3_Rules hob2_Rules hob3_Rules)
noncomputable def b17_r3 (b0 : Scolanderref07_Set) (b1 : Scolanderref07_Delta) : Option (Scolanderref07_Set × Int) :=
 (g32 b1.Default b0.Default).bind fun r1 =>
 (g32 b1.Closed b0.Closed).bind fun r2 =>
 (g32 b1.Fuel b0.Fuel).bind fun r3 =>
 (g32 b1.Stack b0.Stack).bind fun r4 =>
 (g33 ((Scolanderref07_Set.mk r1 r2 r3 r4 ([] : List Srule_Rule)))).bind fun r5 =>
 if ((!r5)) = true then
 (some ((Scolanderref07_Set.mk 0 0 0 0 ([] : List Srule_Rule)), 30))
 else
 (b17_r6 b0 b1 r1 r2 r3 r4 (([] : List Srule_Rule)))
theorem g17_r3_sim (b0 : Scolanderref07_Set) (b1 : Scolanderref07_Delta) (b2 : Scolanderref07_Set) (ob0_Rules : Own) (ob1_Put : Own) (ob1_Drop : Own) (ob2_Rules : Own) (hob2_Rules : okApp ob2_Rules = true) : Sim (Q17) (b17_r3 b0 b1) (f17_r3 0 (.ptr 0 0) (.ptr 1 0) (.ptr 2 0) [(r_Scolanderref07_Set b0 ob0_Rules), (r_Scolanderref07_Delta b1 ob1_Put ob1_Drop), (r_Scolanderref07_Set b2 ob2_Rules)]) := by
  unfold b17_r3
  refine Sim.cast (f17_r3_eq _ _ _ _ _) ?_
  refine Sim.mk ?_
  refine Sim.ob1 (v := (.ptr 1 0)) (by kernel_rfl) ?_
  refine Sim.ob1 (v := (iv b1.Default)) (by kernel_rfl) ?_
  refine Sim.ob1 (v := (.ptr 0 0)) (by kernel_rfl) ?_
  refine Sim.ob1 (v := (iv b0.Default)) (by kernel_rfl) ?_
  refine Sim.bind fun r1 hr1 => ?_
  obtain ⟨qr1, er1, exr1, rfl⟩ := g32_to (b1.Default) (b0.Default) r1 hr1
  refine Sim.callS (rs := []) (v := (iv r1)) (B2 := [(r_Scolanderref07_Set b0 ob0_Rules), (r_Scolanderref07_Delta b1 ob1_Put ob1_Drop), (r_Scolanderref07_Set b2 ob2_Rules)]) (fun _ => by kernel_rfl) er1 (fun _ => by kernel_rfl) ?_
  refine Sim.ob1 (v := (.ptr 1 1)) (by kernel_rfl) ?_
  refine Sim.ob1 (v := (iv b1.Closed)) (by kernel_rfl) ?_
  refine Sim.ob1 (v := (.ptr 0 1)) (by kernel_rfl) ?_
  refine Sim.ob1 (v := (iv b0.Closed)) (by kernel_rfl) ?_
  refine Sim.bind fun r2 hr2 => ?_
  obtain ⟨qr2, er2, exr2, rfl⟩ := g32_to (b1.Closed) (b0.Closed) r2 hr2
  refine Sim.callS (rs := []) (v := (iv r2)) (B2 := [(r_Scolanderref07_Set b0 ob0_Rules), (r_Scolanderref07_Delta b1 ob1_Put ob1_Drop), (r_Scolanderref07_Set b2 ob2_Rules)]) (fun _ => by kernel_rfl) er2 (fun _ => by kernel_rfl) ?_
  refine Sim.ob1 (v := (.ptr 1 2)) (by kernel_rfl) ?_
  refine Sim.ob1 (v := (iv b1.Fuel)) (by kernel_rfl) ?_
  refine Sim.ob1 (v := (.ptr 0 2)) (by kernel_rfl) ?_
  refine Sim.ob1 (v := (iv b0.Fuel)) (by kernel_rfl) ?_
  refine Sim.bind fun r3 hr3 => ?_
  obtain ⟨qr3, er3, exr3, rfl⟩ := g32_to (b1.Fuel) (b0.Fuel) r3 hr3
  refine Sim.callS (rs := []) (v := (iv r3)) (B2 := [(r_Scolanderref07_Set b0 ob0_Rules), (r_Scolanderref07_Delta b1 ob1_Put ob1_Drop), (r_Scolanderref07_Set b2 ob2_Rules)]) (fun _ => by kernel_rfl) er3 (fun _ => by kernel_rfl) ?_
  refine Sim.ob1 (v := (.ptr 1 3)) (by kernel_rfl) ?_
  refine Sim.ob1 (v := (iv b1.Stack)) (by kernel_rfl) ?_
  refine Sim.ob1 (v := (.ptr 0 3)) (by kernel_rfl) ?_
  refine Sim.ob1 (v := (iv b0.Stack)) (by kernel_rfl) ?_
  refine Sim.bind fun r4 hr4 => ?_
  obtain ⟨qr4, er4, exr4, rfl⟩ := g32_to (b1.Stack) (b0.Stack) r4 hr4
  refine Sim.callS (rs := []) (v := (iv r4)) (B2 := [(r_Scolanderref07_Set b0 ob0_Rules), (r_Scolanderref07_Delta b1 ob1_Put ob1_Drop), (r_Scolanderref07_Set b2 ob2_Rules)]) (fun _ => by kernel_rfl) er4 (fun _ => by kernel_rfl) ?_
  refine Sim.ob1 (v := (.p (.agg (k_Scolanderref07_Set (Scolanderref07_Set.mk r1 r2 r3 r4 ([] : List Srule_Rule)) .nl)))) (by kernel_rfl) ?_
  refine Sim.bz (v := (.ptr 3 0)) (B2 := [(r_Scolanderref07_Set b0 ob0_Rules), (r_Scolanderref07_Delta b1 ob1_Put ob1_Drop), (r_Scolanderref07_Set b2 ob2_Rules), (r_Scolanderref07_Set (Scolanderref07_Set.mk 0 0 0 0 ([] : List Srule_Rule)) .nl)]) (fun _ => by kernel_rfl) ?_
  refine Sim.stN (B2 := [(r_Scolanderref07_Set b0 ob0_Rules), (r_Scolanderref07_Delta b1 ob1_Put ob1_Drop), (r_Scolanderref07_Set b2 ob2_Rules), (r_Scolanderref07_Set (Scolanderref07_Set.mk r1 r2 r3 r4 ([] : List Srule_Rule)) .nl)]) (fun _ => by kernel_rfl) ?_
  refine Sim.grd (by kernel_rfl) ?_
  refine Sim.grd (by kernel_rfl) ?_
  refine Sim.grd (by kernel_rfl) ?_
  refine Sim.grd (by kernel_rfl) ?_
  refine Sim.grd (by kernel_rfl) ?_
  refine Sim.grd (by kernel_rfl) ?_
  refine Sim.grd (by kernel_rfl) ?_
  refine Sim.grd (by kernel_rfl) ?_
  refine Sim.grd (by kernel_rfl) ?_
  refine Sim.grd (by kernel_rfl) ?_
  refine Sim.grd (by kernel_rfl) ?_
  refine Sim.grd (by kernel_rfl) ?_
  refine Sim.grd (by kernel_rfl) ?_
  refine Sim.grd (by kernel_rfl) ?_
  refine Sim.grd (by kernel_rfl) ?_
  refine Sim.grd (by kernel_rfl) ?_
  refine Sim.grd (by kernel_rfl) ?_
  refine Sim.grd (by kernel_rfl) ?_
  refine Sim.grd (by kernel_rfl) ?_
  refine Sim.grd (by kernel_rfl) ?_
  refine Sim.grd (by kernel_rfl) ?_
  refine Sim.grd (by kernel_rfl) ?_
  refine Sim.grd (by kernel_rfl) ?_
  refine Sim.grd (by kernel_rfl) ?_
  refine Sim.mk ?_
  refine Sim.ob1 (v := (.p (.agg (k_Scolanderref07_Set (Scolanderref07_Set.mk r1 r2 r3 r4 ([] : List Srule_Rule)) .nl)))) (by kernel_rfl) ?_
  refine Sim.bind fun r5 hr5 => ?_
  obtain ⟨qr5, er5, exr5, rfl⟩ := g33_to ((Scolanderref07_Set.mk r1 r2 r3 r4 ([] : List Srule_Rule))) .sh r5 hr5
  refine Sim.callS (rs := []) (v := (bv r5)) (B2 := [(r_Scolanderref07_Set b0 ob0_Rules), (r_Scolanderref07_Delta b1 ob1_Put ob1_Drop), (r_Scolanderref07_Set b2 ob2_Rules), (r_Scolanderref07_Set (Scolanderref07_Set.mk r1 r2 r3 r4 ([] : List Srule_Rule)) .nl)]) (fun _ => by kernel_rfl) er5 (fun _ => by kernel_rfl) ?_
  refine Sim.ob1 (v := (bv (!r5))) (by kernel_rfl) ?_
  refine Sim.asB (b := (!r5)) (by kernel_rfl) ?_
  refine Sim.br (fun _ => ?_) (fun _ => ?_)
  · skip
    refine Sim.mk ?_
    refine Sim.ob1 (v := (.p (.agg (k_Scolanderref07_Set (Scolanderref07_Set.mk 0 0 0 0 ([] : List Srule_Rule)) .nl)))) (by kernel_rfl) ?_
    refine Sim.stN (B2 := [(r_Scolanderref07_Set b0 ob0_Rules), (r_Scolanderref07_Delta b1 ob1_Put ob1_Drop), (r_Scolanderref07_Set (Scolanderref07_Set.mk 0 0 0 0 ([] : List Srule_Rule)) .nl), (r_Scolanderref07_Set (Scolanderref07_Set.mk r1 r2 r3 r4 ([] : List Srule_Rule)) .nl)]) (fun _ => by kernel_rfl) ?_
    exact Sim.cast (y' := some ((.p (.tup [(.agg (k_Scolanderref07_Set (Scolanderref07_Set.mk 0 0 0 0 ([] : List Srule_Rule)) .sh)), (.v (.int .i64 30))])), [(r_Scolanderref07_Set b0 ob0_Rules), (r_Scolanderref07_Delta b1 ob1_Put ob1_Drop), (r_Scolanderref07_Set (Scolanderref07_Set.mk 0 0 0 0 ([] : List Srule_Rule)) .nl), (r_Scolanderref07_Set (Scolanderref07_Set.mk r1 r2 r3 r4 ([] : List Srule_Rule)) .nl)])) (by kernel_rfl) (Sim.ret ⟨[(r_Scolanderref07_Set b0 ob0_Rules), (r_Scolanderref07_Delta b1 ob1_Put ob1_Drop), (r_Scolanderref07_Set (Scolanderref07_Set.mk 0 0 0 0 ([] : List Srule_Rule)) .nl), (r_Scolanderref07_Set (Scolanderref07_Set.mk r1 r2 r3 r4 ([] : List Srule_Rule)) .nl)], by kernel_rfl⟩)
  · skip
    exact Sim.cast (by kernel_rfl) (g17_r6_sim (b0) (b1) (b2) (r1) (r2) (r3) (r4) (([] : List Srule_Rule)) ob0_Rules ob1_Put ob1_Drop ob2_Rules .nl hob2_Rules rfl)
noncomputable def b17 (x0 : Scolanderref07_Set) (x1 : Scolanderref07_Delta) : Option (Scolanderref07_Set × Int) :=
 (g19 x0).bind fun r1 =>
 if ((!r1)) = true then
 (some ((Scolanderref07_Set.mk 0 0 0 0 ([] : List Srule_Rule)), 10))
 else
 (b17_r3 x0 x1)
theorem g17_sim (x0 : Scolanderref07_Set) (x1 : Scolanderref07_Delta) (ox0_Rules : Own) (ox1_Put : Own) (ox1_Drop : Own) : Sim (Q17) (b17 x0 x1) (EE 17 [(.p (.agg (k_Scolanderref07_Set x0 ox0_Rules))), (.p (.agg (k_Scolanderref07_Delta x1 ox1_Put ox1_Drop)))] []) := by
  unfold b17
  refine Sim.cast (f17_eq _ _ _) ?_
  refine Sim.mk ?_
  refine Sim.bx (v := (.ptr 0 0)) (B2 := [(r_Scolanderref07_Set x0 ox0_Rules)]) (fun _ => by kernel_rfl) ?_
  refine Sim.bx (v := (.ptr 1 0)) (B2 := [(r_Scolanderref07_Set x0 ox0_Rules), (r_Scolanderref07_Delta x1 ox1_Put ox1_Drop)]) (fun _ => by kernel_rfl) ?_
  refine Sim.bz (v := (.ptr 2 0)) (B2 := [(r_Scolanderref07_Set x0 ox0_Rules), (r_Scolanderref07_Delta x1 ox1_Put ox1_Drop), (r_Scolanderref07_Set (Scolanderref07_Set.mk 0 0 0 0 ([] : List Srule_Rule)) .nl)]) (fun _ => by kernel_rfl) ?_
  refine Sim.mk ?_
  refine Sim.ob1 (v := (.p (.agg (k_Scolanderref07_Set x0 (shrO ox0_Rules))))) (by kernel_rfl) ?_
  refine Sim.bind fun r1 hr1 => ?_
  obtain ⟨qr1, er1, exr1, rfl⟩ := g19_to (x0) .sh r1 hr1
  refine Sim.callS (rs := []) (v := (bv r1)) (B2 := [(r_Scolanderref07_Set x0 ox0_Rules), (r_Scolanderref07_Delta x1 ox1_Put ox1_Drop), (r_Scolanderref07_Set (Scolanderref07_Set.mk 0 0 0 0 ([] : List Srule_Rule)) .nl)]) (fun _ => by kernel_rfl) er1 (fun _ => by kernel_rfl) ?_
  refine Sim.ob1 (v := (bv (!r1))) (by kernel_rfl) ?_
  refine Sim.asB (b := (!r1)) (by kernel_rfl) ?_
  refine Sim.br (fun _ => ?_) (fun _ => ?_)
  · skip
    refine Sim.mk ?_
    refine Sim.ob1 (v := (.p (.agg (k_Scolanderref07_Set (Scolanderref07_Set.mk 0 0 0 0 ([] : List Srule_Rule)) .nl)))) (by kernel_rfl) ?_
    refine Sim.stN (B2 := [(r_Scolanderref07_Set x0 ox0_Rules), (r_Scolanderref07_Delta x1 ox1_Put ox1_Drop), (r_Scolanderref07_Set (Scolanderref07_Set.mk 0 0 0 0 ([] : List Srule_Rule)) .nl)]) (fun _ => by kernel_rfl) ?_
    exact Sim.cast (y' := some ((.p (.tup [(.agg (k_Scolanderref07_Set (Scolanderref07_Set.mk 0 0 0 0 ([] : List Srule_Rule)) .sh)), (.v (.int .i64 10))])), [(r_Scolanderref07_Set x0 ox0_Rules), (r_Scolanderref07_Delta x1 ox1_Put ox1_Drop), (r_Scolanderref07_Set (Scolanderref07_Set.mk 0 0 0 0 ([] : List Srule_Rule)) .nl)])) (by kernel_rfl) (Sim.ret ⟨[(r_Scolanderref07_Set x0 ox0_Rules), (r_Scolanderref07_Delta x1 ox1_Put ox1_Drop), (r_Scolanderref07_Set (Scolanderref07_Set.mk 0 0 0 0 ([] : List Srule_Rule)) .nl)], by kernel_rfl⟩)
  · skip
    exact Sim.cast (by kernel_rfl) (g17_r3_sim (x0) (x1) ((Scolanderref07_Set.mk 0 0 0 0 ([] : List Srule_Rule))) ox0_Rules ox1_Put ox1_Drop .nl rfl)
theorem g17_of (x0 : Scolanderref07_Set) (x1 : Scolanderref07_Delta) {r} (h : b17 x0 x1 = some r) : g17 x0 x1 = some r :=
  pick_of (fun _ _ ha hb => RRun.uniq (Q17_u) (ha .ex .ex .ex) (hb .ex .ex .ex)) (fun ox0_Rules ox1_Put ox1_Drop => g17_sim x0 x1 ox0_Rules ox1_Put ox1_Drop r h)
noncomputable def b17_r8 (x7 : Int) (b0 : Scolanderref07_Set) (b1 : Scolanderref07_Delta) (b3_Default : Int) (b3_Closed : Int) (b3_Fuel : Int) (b3_Stack : Int) (b3_Rules : List Srule_Rule) : Option (Scolanderref07_Set × Int) :=
 g17_l7 ((IntKind.i64.wrap (x7 + 1))) b0 b1 b3_Default b3_Closed b3_Fuel b3_Stack b3_Rules
theorem g17_r8_sim (x7 : Int) (b0 : Scolanderref07_Set) (b1 : Scolanderref07_Delta) (b2 : Scolanderref07_Set) (b3_Default : Int) (b3_Closed : Int) (b3_Fuel : Int) (b3_Stack : Int) (b3_Rules : List Srule_Rule) (ob0_Rules : Own) (ob1_Put : Own) (ob1_Drop : Own) (ob2_Rules : Own) (ob3_Rules : Own) (hob2_Rules : okApp ob2_Rules = true) (hob3_Rules : okApp ob3_Rules = true) : Sim (Q17) (b17_r8 x7 b0 b1 b3_Default b3_Closed b3_Fuel b3_Stack b3_Rules) (f17_r8 0 (.ptr 0 0) (.ptr 1 0) (.ptr 2 0) (.ptr 3 0) (iv x7) [(r_Scolanderref07_Set b0 ob0_Rules), (r_Scolanderref07_Delta b1 ob1_Put ob1_Drop), (r_Scolanderref07_Set b2 ob2_Rules), (r_Scolanderref07_Set (Scolanderref07_Set.mk b3_Default b3_Closed b3_Fuel b3_Stack b3_Rules) ob3_Rules)]) := by
  unfold b17_r8
  refine Sim.cast (f17_r8_eq _ _ _ _ _ _ _) ?_
  refine Sim.mk ?_
  refine Sim.ob1 (v := (iv (IntKind.i64.wrap (x7 + 1)))) (by kernel_rfl) ?_
  exact Sim.cast (by kernel_rfl) (g17_l7_to ((IntKind.i64.wrap (x7 + 1))) (b0) (b1) (b2) (b3_Default) (b3_Closed) (b3_Fuel) (b3_Stack) (b3_Rules) ob0_Rules ob1_Put ob1_Drop ob2_Rules ob3_Rules hob2_Rules hob3_Rules)
noncomputable def b17_r9 (x7 : Int) (b0 : Scolanderref07_Set) (b1 : Scolanderref07_Delta) (b3_Default : Int) (b3_Closed : Int) (b3_Fuel : Int) (b3_Stack : Int) (b3_Rules : List Srule_Rule) : Option (Scolanderref07_Set × Int) :=
 (lget b1.Put x7).bind fun a1 =>
 (g34 a1).bind fun r2 =>
 if ((!r2)) = true then
 (some ((Scolanderref07_Set.mk 0 0 0 0 ([] : List Srule_Rule)), 30))
 else
 (b17_r8 x7 b0 b1 b3_Default b3_Closed b3_Fuel b3_Stack b3_Rules)
theorem g17_r9_sim (x7 : Int) (b0 : Scolanderref07_Set) (b1 : Scolanderref07_Delta) (b2 : Scolanderref07_Set) (b3_Default : Int) (b3_Closed : Int) (b3_Fuel : Int) (b3_Stack : Int) (b3_Rules : List Srule_Rule) (ob0_Rules : Own) (ob1_Put : Own) (ob1_Drop : Own) (ob2_Rules : Own) (ob3_Rules : Own) (hob2_Rules : okApp ob2_Rules = true) (hob3_Rules : okApp ob3_Rules = true) : Sim (Q17) (b17_r9 x7 b0 b1 b3_Default b3_Closed b3_Fuel b3_Stack b3_Rules) (f17_r9 0 (.ptr 0 0) (.ptr 1 0) (.ptr 2 0) (.ptr 3 0) (iv x7) [(r_Scolanderref07_Set b0 ob0_Rules), (r_Scolanderref07_Delta b1 ob1_Put ob1_Drop), (r_Scolanderref07_Set b2 ob2_Rules), (r_Scolanderref07_Set (Scolanderref07_Set.mk b3_Default b3_Closed b3_Fuel b3_Stack b3_Rules) ob3_Rules)]) := by
  unfold b17_r9
  refine Sim.cast (f17_r9_eq _ _ _ _ _ _ _) ?_
  refine Sim.mk ?_
  refine Sim.ob1 (v := (.ptr 1 4)) (by kernel_rfl) ?_
  refine Sim.ob1 (v := (.p (.lst (shrO ob1_Put) (b1.Put.map e_Srule_Rule)))) (by kernel_rfl) ?_
  refine Sim.bind fun a1 ha1 => ?_
  refine Sim.ob1 (v := (.cptr (k_Srule_Rule a1))) (Eq.trans (by kernel_rfl) (xidx_of (o := (shrO ob1_Put)) (k := .i64) (n := 5) (e := e_Srule_Rule) (cs := c_Srule_Rule) (fun _ => rfl) (fun _ => rfl) (by decide) ha1)) ?_
  refine Sim.ob1 (v := (.p (.agg (k_Srule_Rule a1)))) (by kernel_rfl) ?_
  refine Sim.bind fun r2 hr2 => ?_
  obtain ⟨qr2, er2, exr2, rfl⟩ := g34_to (a1) r2 hr2
  refine Sim.callS (rs := []) (v := (bv r2)) (B2 := [(r_Scolanderref07_Set b0 ob0_Rules), (r_Scolanderref07_Delta b1 ob1_Put ob1_Drop), (r_Scolanderref07_Set b2 ob2_Rules), (r_Scolanderref07_Set (Scolanderref07_Set.mk b3_Default b3_Closed b3_Fuel b3_Stack b3_Rules) ob3_Rules)]) (fun _ => by kernel_rfl) er2 (fun _ => by kernel_rfl) ?_
  refine Sim.ob1 (v := (bv (!r2))) (by kernel_rfl) ?_
  refine Sim.asB (b := (!r2)) (by kernel_rfl) ?_
  refine Sim.br (fun _ => ?_) (fun _ => ?_)
  · skip
    refine Sim.mk ?_
    refine Sim.ob1 (v := (.p (.agg (k_Scolanderref07_Set (Scolanderref07_Set.mk 0 0 0 0 ([] : List Srule_Rule)) .nl)))) (by kernel_rfl) ?_
    refine Sim.stN (B2 := [(r_Scolanderref07_Set b0 ob0_Rules), (r_Scolanderref07_Delta b1 ob1_Put ob1_Drop), (r_Scolanderref07_Set (Scolanderref07_Set.mk 0 0 0 0 ([] : List Srule_Rule)) .nl), (r_Scolanderref07_Set (Scolanderref07_Set.mk b3_Default b3_Closed b3_Fuel b3_Stack b3_Rules) ob3_Rules)]) (fun _ => by kernel_rfl) ?_
    exact Sim.cast (y' := some ((.p (.tup [(.agg (k_Scolanderref07_Set (Scolanderref07_Set.mk 0 0 0 0 ([] : List Srule_Rule)) .sh)), (.v (.int .i64 30))])), [(r_Scolanderref07_Set b0 ob0_Rules), (r_Scolanderref07_Delta b1 ob1_Put ob1_Drop), (r_Scolanderref07_Set (Scolanderref07_Set.mk 0 0 0 0 ([] : List Srule_Rule)) .nl), (r_Scolanderref07_Set (Scolanderref07_Set.mk b3_Default b3_Closed b3_Fuel b3_Stack b3_Rules) ob3_Rules)])) (by kernel_rfl) (Sim.ret ⟨[(r_Scolanderref07_Set b0 ob0_Rules), (r_Scolanderref07_Delta b1 ob1_Put ob1_Drop), (r_Scolanderref07_Set (Scolanderref07_Set.mk 0 0 0 0 ([] : List Srule_Rule)) .nl), (r_Scolanderref07_Set (Scolanderref07_Set.mk b3_Default b3_Closed b3_Fuel b3_Stack b3_Rules) ob3_Rules)], by kernel_rfl⟩)
  · skip
    exact Sim.cast (by kernel_rfl) (g17_r8_sim (x7) (b0) (b1) (b2) (b3_Default) (b3_Closed) (b3_Fuel) (b3_Stack) (b3_Rules) ob0_Rules ob1_Put ob1_Drop ob2_Rules ob3_Rules hob2_Rules hob3_Rules)
noncomputable def b17_r13 (b0 : Scolanderref07_Set) (b1 : Scolanderref07_Delta) (b3_Default : Int) (b3_Closed : Int) (b3_Fuel : Int) (b3_Stack : Int) (b3_Rules : List Srule_Rule) : Option (Scolanderref07_Set × Int) :=
 g17_l14 0 b0 b1 b3_Default b3_Closed b3_Fuel b3_Stack b3_Rules
theorem g17_r13_sim (b0 : Scolanderref07_Set) (b1 : Scolanderref07_Delta) (b2 : Scolanderref07_Set) (b3_Default : Int) (b3_Closed : Int) (b3_Fuel : Int) (b3_Stack : Int) (b3_Rules : List Srule_Rule) (ob0_Rules : Own) (ob1_Put : Own) (ob1_Drop : Own) (ob2_Rules : Own) (ob3_Rules : Own) (hob2_Rules : okApp ob2_Rules = true) (hob3_Rules : okApp ob3_Rules = true) : Sim (Q17) (b17_r13 b0 b1 b3_Default b3_Closed b3_Fuel b3_Stack b3_Rules) (f17_r13 0 (.ptr 0 0) (.ptr 1 0) (.ptr 2 0) (.ptr 3 0) [(r_Scolanderref07_Set b0 ob0_Rules), (r_Scolanderref07_Delta b1 ob1_Put ob1_Drop), (r_Scolanderref07_Set b2 ob2_Rules), (r_Scolanderref07_Set (Scolanderref07_Set.mk b3_Default b3_Closed b3_Fuel b3_Stack b3_Rules) ob3_Rules)]) := by
  unfold b17_r13
  refine Sim.cast (f17_r13_eq _ _ _ _ _ _) ?_
  refine Sim.mk ?_
  exact Sim.cast (by kernel_rfl) (g17_l14_to (0) (b0) (b1) (b2) (b3_Default) (b3_Closed) (b3_Fuel) (b3_Stack) (b3_Rules) ob0_Rules ob1_Put ob1_Drop ob2_Rules ob3_Rules hob2_Rules hob3_Rules)
noncomputable def b17_r11 (b0 : Scolanderref07_Set) (b1 : Scolanderref07_Delta) (b3_Default : Int) (b3_Closed : Int) (b3_Fuel : Int) (b3_Stack : Int) (b3_Rules : List Srule_Rule) : Option (Scolanderref07_Set × Int) :=
 (g35 b1).bind fun r1 =>
 if (r1) = true then
 (some ((Scolanderref07_Set.mk 0 0 0 0 ([] : List Srule_Rule)), 31))
 else
 (b17_r13 b0 b1 b3_Default b3_Closed b3_Fuel b3_Stack b3_Rules)
theorem g17_r11_sim (b0 : Scolanderref07_Set) (b1 : Scolanderref07_Delta) (b2 : Scolanderref07_Set) (b3_Default : Int) (b3_Closed : Int) (b3_Fuel : Int) (b3_Stack : Int) (b3_Rules : List Srule_Rule) (ob0_Rules : Own) (ob1_Put : Own) (ob1_Drop : Own) (ob2_Rules : Own) (ob3_Rules : Own) (hob2_Rules : okApp ob2_Rules = true) (hob3_Rules : okApp ob3_Rules = true) : Sim (Q17) (b17_r11 b0 b1 b3_Default b3_Closed b3_Fuel b3_Stack b3_Rules) (f17_r11 0 (.ptr 0 0) (.ptr 1 0) (.ptr 2 0) (.ptr 3 0) [(r_Scolanderref07_Set b0 ob0_Rules), (r_Scolanderref07_Delta b1 ob1_Put ob1_Drop), (r_Scolanderref07_Set b2 ob2_Rules), (r_Scolanderref07_Set (Scolanderref07_Set.mk b3_Default b3_Closed b3_Fuel b3_Stack b3_Rules) ob3_Rules)]) := by
  unfold b17_r11
  refine Sim.cast (f17_r11_eq _ _ _ _ _ _) ?_
  refine Sim.mk ?_
  refine Sim.ob1 (v := (.p (.agg (k_Scolanderref07_Delta b1 (shrO ob1_Put) (shrO ob1_Drop))))) (by kernel_rfl) ?_
  refine Sim.bind fun r1 hr1 => ?_
  obtain ⟨qr1, er1, exr1, rfl⟩ := g35_to (b1) .sh .sh r1 hr1
  refine Sim.callS (rs := []) (v := (bv r1)) (B2 := [(r_Scolanderref07_Set b0 ob0_Rules), (r_Scolanderref07_Delta b1 ob1_Put ob1_Drop), (r_Scolanderref07_Set b2 ob2_Rules), (r_Scolanderref07_Set (Scolanderref07_Set.mk b3_Default b3_Closed b3_Fuel b3_Stack b3_Rules) ob3_Rules)]) (fun _ => by kernel_rfl) er1 (fun _ => by kernel_rfl) ?_
  refine Sim.asB (b := r1) (by kernel_rfl) ?_
  refine Sim.br (fun _ => ?_) (fun _ => ?_)
  · skip
    refine Sim.mk ?_
    refine Sim.ob1 (v := (.p (.agg (k_Scolanderref07_Set (Scolanderref07_Set.mk 0 0 0 0 ([] : List Srule_Rule)) .nl)))) (by kernel_rfl) ?_
    refine Sim.stN (B2 := [(r_Scolanderref07_Set b0 ob0_Rules), (r_Scolanderref07_Delta b1 ob1_Put ob1_Drop), (r_Scolanderref07_Set (Scolanderref07_Set.mk 0 0 0 0 ([] : List Srule_Rule)) .nl), (r_Scolanderref07_Set (Scolanderref07_Set.mk b3_Default b3_Closed b3_Fuel b3_Stack b3_Rules) ob3_Rules)]) (fun _ => by kernel_rfl) ?_
    exact Sim.cast (y' := some ((.p (.tup [(.agg (k_Scolanderref07_Set (Scolanderref07_Set.mk 0 0 0 0 ([] : List Srule_Rule)) .sh)), (.v (.int .i64 31))])), [(r_Scolanderref07_Set b0 ob0_Rules), (r_Scolanderref07_Delta b1 ob1_Put ob1_Drop), (r_Scolanderref07_Set (Scolanderref07_Set.mk 0 0 0 0 ([] : List Srule_Rule)) .nl), (r_Scolanderref07_Set (Scolanderref07_Set.mk b3_Default b3_Closed b3_Fuel b3_Stack b3_Rules) ob3_Rules)])) (by kernel_rfl) (Sim.ret ⟨[(r_Scolanderref07_Set b0 ob0_Rules), (r_Scolanderref07_Delta b1 ob1_Put ob1_Drop), (r_Scolanderref07_Set (Scolanderref07_Set.mk 0 0 0 0 ([] : List Srule_Rule)) .nl), (r_Scolanderref07_Set (Scolanderref07_Set.mk b3_Default b3_Closed b3_Fuel b3_Stack b3_Rules) ob3_Rules)], by kernel_rfl⟩)
  · skip
    exact Sim.cast (by kernel_rfl) (g17_r13_sim (b0) (b1) (b2) (b3_Default) (b3_Closed) (b3_Fuel) (b3_Stack) (b3_Rules) ob0_Rules ob1_Put ob1_Drop ob2_Rules ob3_Rules hob2_Rules hob3_Rules)
noncomputable def b17_l7 (x7 : Int) (b0 : Scolanderref07_Set) (b1 : Scolanderref07_Delta) (b3_Default : Int) (b3_Closed : Int) (b3_Fuel : Int) (b3_Stack : Int) (b3_Rules : List Srule_Rule) : Option (Scolanderref07_Set × Int) :=
 if ((decide (x7 < (b1.Put.length : Int)))) = true then
 (b17_r9 x7 b0 b1 b3_Default b3_Closed b3_Fuel b3_Stack b3_Rules)
 else
 (b17_r11 b0 b1 b3_Default b3_Closed b3_Fuel b3_Stack b3_Rules)
theorem g17_l7_sim (x7 : Int) (b0 : Scolanderref07_Set) (b1 : Scolanderref07_Delta) (b2 : Scolanderref07_Set) (b3_Default : Int) (b3_Closed : Int) (b3_Fuel : Int) (b3_Stack : Int) (b3_Rules : List Srule_Rule) (ob0_Rules : Own) (ob1_Put : Own) (ob1_Drop : Own) (ob2_Rules : Own) (ob3_Rules : Own) (hob2_Rules : okApp ob2_Rules = true) (hob3_Rules : okApp ob3_Rules = true) : Sim (Q17) (b17_l7 x7 b0 b1 b3_Default b3_Closed b3_Fuel b3_Stack b3_Rules) (f17_l7 0 (.ptr 0 0) (.ptr 1 0) (.ptr 2 0) (.ptr 3 0) (iv x7) [(r_Scolanderref07_Set b0 ob0_Rules), (r_Scolanderref07_Delta b1 ob1_Put ob1_Drop), (r_Scolanderref07_Set b2 ob2_Rules), (r_Scolanderref07_Set (Scolanderref07_Set.mk b3_Default b3_Closed b3_Fuel b3_Stack b3_Rules) ob3_Rules)]) := by
  unfold b17_l7
  refine Sim.cast (f17_l7_eq _ _ _ _ _ _ _) ?_
  refine Sim.mk ?_
  refine Sim.ob1 (v := (.ptr 1 4)) (by kernel_rfl) ?_
  refine Sim.ob1 (v := (.p (.lst (shrO ob1_Put) (b1.Put.map e_Srule_Rule)))) (by kernel_rfl) ?_
  refine Sim.ob1 (v := (iv (b1.Put.length : Int))) (Eq.trans (by kernel_rfl) (xlen_of (P := PP) (t := 34) (d := 69) (by kernel_rfl) e_Srule_Rule (shrO ob1_Put) b1.Put)) ?_
  refine Sim.ob1 (v := (bv (decide (x7 < (b1.Put.length : Int))))) (by kernel_rfl) ?_
  refine Sim.asB (b := (decide (x7 < (b1.Put.length : Int)))) (by kernel_rfl) ?_
  refine Sim.br (fun _ => ?_) (fun _ => ?_)
  · skip
    exact Sim.cast (by kernel_rfl) (g17_r9_sim (x7) (b0) (b1) (b2) (b3_Default) (b3_Closed) (b3_Fuel) (b3_Stack) (b3_Rules) ob0_Rules ob1_Put ob1_Drop ob2_Rules ob3_Rules hob2_Rules hob3_Rules)
  · skip
    exact Sim.cast (by kernel_rfl) (g17_r11_sim (b0) (b1) (b2) (b3_Default) (b3_Closed) (b3_Fuel) (b3_Stack) (b3_Rules) ob0_Rules ob1_Put ob1_Drop ob2_Rules ob3_Rules hob2_Rules hob3_Rules)
theorem g17_l7_of (x7 : Int) (b0 : Scolanderref07_Set) (b1 : Scolanderref07_Delta) (b3_Default : Int) (b3_Closed : Int) (b3_Fuel : Int) (b3_Stack : Int) (b3_Rules : List Srule_Rule) {r} (h : b17_l7 x7 b0 b1 b3_Default b3_Closed b3_Fuel b3_Stack b3_Rules = some r) : g17_l7 x7 b0 b1 b3_Default b3_Closed b3_Fuel b3_Stack b3_Rules = some r :=
  pick_of (fun _ _ ha hb => RRun.uniq (Q17_u) (ha default .ex .ex .ex .ex .ex rfl rfl) (hb default .ex .ex .ex .ex .ex rfl rfl)) (fun b2 ob0_Rules ob1_Put ob1_Drop ob2_Rules ob3_Rules hob2_Rules hob3_Rules => g17_l7_sim x7 b0 b1 b2 b3_Default b3_Closed b3_Fuel b3_Stack b3_Rules ob0_Rules ob1_Put ob1_Drop ob2_Rules ob3_Rules hob2_Rules hob3_Rules r h)
noncomputable def b17_r15 (x8 : Int) (b0 : Scolanderref07_Set) (b1 : Scolanderref07_Delta) (b3_Default : Int) (b3_Closed : Int) (b3_Fuel : Int) (b3_Stack : Int) (b3_Rules : List Srule_Rule) : Option (Scolanderref07_Set × Int) :=
 g17_l14 ((IntKind.i64.wrap (x8 + 1))) b0 b1 b3_Default b3_Closed b3_Fuel b3_Stack b3_Rules
theorem g17_r15_sim (x8 : Int) (b0 : Scolanderref07_Set) (b1 : Scolanderref07_Delta) (b2 : Scolanderref07_Set) (b3_Default : Int) (b3_Closed : Int) (b3_Fuel : Int) (b3_Stack : Int) (b3_Rules : List Srule_Rule) (ob0_Rules : Own) (ob1_Put : Own) (ob1_Drop : Own) (ob2_Rules : Own) (ob3_Rules : Own) (hob2_Rules : okApp ob2_Rules = true) (hob3_Rules : okApp ob3_Rules = true) : Sim (Q17) (b17_r15 x8 b0 b1 b3_Default b3_Closed b3_Fuel b3_Stack b3_Rules) (f17_r15 0 (.ptr 0 0) (.ptr 1 0) (.ptr 2 0) (.ptr 3 0) (iv x8) [(r_Scolanderref07_Set b0 ob0_Rules), (r_Scolanderref07_Delta b1 ob1_Put ob1_Drop), (r_Scolanderref07_Set b2 ob2_Rules), (r_Scolanderref07_Set (Scolanderref07_Set.mk b3_Default b3_Closed b3_Fuel b3_Stack b3_Rules) ob3_Rules)]) := by
  unfold b17_r15
  refine Sim.cast (f17_r15_eq _ _ _ _ _ _ _) ?_
  refine Sim.mk ?_
  refine Sim.ob1 (v := (iv (IntKind.i64.wrap (x8 + 1)))) (by kernel_rfl) ?_
  exact Sim.cast (by kernel_rfl) (g17_l14_to ((IntKind.i64.wrap (x8 + 1))) (b0) (b1) (b2) (b3_Default) (b3_Closed) (b3_Fuel) (b3_Stack) (b3_Rules) ob0_Rules ob1_Put ob1_Drop ob2_Rules ob3_Rules hob2_Rules hob3_Rules)
noncomputable def b17_r16 (x8 : Int) (b0 : Scolanderref07_Set) (b1 : Scolanderref07_Delta) (b3_Default : Int) (b3_Closed : Int) (b3_Fuel : Int) (b3_Stack : Int) (b3_Rules : List Srule_Rule) : Option (Scolanderref07_Set × Int) :=
 (lget b1.Drop x8).bind fun a1 =>
 (g36 b0.Rules a1).bind fun r2 =>
 if ((decide (r2 < 0))) = true then
 (some ((Scolanderref07_Set.mk 0 0 0 0 ([] : List Srule_Rule)), 32))
 else
 (b17_r15 x8 b0 b1 b3_Default b3_Closed b3_Fuel b3_Stack b3_Rules)
theorem g17_r16_sim (x8 : Int) (b0 : Scolanderref07_Set) (b1 : Scolanderref07_Delta) (b2 : Scolanderref07_Set) (b3_Default : Int) (b3_Closed : Int) (b3_Fuel : Int) (b3_Stack : Int) (b3_Rules : List Srule_Rule) (ob0_Rules : Own) (ob1_Put : Own) (ob1_Drop : Own) (ob2_Rules : Own) (ob3_Rules : Own) (hob2_Rules : okApp ob2_Rules = true) (hob3_Rules : okApp ob3_Rules = true) : Sim (Q17) (b17_r16 x8 b0 b1 b3_Default b3_Closed b3_Fuel b3_Stack b3_Rules) (f17_r16 0 (.ptr 0 0) (.ptr 1 0) (.ptr 2 0) (.ptr 3 0) (iv x8) [(r_Scolanderref07_Set b0 ob0_Rules), (r_Scolanderref07_Delta b1 ob1_Put ob1_Drop), (r_Scolanderref07_Set b2 ob2_Rules), (r_Scolanderref07_Set (Scolanderref07_Set.mk b3_Default b3_Closed b3_Fuel b3_Stack b3_Rules) ob3_Rules)]) := by
  unfold b17_r16
  refine Sim.cast (f17_r16_eq _ _ _ _ _ _ _) ?_
  refine Sim.mk ?_
  refine Sim.ob1 (v := (.ptr 0 4)) (by kernel_rfl) ?_
  refine Sim.ob1 (v := (.p (.lst (shrO ob0_Rules) (b0.Rules.map e_Srule_Rule)))) (by kernel_rfl) ?_
  refine Sim.ob1 (v := (.ptr 1 5)) (by kernel_rfl) ?_
  refine Sim.ob1 (v := (.p (.lst (shrO ob1_Drop) (b1.Drop.map (eI .i64))))) (by kernel_rfl) ?_
  refine Sim.bind fun a1 ha1 => ?_
  refine Sim.ob1 (v := (.cptr [(.v (.int .i64 a1))])) (Eq.trans (by kernel_rfl) (xidx_of (o := (shrO ob1_Drop)) (k := .i64) (n := 1) (e := (eI .i64)) (cs := (fun a => [(eI .i64) a])) (fun _ => rfl) (fun _ => rfl) (by decide) ha1)) ?_
  refine Sim.ob1 (v := (iv a1)) (by kernel_rfl) ?_
  refine Sim.bind fun r2 hr2 => ?_
  obtain ⟨qr2, er2, exr2, rfl⟩ := g36_to (b0.Rules) (a1) .sh r2 hr2
  refine Sim.callS (rs := []) (v := (iv r2)) (B2 := [(r_Scolanderref07_Set b0 ob0_Rules), (r_Scolanderref07_Delta b1 ob1_Put ob1_Drop), (r_Scolanderref07_Set b2 ob2_Rules), (r_Scolanderref07_Set (Scolanderref07_Set.mk b3_Default b3_Closed b3_Fuel b3_Stack b3_Rules) ob3_Rules)]) (fun _ => by kernel_rfl) er2 (fun _ => by kernel_rfl) ?_
  refine Sim.ob1 (v := (bv (decide (r2 < 0)))) (by kernel_rfl) ?_
  refine Sim.asB (b := (decide (r2 < 0))) (by kernel_rfl) ?_
  refine Sim.br (fun _ => ?_) (fun _ => ?_)
  · skip
    refine Sim.mk ?_
    refine Sim.ob1 (v := (.p (.agg (k_Scolanderref07_Set (Scolanderref07_Set.mk 0 0 0 0 ([] : List Srule_Rule)) .nl)))) (by kernel_rfl) ?_
    refine Sim.stN (B2 := [(r_Scolanderref07_Set b0 ob0_Rules), (r_Scolanderref07_Delta b1 ob1_Put ob1_Drop), (r_Scolanderref07_Set (Scolanderref07_Set.mk 0 0 0 0 ([] : List Srule_Rule)) .nl), (r_Scolanderref07_Set (Scolanderref07_Set.mk b3_Default b3_Closed b3_Fuel b3_Stack b3_Rules) ob3_Rules)]) (fun _ => by kernel_rfl) ?_
    exact Sim.cast (y' := some ((.p (.tup [(.agg (k_Scolanderref07_Set (Scolanderref07_Set.mk 0 0 0 0 ([] : List Srule_Rule)) .sh)), (.v (.int .i64 32))])), [(r_Scolanderref07_Set b0 ob0_Rules), (r_Scolanderref07_Delta b1 ob1_Put ob1_Drop), (r_Scolanderref07_Set (Scolanderref07_Set.mk 0 0 0 0 ([] : List Srule_Rule)) .nl), (r_Scolanderref07_Set (Scolanderref07_Set.mk b3_Default b3_Closed b3_Fuel b3_Stack b3_Rules) ob3_Rules)])) (by kernel_rfl) (Sim.ret ⟨[(r_Scolanderref07_Set b0 ob0_Rules), (r_Scolanderref07_Delta b1 ob1_Put ob1_Drop), (r_Scolanderref07_Set (Scolanderref07_Set.mk 0 0 0 0 ([] : List Srule_Rule)) .nl), (r_Scolanderref07_Set (Scolanderref07_Set.mk b3_Default b3_Closed b3_Fuel b3_Stack b3_Rules) ob3_Rules)], by kernel_rfl⟩)
  · skip
    exact Sim.cast (by kernel_rfl) (g17_r15_sim (x8) (b0) (b1) (b2) (b3_Default) (b3_Closed) (b3_Fuel) (b3_Stack) (b3_Rules) ob0_Rules ob1_Put ob1_Drop ob2_Rules ob3_Rules hob2_Rules hob3_Rules)
noncomputable def b17_r18 (b0 : Scolanderref07_Set) (b1 : Scolanderref07_Delta) (b3_Default : Int) (b3_Closed : Int) (b3_Fuel : Int) (b3_Stack : Int) (b3_Rules : List Srule_Rule) : Option (Scolanderref07_Set × Int) :=
 g17_l19 0 b0 b1 b3_Default b3_Closed b3_Fuel b3_Stack b3_Rules
theorem g17_r18_sim (b0 : Scolanderref07_Set) (b1 : Scolanderref07_Delta) (b2 : Scolanderref07_Set) (b3_Default : Int) (b3_Closed : Int) (b3_Fuel : Int) (b3_Stack : Int) (b3_Rules : List Srule_Rule) (ob0_Rules : Own) (ob1_Put : Own) (ob1_Drop : Own) (ob2_Rules : Own) (ob3_Rules : Own) (hob2_Rules : okApp ob2_Rules = true) (hob3_Rules : okApp ob3_Rules = true) : Sim (Q17) (b17_r18 b0 b1 b3_Default b3_Closed b3_Fuel b3_Stack b3_Rules) (f17_r18 0 (.ptr 0 0) (.ptr 1 0) (.ptr 2 0) (.ptr 3 0) [(r_Scolanderref07_Set b0 ob0_Rules), (r_Scolanderref07_Delta b1 ob1_Put ob1_Drop), (r_Scolanderref07_Set b2 ob2_Rules), (r_Scolanderref07_Set (Scolanderref07_Set.mk b3_Default b3_Closed b3_Fuel b3_Stack b3_Rules) ob3_Rules)]) := by
  unfold b17_r18
  refine Sim.cast (f17_r18_eq _ _ _ _ _ _) ?_
  refine Sim.mk ?_
  exact Sim.cast (by kernel_rfl) (g17_l19_to (0) (b0) (b1) (b2) (b3_Default) (b3_Closed) (b3_Fuel) (b3_Stack) (b3_Rules) ob0_Rules ob1_Put ob1_Drop ob2_Rules ob3_Rules hob2_Rules hob3_Rules)
noncomputable def b17_l14 (x8 : Int) (b0 : Scolanderref07_Set) (b1 : Scolanderref07_Delta) (b3_Default : Int) (b3_Closed : Int) (b3_Fuel : Int) (b3_Stack : Int) (b3_Rules : List Srule_Rule) : Option (Scolanderref07_Set × Int) :=
 if ((decide (x8 < (b1.Drop.length : Int)))) = true then
 (b17_r16 x8 b0 b1 b3_Default b3_Closed b3_Fuel b3_Stack b3_Rules)
 else
 (b17_r18 b0 b1 b3_Default b3_Closed b3_Fuel b3_Stack b3_Rules)
theorem g17_l14_sim (x8 : Int) (b0 : Scolanderref07_Set) (b1 : Scolanderref07_Delta) (b2 : Scolanderref07_Set) (b3_Default : Int) (b3_Closed : Int) (b3_Fuel : Int) (b3_Stack : Int) (b3_Rules : List Srule_Rule) (ob0_Rules : Own) (ob1_Put : Own) (ob1_Drop : Own) (ob2_Rules : Own) (ob3_Rules : Own) (hob2_Rules : okApp ob2_Rules = true) (hob3_Rules : okApp ob3_Rules = true) : Sim (Q17) (b17_l14 x8 b0 b1 b3_Default b3_Closed b3_Fuel b3_Stack b3_Rules) (f17_l14 0 (.ptr 0 0) (.ptr 1 0) (.ptr 2 0) (.ptr 3 0) (iv x8) [(r_Scolanderref07_Set b0 ob0_Rules), (r_Scolanderref07_Delta b1 ob1_Put ob1_Drop), (r_Scolanderref07_Set b2 ob2_Rules), (r_Scolanderref07_Set (Scolanderref07_Set.mk b3_Default b3_Closed b3_Fuel b3_Stack b3_Rules) ob3_Rules)]) := by
  unfold b17_l14
  refine Sim.cast (f17_l14_eq _ _ _ _ _ _ _) ?_
  refine Sim.mk ?_
  refine Sim.ob1 (v := (.ptr 1 5)) (by kernel_rfl) ?_
  refine Sim.ob1 (v := (.p (.lst (shrO ob1_Drop) (b1.Drop.map (eI .i64))))) (by kernel_rfl) ?_
  refine Sim.ob1 (v := (iv (b1.Drop.length : Int))) (Eq.trans (by kernel_rfl) (xlen_of (P := PP) (t := 25) (d := 3) (by kernel_rfl) (eI .i64) (shrO ob1_Drop) b1.Drop)) ?_
  refine Sim.ob1 (v := (bv (decide (x8 < (b1.Drop.length : Int))))) (by kernel_rfl) ?_
  refine Sim.asB (b := (decide (x8 < (b1.Drop.length : Int)))) (by kernel_rfl) ?_
  refine Sim.br (fun _ => ?_) (fun _ => ?_)
  · skip
    exact Sim.cast (by kernel_rfl) (g17_r16_sim (x8) (b0) (b1) (b2) (b3_Default) (b3_Closed) (b3_Fuel) (b3_Stack) (b3_Rules) ob0_Rules ob1_Put ob1_Drop ob2_Rules ob3_Rules hob2_Rules hob3_Rules)
  · skip
    exact Sim.cast (by kernel_rfl) (g17_r18_sim (b0) (b1) (b2) (b3_Default) (b3_Closed) (b3_Fuel) (b3_Stack) (b3_Rules) ob0_Rules ob1_Put ob1_Drop ob2_Rules ob3_Rules hob2_Rules hob3_Rules)
theorem g17_l14_of (x8 : Int) (b0 : Scolanderref07_Set) (b1 : Scolanderref07_Delta) (b3_Default : Int) (b3_Closed : Int) (b3_Fuel : Int) (b3_Stack : Int) (b3_Rules : List Srule_Rule) {r} (h : b17_l14 x8 b0 b1 b3_Default b3_Closed b3_Fuel b3_Stack b3_Rules = some r) : g17_l14 x8 b0 b1 b3_Default b3_Closed b3_Fuel b3_Stack b3_Rules = some r :=
  pick_of (fun _ _ ha hb => RRun.uniq (Q17_u) (ha default .ex .ex .ex .ex .ex rfl rfl) (hb default .ex .ex .ex .ex .ex rfl rfl)) (fun b2 ob0_Rules ob1_Put ob1_Drop ob2_Rules ob3_Rules hob2_Rules hob3_Rules => g17_l14_sim x8 b0 b1 b2 b3_Default b3_Closed b3_Fuel b3_Stack b3_Rules ob0_Rules ob1_Put ob1_Drop ob2_Rules ob3_Rules hob2_Rules hob3_Rules r h)
noncomputable def b17_r21 (x9 : Int) (b0 : Scolanderref07_Set) (b1 : Scolanderref07_Delta) (b3_Default : Int) (b3_Closed : Int) (b3_Fuel : Int) (b3_Stack : Int) (b3_Rules : List Srule_Rule) : Option (Scolanderref07_Set × Int) :=
 g17_l23 x9 false 0 b0 b1 b3_Default b3_Closed b3_Fuel b3_Stack b3_Rules
theorem g17_r21_sim (x9 : Int) (b0 : Scolanderref07_Set) (b1 : Scolanderref07_Delta) (b2 : Scolanderref07_Set) (b3_Default : Int) (b3_Closed : Int) (b3_Fuel : Int) (b3_Stack : Int) (b3_Rules : List Srule_Rule) (ob0_Rules : Own) (ob1_Put : Own) (ob1_Drop : Own) (ob2_Rules : Own) (ob3_Rules : Own) (hob2_Rules : okApp ob2_Rules = true) (hob3_Rules : okApp ob3_Rules = true) : Sim (Q17) (b17_r21 x9 b0 b1 b3_Default b3_Closed b3_Fuel b3_Stack b3_Rules) (f17_r21 0 (.ptr 0 0) (.ptr 1 0) (.ptr 2 0) (.ptr 3 0) (iv x9) [(r_Scolanderref07_Set b0 ob0_Rules), (r_Scolanderref07_Delta b1 ob1_Put ob1_Drop), (r_Scolanderref07_Set b2 ob2_Rules), (r_Scolanderref07_Set (Scolanderref07_Set.mk b3_Default b3_Closed b3_Fuel b3_Stack b3_Rules) ob3_Rules)]) := by
  unfold b17_r21
  refine Sim.cast (f17_r21_eq _ _ _ _ _ _ _) ?_
  refine Sim.mk ?_
  refine Sim.mk ?_
  exact Sim.cast (by kernel_rfl) (g17_l23_to (x9) (false) (0) (b0) (b1) (b2) (b3_Default) (b3_Closed) (b3_Fuel) (b3_Stack) (b3_Rules) ob0_Rules ob1_Put ob1_Drop ob2_Rules ob3_Rules hob2_Rules hob3_Rules)
noncomputable def b17_r28 (b1 : Scolanderref07_Delta) (b3_Default : Int) (b3_Closed : Int) (b3_Fuel : Int) (b3_Stack : Int) (b3_Rules : List Srule_Rule) : Option (Scolanderref07_Set × Int) :=
 g17_l29 0 b1 b3_Default b3_Closed b3_Fuel b3_Stack b3_Rules
theorem g17_r28_sim (b0 : Scolanderref07_Set) (b1 : Scolanderref07_Delta) (b2 : Scolanderref07_Set) (b3_Default : Int) (b3_Closed : Int) (b3_Fuel : Int) (b3_Stack : Int) (b3_Rules : List Srule_Rule) (ob0_Rules : Own) (ob1_Put : Own) (ob1_Drop : Own) (ob2_Rules : Own) (ob3_Rules : Own) (hob2_Rules : okApp ob2_Rules = true) (hob3_Rules : okApp ob3_Rules = true) : Sim (Q17) (b17_r28 b1 b3_Default b3_Closed b3_Fuel b3_Stack b3_Rules) (f17_r28 0 (.ptr 1 0) (.ptr 2 0) (.ptr 3 0) [(r_Scolanderref07_Set b0 ob0_Rules), (r_Scolanderref07_Delta b1 ob1_Put ob1_Drop), (r_Scolanderref07_Set b2 ob2_Rules), (r_Scolanderref07_Set (Scolanderref07_Set.mk b3_Default b3_Closed b3_Fuel b3_Stack b3_Rules) ob3_Rules)]) := by
  unfold b17_r28
  refine Sim.cast (f17_r28_eq _ _ _ _ _) ?_
  refine Sim.mk ?_
  exact Sim.cast (by kernel_rfl) (g17_l29_to (0) (b0) (b1) (b2) (b3_Default) (b3_Closed) (b3_Fuel) (b3_Stack) (b3_Rules) ob0_Rules ob1_Put ob1_Drop ob2_Rules ob3_Rules hob2_Rules hob3_Rules)
noncomputable def b17_l19 (x9 : Int) (b0 : Scolanderref07_Set) (b1 : Scolanderref07_Delta) (b3_Default : Int) (b3_Closed : Int) (b3_Fuel : Int) (b3_Stack : Int) (b3_Rules : List Srule_Rule) : Option (Scolanderref07_Set × Int) :=
 if ((decide (x9 < (b0.Rules.length : Int)))) = true then
 (b17_r21 x9 b0 b1 b3_Default b3_Closed b3_Fuel b3_Stack b3_Rules)
 else
 (b17_r28 b1 b3_Default b3_Closed b3_Fuel b3_Stack b3_Rules)
theorem g17_l19_sim (x9 : Int) (b0 : Scolanderref07_Set) (b1 : Scolanderref07_Delta) (b2 : Scolanderref07_Set) (b3_Default : Int) (b3_Closed : Int) (b3_Fuel : Int) (b3_Stack : Int) (b3_Rules : List Srule_Rule) (ob0_Rules : Own) (ob1_Put : Own) (ob1_Drop : Own) (ob2_Rules : Own) (ob3_Rules : Own) (hob2_Rules : okApp ob2_Rules = true) (hob3_Rules : okApp ob3_Rules = true) : Sim (Q17) (b17_l19 x9 b0 b1 b3_Default b3_Closed b3_Fuel b3_Stack b3_Rules) (f17_l19 0 (.ptr 0 0) (.ptr 1 0) (.ptr 2 0) (.ptr 3 0) (iv x9) [(r_Scolanderref07_Set b0 ob0_Rules), (r_Scolanderref07_Delta b1 ob1_Put ob1_Drop), (r_Scolanderref07_Set b2 ob2_Rules), (r_Scolanderref07_Set (Scolanderref07_Set.mk b3_Default b3_Closed b3_Fuel b3_Stack b3_Rules) ob3_Rules)]) := by
  unfold b17_l19
  refine Sim.cast (f17_l19_eq _ _ _ _ _ _ _) ?_
  refine Sim.mk ?_
  refine Sim.ob1 (v := (.ptr 0 4)) (by kernel_rfl) ?_
  refine Sim.ob1 (v := (.p (.lst (shrO ob0_Rules) (b0.Rules.map e_Srule_Rule)))) (by kernel_rfl) ?_
  refine Sim.ob1 (v := (iv (b0.Rules.length : Int))) (Eq.trans (by kernel_rfl) (xlen_of (P := PP) (t := 34) (d := 69) (by kernel_rfl) e_Srule_Rule (shrO ob0_Rules) b0.Rules)) ?_
  refine Sim.ob1 (v := (bv (decide (x9 < (b0.Rules.length : Int))))) (by kernel_rfl) ?_
  refine Sim.asB (b := (decide (x9 < (b0.Rules.length : Int)))) (by kernel_rfl) ?_
  refine Sim.br (fun _ => ?_) (fun _ => ?_)
  · skip
    exact Sim.cast (by kernel_rfl) (g17_r21_sim (x9) (b0) (b1) (b2) (b3_Default) (b3_Closed) (b3_Fuel) (b3_Stack) (b3_Rules) ob0_Rules ob1_Put ob1_Drop ob2_Rules ob3_Rules hob2_Rules hob3_Rules)
  · skip
    exact Sim.cast (by kernel_rfl) (g17_r28_sim (b0) (b1) (b2) (b3_Default) (b3_Closed) (b3_Fuel) (b3_Stack) (b3_Rules) ob0_Rules ob1_Put ob1_Drop ob2_Rules ob3_Rules hob2_Rules hob3_Rules)
theorem g17_l19_of (x9 : Int) (b0 : Scolanderref07_Set) (b1 : Scolanderref07_Delta) (b3_Default : Int) (b3_Closed : Int) (b3_Fuel : Int) (b3_Stack : Int) (b3_Rules : List Srule_Rule) {r} (h : b17_l19 x9 b0 b1 b3_Default b3_Closed b3_Fuel b3_Stack b3_Rules = some r) : g17_l19 x9 b0 b1 b3_Default b3_Closed b3_Fuel b3_Stack b3_Rules = some r :=
  pick_of (fun _ _ ha hb => RRun.uniq (Q17_u) (ha default .ex .ex .ex .ex .ex rfl rfl) (hb default .ex .ex .ex .ex .ex rfl rfl)) (fun b2 ob0_Rules ob1_Put ob1_Drop ob2_Rules ob3_Rules hob2_Rules hob3_Rules => g17_l19_sim x9 b0 b1 b2 b3_Default b3_Closed b3_Fuel b3_Stack b3_Rules ob0_Rules ob1_Put ob1_Drop ob2_Rules ob3_Rules hob2_Rules hob3_Rules r h)
noncomputable def b17_r25 (x9 : Int) (x10 : Bool) (x11 : Int) (b0 : Scolanderref07_Set) (b1 : Scolanderref07_Delta) (b3_Default : Int) (b3_Closed : Int) (b3_Fuel : Int) (b3_Stack : Int) (b3_Rules : List Srule_Rule) : Option (Scolanderref07_Set × Int) :=
 if (x10) = true then
 (g17_l23 x9 true ((IntKind.i64.wrap (x11 + 1))) b0 b1 b3_Default b3_Closed b3_Fuel b3_Stack b3_Rules)
 else
 ((lget b1.Drop x11).bind fun a1 =>
 (lget b0.Rules x9).bind fun a2 =>
 g17_l23 x9 ((a1 == a2.ID)) ((IntKind.i64.wrap (x11 + 1))) b0 b1 b3_Default b3_Closed b3_Fuel b3_Stack b3_Rules)
theorem g17_r25_sim (x9 : Int) (x10 : Bool) (x11 : Int) (b0 : Scolanderref07_Set) (b1 : Scolanderref07_Delta) (b2 : Scolanderref07_Set) (b3_Default : Int) (b3_Closed : Int) (b3_Fuel : Int) (b3_Stack : Int) (b3_Rules : List Srule_Rule) (ob0_Rules : Own) (ob1_Put : Own) (ob1_Drop : Own) (ob2_Rules : Own) (ob3_Rules : Own) (hob2_Rules : okApp ob2_Rules = true) (hob3_Rules : okApp ob3_Rules = true) : Sim (Q17) (b17_r25 x9 x10 x11 b0 b1 b3_Default b3_Closed b3_Fuel b3_Stack b3_Rules) (f17_r25 0 (.ptr 0 0) (.ptr 1 0) (.ptr 2 0) (.ptr 3 0) (iv x9) (bv x10) (iv x11) [(r_Scolanderref07_Set b0 ob0_Rules), (r_Scolanderref07_Delta b1 ob1_Put ob1_Drop), (r_Scolanderref07_Set b2 ob2_Rules), (r_Scolanderref07_Set (Scolanderref07_Set.mk b3_Default b3_Closed b3_Fuel b3_Stack b3_Rules) ob3_Rules)]) := by
  unfold b17_r25
  refine Sim.cast (f17_r25_eq _ _ _ _ _ _ _ _ _) ?_
  refine Sim.mk ?_
  refine Sim.asB (b := x10) (by kernel_rfl) ?_
  refine Sim.br (fun _ => ?_) (fun _ => ?_)
  · skip
    refine Sim.mk ?_
    refine Sim.ob1 (v := (iv (IntKind.i64.wrap (x11 + 1)))) (by kernel_rfl) ?_
    exact Sim.cast (by kernel_rfl) (g17_l23_to (x9) (true) ((IntKind.i64.wrap (x11 + 1))) (b0) (b1) (b2) (b3_Default) (b3_Closed) (b3_Fuel) (b3_Stack) (b3_Rules) ob0_Rules ob1_Put ob1_Drop ob2_Rules ob3_Rules hob2_Rules hob3_Rules)
  · skip
    refine Sim.ob1 (v := (.ptr 1 5)) (by kernel_rfl) ?_
    refine Sim.ob1 (v := (.p (.lst (shrO ob1_Drop) (b1.Drop.map (eI .i64))))) (by kernel_rfl) ?_
    refine Sim.bind fun a1 ha1 => ?_
    refine Sim.ob1 (v := (.cptr [(.v (.int .i64 a1))])) (Eq.trans (by kernel_rfl) (xidx_of (o := (shrO ob1_Drop)) (k := .i64) (n := 1) (e := (eI .i64)) (cs := (fun a => [(eI .i64) a])) (fun _ => rfl) (fun _ => rfl) (by decide) ha1)) ?_
    refine Sim.ob1 (v := (iv a1)) (by kernel_rfl) ?_
    refine Sim.ob1 (v := (.ptr 0 4)) (by kernel_rfl) ?_
    refine Sim.ob1 (v := (.p (.lst (shrO ob0_Rules) (b0.Rules.map e_Srule_Rule)))) (by kernel_rfl) ?_
    refine Sim.bind fun a2 ha2 => ?_
    refine Sim.ob1 (v := (.cptr (k_Srule_Rule a2))) (Eq.trans (by kernel_rfl) (xidx_of (o := (shrO ob0_Rules)) (k := .i64) (n := 5) (e := e_Srule_Rule) (cs := c_Srule_Rule) (fun _ => rfl) (fun _ => rfl) (by decide) ha2)) ?_
    refine Sim.ob1 (v := (.cptr [(.v (.int .i64 a2.ID)), (.v (.int .i64 a2.Priority)), (.v (.int .i64 a2.Action)), (.v (.int .i64 a2.Scope)), (.v (.string a2.Pattern))])) (by kernel_rfl) ?_
    refine Sim.ob1 (v := (iv a2.ID)) (by kernel_rfl) ?_
    refine Sim.ob1 (v := (bv (a1 == a2.ID))) (by kernel_rfl) ?_
    refine Sim.mk ?_
    refine Sim.ob1 (v := (iv (IntKind.i64.wrap (x11 + 1)))) (by kernel_rfl) ?_
    exact Sim.cast (by kernel_rfl) (g17_l23_to (x9) ((a1 == a2.ID)) ((IntKind.i64.wrap (x11 + 1))) (b0) (b1) (b2) (b3_Default) (b3_Closed) (b3_Fuel) (b3_Stack) (b3_Rules) ob0_Rules ob1_Put ob1_Drop ob2_Rules ob3_Rules hob2_Rules hob3_Rules)
noncomputable def b17_r20 (x9 : Int) (b0 : Scolanderref07_Set) (b1 : Scolanderref07_Delta) (b3_Default : Int) (b3_Closed : Int) (b3_Fuel : Int) (b3_Stack : Int) (b3_Rules : List Srule_Rule) : Option (Scolanderref07_Set × Int) :=
 g17_l19 ((IntKind.i64.wrap (x9 + 1))) b0 b1 b3_Default b3_Closed b3_Fuel b3_Stack b3_Rules
theorem g17_r20_sim (x9 : Int) (b0 : Scolanderref07_Set) (b1 : Scolanderref07_Delta) (b2 : Scolanderref07_Set) (b3_Default : Int) (b3_Closed : Int) (b3_Fuel : Int) (b3_Stack : Int) (b3_Rules : List Srule_Rule) (ob0_Rules : Own) (ob1_Put : Own) (ob1_Drop : Own) (ob2_Rules : Own) (ob3_Rules : Own) (hob2_Rules : okApp ob2_Rules = true) (hob3_Rules : okApp ob3_Rules = true) : Sim (Q17) (b17_r20 x9 b0 b1 b3_Default b3_Closed b3_Fuel b3_Stack b3_Rules) (f17_r20 0 (.ptr 0 0) (.ptr 1 0) (.ptr 2 0) (.ptr 3 0) (iv x9) [(r_Scolanderref07_Set b0 ob0_Rules), (r_Scolanderref07_Delta b1 ob1_Put ob1_Drop), (r_Scolanderref07_Set b2 ob2_Rules), (r_Scolanderref07_Set (Scolanderref07_Set.mk b3_Default b3_Closed b3_Fuel b3_Stack b3_Rules) ob3_Rules)]) := by
  unfold b17_r20
  refine Sim.cast (f17_r20_eq _ _ _ _ _ _ _) ?_
  refine Sim.mk ?_
  refine Sim.ob1 (v := (iv (IntKind.i64.wrap (x9 + 1)))) (by kernel_rfl) ?_
  exact Sim.cast (by kernel_rfl) (g17_l19_to ((IntKind.i64.wrap (x9 + 1))) (b0) (b1) (b2) (b3_Default) (b3_Closed) (b3_Fuel) (b3_Stack) (b3_Rules) ob0_Rules ob1_Put ob1_Drop ob2_Rules ob3_Rules hob2_Rules hob3_Rules)
noncomputable def b17_r26 (x9 : Int) (x10 : Bool) (b0 : Scolanderref07_Set) (b1 : Scolanderref07_Delta) (b3_Default : Int) (b3_Closed : Int) (b3_Fuel : Int) (b3_Stack : Int) (b3_Rules : List Srule_Rule) : Option (Scolanderref07_Set × Int) :=
 if ((!x10)) = true then
 ((lget b0.Rules x9).bind fun a1 =>
 (lapp b3_Rules ([a1] : List Srule_Rule)).bind fun a2 =>
 b17_r20 x9 b0 b1 b3_Default b3_Closed b3_Fuel b3_Stack a2)
 else
 (b17_r20 x9 b0 b1 b3_Default b3_Closed b3_Fuel b3_Stack b3_Rules)
theorem g17_r26_sim (x9 : Int) (x10 : Bool) (b0 : Scolanderref07_Set) (b1 : Scolanderref07_Delta) (b2 : Scolanderref07_Set) (b3_Default : Int) (b3_Closed : Int) (b3_Fuel : Int) (b3_Stack : Int) (b3_Rules : List Srule_Rule) (ob0_Rules : Own) (ob1_Put : Own) (ob1_Drop : Own) (ob2_Rules : Own) (ob3_Rules : Own) (hob2_Rules : okApp ob2_Rules = true) (hob3_Rules : okApp ob3_Rules = true) : Sim (Q17) (b17_r26 x9 x10 b0 b1 b3_Default b3_Closed b3_Fuel b3_Stack b3_Rules) (f17_r26 0 (.ptr 0 0) (.ptr 1 0) (.ptr 2 0) (.ptr 3 0) (iv x9) (bv x10) [(r_Scolanderref07_Set b0 ob0_Rules), (r_Scolanderref07_Delta b1 ob1_Put ob1_Drop), (r_Scolanderref07_Set b2 ob2_Rules), (r_Scolanderref07_Set (Scolanderref07_Set.mk b3_Default b3_Closed b3_Fuel b3_Stack b3_Rules) ob3_Rules)]) := by
  unfold b17_r26
  refine Sim.cast (f17_r26_eq _ _ _ _ _ _ _ _) ?_
  refine Sim.mk ?_
  refine Sim.ob1 (v := (bv (!x10))) (by kernel_rfl) ?_
  refine Sim.asB (b := (!x10)) (by kernel_rfl) ?_
  refine Sim.br (fun _ => ?_) (fun _ => ?_)
  · skip
    refine Sim.mk ?_
    refine Sim.ob1 (v := (.ptr 3 4)) (by kernel_rfl) ?_
    refine Sim.ldOwn (v := (.p (.lst ob3_Rules (b3_Rules.map e_Srule_Rule)))) (B2 := [(r_Scolanderref07_Set b0 ob0_Rules), (r_Scolanderref07_Delta b1 ob1_Put ob1_Drop), (r_Scolanderref07_Set b2 ob2_Rules), (r_Scolanderref07_Set (Scolanderref07_Set.mk b3_Default b3_Closed b3_Fuel b3_Stack b3_Rules) (shrO ob3_Rules))]) (fun _ => by kernel_rfl) ?_
    refine Sim.ob1 (v := (.ptr 0 4)) (by kernel_rfl) ?_
    refine Sim.ob1 (v := (.p (.lst (shrO ob0_Rules) (b0.Rules.map e_Srule_Rule)))) (by kernel_rfl) ?_
    refine Sim.bind fun a1 ha1 => ?_
    refine Sim.ob1 (v := (.cptr (k_Srule_Rule a1))) (Eq.trans (by kernel_rfl) (xidx_of (o := (shrO ob0_Rules)) (k := .i64) (n := 5) (e := e_Srule_Rule) (cs := c_Srule_Rule) (fun _ => rfl) (fun _ => rfl) (by decide) ha1)) ?_
    refine Sim.ob1 (v := (.p (.agg (k_Srule_Rule a1)))) (by kernel_rfl) ?_
    refine Sim.ob1 (v := (.p (.lst .ex (([a1] : List Srule_Rule).map e_Srule_Rule)))) (by kernel_rfl) ?_
    refine Sim.bind fun a2 ha2 => ?_
    refine Sim.ob1 (v := (.p (.lst .un (a2.map e_Srule_Rule)))) (Eq.trans (by kernel_rfl) <| xapp_of (n := 5) (o := ob3_Rules) (o' := .ex) (e := e_Srule_Rule) (ys := ([a1] : List Srule_Rule)) (fun _ => rfl) (by decide) hob3_Rules ha2) ?_
    refine Sim.ob1 (v := (.ptr 3 4)) (by kernel_rfl) ?_
    refine Sim.stN (B2 := [(r_Scolanderref07_Set b0 ob0_Rules), (r_Scolanderref07_Delta b1 ob1_Put ob1_Drop), (r_Scolanderref07_Set b2 ob2_Rules), (r_Scolanderref07_Set (Scolanderref07_Set.mk b3_Default b3_Closed b3_Fuel b3_Stack a2) .un)]) (fun _ => by kernel_rfl) ?_
    refine Sim.grd (by kernel_rfl) ?_
    refine Sim.grd (by kernel_rfl) ?_
    exact Sim.cast (by kernel_rfl) (g17_r20_sim (x9) (b0) (b1) (b2) (b3_Default) (b3_Closed) (b3_Fuel) (b3_Stack) (a2) ob0_Rules ob1_Put ob1_Drop ob2_Rules .un hob2_Rules rfl)
  · skip
    exact Sim.cast (by kernel_rfl) (g17_r20_sim (x9) (b0) (b1) (b2) (b3_Default) (b3_Closed) (b3_Fuel) (b3_Stack) (b3_Rules) ob0_Rules ob1_Put ob1_Drop ob2_Rules ob3_Rules hob2_Rules hob3_Rules)
noncomputable def b17_l23 (x9 : Int) (x10 : Bool) (x11 : Int) (b0 : Scolanderref07_Set) (b1 : Scolanderref07_Delta) (b3_Default : Int) (b3_Closed : Int) (b3_Fuel : Int) (b3_Stack : Int) (b3_Rules : List Srule_Rule) : Option (Scolanderref07_Set × Int) :=
 if ((decide (x11 < (b1.Drop.length : Int)))) = true then
 (b17_r25 x9 x10 x11 b0 b1 b3_Default b3_Closed b3_Fuel b3_Stack b3_Rules)
 else
 (b17_r26 x9 x10 b0 b1 b3_Default b3_Closed b3_Fuel b3_Stack b3_Rules)
theorem g17_l23_sim (x9 : Int) (x10 : Bool) (x11 : Int) (b0 : Scolanderref07_Set) (b1 : Scolanderref07_Delta) (b2 : Scolanderref07_Set) (b3_Default : Int) (b3_Closed : Int) (b3_Fuel : Int) (b3_Stack : Int) (b3_Rules : List Srule_Rule) (ob0_Rules : Own) (ob1_Put : Own) (ob1_Drop : Own) (ob2_Rules : Own) (ob3_Rules : Own) (hob2_Rules : okApp ob2_Rules = true) (hob3_Rules : okApp ob3_Rules = true) : Sim (Q17) (b17_l23 x9 x10 x11 b0 b1 b3_Default b3_Closed b3_Fuel b3_Stack b3_Rules) (f17_l23 0 (.ptr 0 0) (.ptr 1 0) (.ptr 2 0) (.ptr 3 0) (iv x9) (bv x10) (iv x11) [(r_Scolanderref07_Set b0 ob0_Rules), (r_Scolanderref07_Delta b1 ob1_Put ob1_Drop), (r_Scolanderref07_Set b2 ob2_Rules), (r_Scolanderref07_Set (Scolanderref07_Set.mk b3_Default b3_Closed b3_Fuel b3_Stack b3_Rules) ob3_Rules)]) := by
  unfold b17_l23
  refine Sim.cast (f17_l23_eq _ _ _ _ _ _ _ _ _) ?_
  refine Sim.mk ?_
  refine Sim.ob1 (v := (.ptr 1 5)) (by kernel_rfl) ?_
  refine Sim.ob1 (v := (.p (.lst (shrO ob1_Drop) (b1.Drop.map (eI .i64))))) (by kernel_rfl) ?_
  refine Sim.ob1 (v := (iv (b1.Drop.length : Int))) (Eq.trans (by kernel_rfl) (xlen_of (P := PP) (t := 25) (d := 3) (by kernel_rfl) (eI .i64) (shrO ob1_Drop) b1.Drop)) ?_
  refine Sim.ob1 (v := (bv (decide (x11 < (b1.Drop.length : Int))))) (by kernel_rfl) ?_
  refine Sim.asB (b := (decide (x11 < (b1.Drop.length : Int)))) (by kernel_rfl) ?_
  refine Sim.br (fun _ => ?_) (fun _ => ?_)
  · skip
    exact Sim.cast (by kernel_rfl) (g17_r25_sim (x9) (x10) (x11) (b0) (b1) (b2) (b3_Default) (b3_Closed) (b3_Fuel) (b3_Stack) (b3_Rules) ob0_Rules ob1_Put ob1_Drop ob2_Rules ob3_Rules hob2_Rules hob3_Rules)
  · skip
    exact Sim.cast (by kernel_rfl) (g17_r26_sim (x9) (x10) (b0) (b1) (b2) (b3_Default) (b3_Closed) (b3_Fuel) (b3_Stack) (b3_Rules) ob0_Rules ob1_Put ob1_Drop ob2_Rules ob3_Rules hob2_Rules hob3_Rules)
theorem g17_l23_of (x9 : Int) (x10 : Bool) (x11 : Int) (b0 : Scolanderref07_Set) (b1 : Scolanderref07_Delta) (b3_Default : Int) (b3_Closed : Int) (b3_Fuel : Int) (b3_Stack : Int) (b3_Rules : List Srule_Rule) {r} (h : b17_l23 x9 x10 x11 b0 b1 b3_Default b3_Closed b3_Fuel b3_Stack b3_Rules = some r) : g17_l23 x9 x10 x11 b0 b1 b3_Default b3_Closed b3_Fuel b3_Stack b3_Rules = some r :=
  pick_of (fun _ _ ha hb => RRun.uniq (Q17_u) (ha default .ex .ex .ex .ex .ex rfl rfl) (hb default .ex .ex .ex .ex .ex rfl rfl)) (fun b2 ob0_Rules ob1_Put ob1_Drop ob2_Rules ob3_Rules hob2_Rules hob3_Rules => g17_l23_sim x9 x10 x11 b0 b1 b2 b3_Default b3_Closed b3_Fuel b3_Stack b3_Rules ob0_Rules ob1_Put ob1_Drop ob2_Rules ob3_Rules hob2_Rules hob3_Rules r h)
noncomputable def b17_r31 (x12 : Int) (b1 : Scolanderref07_Delta) (b3_Default : Int) (b3_Closed : Int) (b3_Fuel : Int) (b3_Stack : Int) (b3_Rules : List Srule_Rule) : Option (Scolanderref07_Set × Int) :=
 (lget b1.Put x12).bind fun a1 =>
 (g37 b3_Rules a1).bind fun r2 =>
 g17_l29v1 ((IntKind.i64.wrap (x12 + 1))) b1 b3_Default b3_Closed b3_Fuel b3_Stack r2
theorem g17_r31_sim (x12 : Int) (b0 : Scolanderref07_Set) (b1 : Scolanderref07_Delta) (b2 : Scolanderref07_Set) (b3_Default : Int) (b3_Closed : Int) (b3_Fuel : Int) (b3_Stack : Int) (b3_Rules : List Srule_Rule) (ob0_Rules : Own) (ob1_Put : Own) (ob1_Drop : Own) (ob2_Rules : Own) (ob3_Rules : Own) (hob2_Rules : okApp ob2_Rules = true) (hob3_Rules : okApp ob3_Rules = true) : Sim (Q17) (b17_r31 x12 b1 b3_Default b3_Closed b3_Fuel b3_Stack b3_Rules) (f17_r31 0 (.ptr 1 0) (.ptr 2 0) (.ptr 3 0) (iv x12) [(r_Scolanderref07_Set b0 ob0_Rules), (r_Scolanderref07_Delta b1 ob1_Put ob1_Drop), (r_Scolanderref07_Set b2 ob2_Rules), (r_Scolanderref07_Set (Scolanderref07_Set.mk b3_Default b3_Closed b3_Fuel b3_Stack b3_Rules) ob3_Rules)]) := by
  unfold b17_r31
  refine Sim.cast (f17_r31_eq _ _ _ _ _ _) ?_
  refine Sim.mk ?_
  refine Sim.ob1 (v := (.ptr 3 4)) (by kernel_rfl) ?_
  refine Sim.ob1 (v := (.p (.lst (shrO ob3_Rules) (b3_Rules.map e_Srule_Rule)))) (by kernel_rfl) ?_
  refine Sim.ob1 (v := (.ptr 1 4)) (by kernel_rfl) ?_
  refine Sim.ob1 (v := (.p (.lst (shrO ob1_Put) (b1.Put.map e_Srule_Rule)))) (by kernel_rfl) ?_
  refine Sim.bind fun a1 ha1 => ?_
  refine Sim.ob1 (v := (.cptr (k_Srule_Rule a1))) (Eq.trans (by kernel_rfl) (xidx_of (o := (shrO ob1_Put)) (k := .i64) (n := 5) (e := e_Srule_Rule) (cs := c_Srule_Rule) (fun _ => rfl) (fun _ => rfl) (by decide) ha1)) ?_
  refine Sim.ob1 (v := (.p (.agg (k_Srule_Rule a1)))) (by kernel_rfl) ?_
  refine Sim.bind fun r2 hr2 => ?_
  obtain ⟨qr2, er2, exr2, rfl⟩ := g37_to (b3_Rules) (a1) .sh r2 hr2
  refine Sim.callS (rs := []) (v := (.p (.lst .sh (r2.map e_Srule_Rule)))) (B2 := [(r_Scolanderref07_Set b0 ob0_Rules), (r_Scolanderref07_Delta b1 ob1_Put ob1_Drop), (r_Scolanderref07_Set b2 ob2_Rules), (r_Scolanderref07_Set (Scolanderref07_Set.mk b3_Default b3_Closed b3_Fuel b3_Stack b3_Rules) ob3_Rules)]) (fun _ => by kernel_rfl) er2 (fun _ => by kernel_rfl) ?_
  refine Sim.ob1 (v := (.ptr 3 4)) (by kernel_rfl) ?_
  refine Sim.stN (B2 := [(r_Scolanderref07_Set b0 ob0_Rules), (r_Scolanderref07_Delta b1 ob1_Put ob1_Drop), (r_Scolanderref07_Set b2 ob2_Rules), (r_Scolanderref07_Set (Scolanderref07_Set.mk b3_Default b3_Closed b3_Fuel b3_Stack r2) .sh)]) (fun _ => by kernel_rfl) ?_
  refine Sim.mk ?_
  refine Sim.ob1 (v := (iv (IntKind.i64.wrap (x12 + 1)))) (by kernel_rfl) ?_
  exact Sim.cast (by kernel_rfl) (g17_l29v1_to ((IntKind.i64.wrap (x12 + 1))) (b0) (b1) (b2) (b3_Default) (b3_Closed) (b3_Fuel) (b3_Stack) (r2) ob0_Rules ob1_Put ob1_Drop ob2_Rules .sh hob2_Rules)
noncomputable def b17_r34 (b3_Default : Int) (b3_Closed : Int) (b3_Fuel : Int) (b3_Stack : Int) (b3_Rules : List Srule_Rule) : Option (Scolanderref07_Set × Int) :=
 some ((Scolanderref07_Set.mk b3_Default b3_Closed b3_Fuel b3_Stack b3_Rules), 0)
theorem g17_r34_sim (b0 : Scolanderref07_Set) (b1 : Scolanderref07_Delta) (b2 : Scolanderref07_Set) (b3_Default : Int) (b3_Closed : Int) (b3_Fuel : Int) (b3_Stack : Int) (b3_Rules : List Srule_Rule) (ob0_Rules : Own) (ob1_Put : Own) (ob1_Drop : Own) (ob2_Rules : Own) (ob3_Rules : Own) (hob2_Rules : okApp ob2_Rules = true) (hob3_Rules : okApp ob3_Rules = true) : Sim (Q17) (b17_r34 b3_Default b3_Closed b3_Fuel b3_Stack b3_Rules) (f17_r34 0 (.ptr 2 0) (.ptr 3 0) [(r_Scolanderref07_Set b0 ob0_Rules), (r_Scolanderref07_Delta b1 ob1_Put ob1_Drop), (r_Scolanderref07_Set b2 ob2_Rules), (r_Scolanderref07_Set (Scolanderref07_Set.mk b3_Default b3_Closed b3_Fuel b3_Stack b3_Rules) ob3_Rules)]) := by
  unfold b17_r34
  refine Sim.cast (f17_r34_eq _ _ _ _) ?_
  refine Sim.mk ?_
  refine Sim.ob1 (v := (.p (.agg (k_Scolanderref07_Set (Scolanderref07_Set.mk b3_Default b3_Closed b3_Fuel b3_Stack b3_Rules) (shrO ob3_Rules))))) (by kernel_rfl) ?_
  refine Sim.stN (B2 := [(r_Scolanderref07_Set b0 ob0_Rules), (r_Scolanderref07_Delta b1 ob1_Put ob1_Drop), (r_Scolanderref07_Set (Scolanderref07_Set.mk b3_Default b3_Closed b3_Fuel b3_Stack b3_Rules) (shrO ob3_Rules)), (r_Scolanderref07_Set (Scolanderref07_Set.mk b3_Default b3_Closed b3_Fuel b3_Stack b3_Rules) ob3_Rules)]) (fun _ => by kernel_rfl) ?_
  exact Sim.cast (y' := some ((.p (.tup [(.agg (k_Scolanderref07_Set (Scolanderref07_Set.mk b3_Default b3_Closed b3_Fuel b3_Stack b3_Rules) .sh)), (.v (.int .i64 0))])), [(r_Scolanderref07_Set b0 ob0_Rules), (r_Scolanderref07_Delta b1 ob1_Put ob1_Drop), (r_Scolanderref07_Set (Scolanderref07_Set.mk b3_Default b3_Closed b3_Fuel b3_Stack b3_Rules) (shrO ob3_Rules)), (r_Scolanderref07_Set (Scolanderref07_Set.mk b3_Default b3_Closed b3_Fuel b3_Stack b3_Rules) ob3_Rules)])) (by kernel_rfl) (Sim.ret ⟨[(r_Scolanderref07_Set b0 ob0_Rules), (r_Scolanderref07_Delta b1 ob1_Put ob1_Drop), (r_Scolanderref07_Set (Scolanderref07_Set.mk b3_Default b3_Closed b3_Fuel b3_Stack b3_Rules) (shrO ob3_Rules)), (r_Scolanderref07_Set (Scolanderref07_Set.mk b3_Default b3_Closed b3_Fuel b3_Stack b3_Rules) ob3_Rules)], by kernel_rfl⟩)
noncomputable def b17_r32 (b3_Default : Int) (b3_Closed : Int) (b3_Fuel : Int) (b3_Stack : Int) (b3_Rules : List Srule_Rule) : Option (Scolanderref07_Set × Int) :=
 if ((decide (16 < (b3_Rules.length : Int)))) = true then
 (some ((Scolanderref07_Set.mk 0 0 0 0 ([] : List Srule_Rule)), 33))
 else
 (b17_r34 b3_Default b3_Closed b3_Fuel b3_Stack b3_Rules)
theorem g17_r32_sim (b0 : Scolanderref07_Set) (b1 : Scolanderref07_Delta) (b2 : Scolanderref07_Set) (b3_Default : Int) (b3_Closed : Int) (b3_Fuel : Int) (b3_Stack : Int) (b3_Rules : List Srule_Rule) (ob0_Rules : Own) (ob1_Put : Own) (ob1_Drop : Own) (ob2_Rules : Own) (ob3_Rules : Own) (hob2_Rules : okApp ob2_Rules = true) (hob3_Rules : okApp ob3_Rules = true) : Sim (Q17) (b17_r32 b3_Default b3_Closed b3_Fuel b3_Stack b3_Rules) (f17_r32 0 (.ptr 2 0) (.ptr 3 0) [(r_Scolanderref07_Set b0 ob0_Rules), (r_Scolanderref07_Delta b1 ob1_Put ob1_Drop), (r_Scolanderref07_Set b2 ob2_Rules), (r_Scolanderref07_Set (Scolanderref07_Set.mk b3_Default b3_Closed b3_Fuel b3_Stack b3_Rules) ob3_Rules)]) := by
  unfold b17_r32
  refine Sim.cast (f17_r32_eq _ _ _ _) ?_
  refine Sim.mk ?_
  refine Sim.ob1 (v := (.ptr 3 4)) (by kernel_rfl) ?_
  refine Sim.ob1 (v := (.p (.lst (shrO ob3_Rules) (b3_Rules.map e_Srule_Rule)))) (by kernel_rfl) ?_
  refine Sim.ob1 (v := (iv (b3_Rules.length : Int))) (Eq.trans (by kernel_rfl) (xlen_of (P := PP) (t := 34) (d := 69) (by kernel_rfl) e_Srule_Rule (shrO ob3_Rules) b3_Rules)) ?_
  refine Sim.ob1 (v := (bv (decide (16 < (b3_Rules.length : Int))))) (by kernel_rfl) ?_
  refine Sim.asB (b := (decide (16 < (b3_Rules.length : Int)))) (by kernel_rfl) ?_
  refine Sim.br (fun _ => ?_) (fun _ => ?_)
  · skip
    refine Sim.mk ?_
    refine Sim.ob1 (v := (.p (.agg (k_Scolanderref07_Set (Scolanderref07_Set.mk 0 0 0 0 ([] : List Srule_Rule)) .nl)))) (by kernel_rfl) ?_
    refine Sim.stN (B2 := [(r_Scolanderref07_Set b0 ob0_Rules), (r_Scolanderref07_Delta b1 ob1_Put ob1_Drop), (r_Scolanderref07_Set (Scolanderref07_Set.mk 0 0 0 0 ([] : List Srule_Rule)) .nl), (r_Scolanderref07_Set (Scolanderref07_Set.mk b3_Default b3_Closed b3_Fuel b3_Stack b3_Rules) ob3_Rules)]) (fun _ => by kernel_rfl) ?_
    exact Sim.cast (y' := some ((.p (.tup [(.agg (k_Scolanderref07_Set (Scolanderref07_Set.mk 0 0 0 0 ([] : List Srule_Rule)) .sh)), (.v (.int .i64 33))])), [(r_Scolanderref07_Set b0 ob0_Rules), (r_Scolanderref07_Delta b1 ob1_Put ob1_Drop), (r_Scolanderref07_Set (Scolanderref07_Set.mk 0 0 0 0 ([] : List Srule_Rule)) .nl), (r_Scolanderref07_Set (Scolanderref07_Set.mk b3_Default b3_Closed b3_Fuel b3_Stack b3_Rules) ob3_Rules)])) (by kernel_rfl) (Sim.ret ⟨[(r_Scolanderref07_Set b0 ob0_Rules), (r_Scolanderref07_Delta b1 ob1_Put ob1_Drop), (r_Scolanderref07_Set (Scolanderref07_Set.mk 0 0 0 0 ([] : List Srule_Rule)) .nl), (r_Scolanderref07_Set (Scolanderref07_Set.mk b3_Default b3_Closed b3_Fuel b3_Stack b3_Rules) ob3_Rules)], by kernel_rfl⟩)
  · skip
    exact Sim.cast (by kernel_rfl) (g17_r34_sim (b0) (b1) (b2) (b3_Default) (b3_Closed) (b3_Fuel) (b3_Stack) (b3_Rules) ob0_Rules ob1_Put ob1_Drop ob2_Rules ob3_Rules hob2_Rules hob3_Rules)
noncomputable def b17_l29 (x12 : Int) (b1 : Scolanderref07_Delta) (b3_Default : Int) (b3_Closed : Int) (b3_Fuel : Int) (b3_Stack : Int) (b3_Rules : List Srule_Rule) : Option (Scolanderref07_Set × Int) :=
 if ((decide (x12 < (b1.Put.length : Int)))) = true then
 (b17_r31 x12 b1 b3_Default b3_Closed b3_Fuel b3_Stack b3_Rules)
 else
 (b17_r32 b3_Default b3_Closed b3_Fuel b3_Stack b3_Rules)
theorem g17_l29_sim (x12 : Int) (b0 : Scolanderref07_Set) (b1 : Scolanderref07_Delta) (b2 : Scolanderref07_Set) (b3_Default : Int) (b3_Closed : Int) (b3_Fuel : Int) (b3_Stack : Int) (b3_Rules : List Srule_Rule) (ob0_Rules : Own) (ob1_Put : Own) (ob1_Drop : Own) (ob2_Rules : Own) (ob3_Rules : Own) (hob2_Rules : okApp ob2_Rules = true) (hob3_Rules : okApp ob3_Rules = true) : Sim (Q17) (b17_l29 x12 b1 b3_Default b3_Closed b3_Fuel b3_Stack b3_Rules) (f17_l29 0 (.ptr 1 0) (.ptr 2 0) (.ptr 3 0) (iv x12) [(r_Scolanderref07_Set b0 ob0_Rules), (r_Scolanderref07_Delta b1 ob1_Put ob1_Drop), (r_Scolanderref07_Set b2 ob2_Rules), (r_Scolanderref07_Set (Scolanderref07_Set.mk b3_Default b3_Closed b3_Fuel b3_Stack b3_Rules) ob3_Rules)]) := by
  unfold b17_l29
  refine Sim.cast (f17_l29_eq _ _ _ _ _ _) ?_
  refine Sim.mk ?_
  refine Sim.ob1 (v := (.ptr 1 4)) (by kernel_rfl) ?_
  refine Sim.ob1 (v := (.p (.lst (shrO ob1_Put) (b1.Put.map e_Srule_Rule)))) (by kernel_rfl) ?_
  refine Sim.ob1 (v := (iv (b1.Put.length : Int))) (Eq.trans (by kernel_rfl) (xlen_of (P := PP) (t := 34) (d := 69) (by kernel_rfl) e_Srule_Rule (shrO ob1_Put) b1.Put)) ?_
  refine Sim.ob1 (v := (bv (decide (x12 < (b1.Put.length : Int))))) (by kernel_rfl) ?_
  refine Sim.asB (b := (decide (x12 < (b1.Put.length : Int)))) (by kernel_rfl) ?_
  refine Sim.br (fun _ => ?_) (fun _ => ?_)
  · skip
    exact Sim.cast (by kernel_rfl) (g17_r31_sim (x12) (b0) (b1) (b2) (b3_Default) (b3_Closed) (b3_Fuel) (b3_Stack) (b3_Rules) ob0_Rules ob1_Put ob1_Drop ob2_Rules ob3_Rules hob2_Rules hob3_Rules)
  · skip
    exact Sim.cast (by kernel_rfl) (g17_r32_sim (b0) (b1) (b2) (b3_Default) (b3_Closed) (b3_Fuel) (b3_Stack) (b3_Rules) ob0_Rules ob1_Put ob1_Drop ob2_Rules ob3_Rules hob2_Rules hob3_Rules)
theorem g17_l29_of (x12 : Int) (b1 : Scolanderref07_Delta) (b3_Default : Int) (b3_Closed : Int) (b3_Fuel : Int) (b3_Stack : Int) (b3_Rules : List Srule_Rule) {r} (h : b17_l29 x12 b1 b3_Default b3_Closed b3_Fuel b3_Stack b3_Rules = some r) : g17_l29 x12 b1 b3_Default b3_Closed b3_Fuel b3_Stack b3_Rules = some r :=
  pick_of (fun _ _ ha hb => RRun.uniq (Q17_u) (ha default default .ex .ex .ex .ex .ex rfl rfl) (hb default default .ex .ex .ex .ex .ex rfl rfl)) (fun b0 b2 ob0_Rules ob1_Put ob1_Drop ob2_Rules ob3_Rules hob2_Rules hob3_Rules => g17_l29_sim x12 b0 b1 b2 b3_Default b3_Closed b3_Fuel b3_Stack b3_Rules ob0_Rules ob1_Put ob1_Drop ob2_Rules ob3_Rules hob2_Rules hob3_Rules r h)
noncomputable def b17_r31v1 (x12 : Int) (b1 : Scolanderref07_Delta) (b3_Default : Int) (b3_Closed : Int) (b3_Fuel : Int) (b3_Stack : Int) (b3_Rules : List Srule_Rule) : Option (Scolanderref07_Set × Int) :=
 (lget b1.Put x12).bind fun a1 =>
 (g37 b3_Rules a1).bind fun r2 =>
 g17_l29v1 ((IntKind.i64.wrap (x12 + 1))) b1 b3_Default b3_Closed b3_Fuel b3_Stack r2
theorem g17_r31v1_sim (x12 : Int) (b0 : Scolanderref07_Set) (b1 : Scolanderref07_Delta) (b2 : Scolanderref07_Set) (b3_Default : Int) (b3_Closed : Int) (b3_Fuel : Int) (b3_Stack : Int) (b3_Rules : List Srule_Rule) (ob0_Rules : Own) (ob1_Put : Own) (ob1_Drop : Own) (ob2_Rules : Own) (ob3_Rules : Own) (hob2_Rules : okApp ob2_Rules = true) : Sim (Q17) (b17_r31v1 x12 b1 b3_Default b3_Closed b3_Fuel b3_Stack b3_Rules) (f17_r31 0 (.ptr 1 0) (.ptr 2 0) (.ptr 3 0) (iv x12) [(r_Scolanderref07_Set b0 ob0_Rules), (r_Scolanderref07_Delta b1 ob1_Put ob1_Drop), (r_Scolanderref07_Set b2 ob2_Rules), (r_Scolanderref07_Set (Scolanderref07_Set.mk b3_Default b3_Closed b3_Fuel b3_Stack b3_Rules) ob3_Rules)]) := by
  unfold b17_r31v1
  refine Sim.cast (f17_r31_eq _ _ _ _ _ _) ?_
  refine Sim.mk ?_
  refine Sim.ob1 (v := (.ptr 3 4)) (by kernel_rfl) ?_
  refine Sim.ob1 (v := (.p (.lst (shrO ob3_Rules) (b3_Rules.map e_Srule_Rule)))) (by kernel_rfl) ?_
  refine Sim.ob1 (v := (.ptr 1 4)) (by kernel_rfl) ?_
  refine Sim.ob1 (v := (.p (.lst (shrO ob1_Put) (b1.Put.map e_Srule_Rule)))) (by kernel_rfl) ?_
  refine Sim.bind fun a1 ha1 => ?_
  refine Sim.ob1 (v := (.cptr (k_Srule_Rule a1))) (Eq.trans (by kernel_rfl) (xidx_of (o := (shrO ob1_Put)) (k := .i64) (n := 5) (e := e_Srule_Rule) (cs := c_Srule_Rule) (fun _ => rfl) (fun _ => rfl) (by decide) ha1)) ?_
  refine Sim.ob1 (v := (.p (.agg (k_Srule_Rule a1)))) (by kernel_rfl) ?_
  refine Sim.bind fun r2 hr2 => ?_
  obtain ⟨qr2, er2, exr2, rfl⟩ := g37_to (b3_Rules) (a1) .sh r2 hr2
  refine Sim.callS (rs := []) (v := (.p (.lst .sh (r2.map e_Srule_Rule)))) (B2 := [(r_Scolanderref07_Set b0 ob0_Rules), (r_Scolanderref07_Delta b1 ob1_Put ob1_Drop), (r_Scolanderref07_Set b2 ob2_Rules), (r_Scolanderref07_Set (Scolanderref07_Set.mk b3_Default b3_Closed b3_Fuel b3_Stack b3_Rules) ob3_Rules)]) (fun _ => by kernel_rfl) er2 (fun _ => by kernel_rfl) ?_
  refine Sim.ob1 (v := (.ptr 3 4)) (by kernel_rfl) ?_
  refine Sim.stN (B2 := [(r_Scolanderref07_Set b0 ob0_Rules), (r_Scolanderref07_Delta b1 ob1_Put ob1_Drop), (r_Scolanderref07_Set b2 ob2_Rules), (r_Scolanderref07_Set (Scolanderref07_Set.mk b3_Default b3_Closed b3_Fuel b3_Stack r2) .sh)]) (fun _ => by kernel_rfl) ?_
  refine Sim.mk ?_
  refine Sim.ob1 (v := (iv (IntKind.i64.wrap (x12 + 1)))) (by kernel_rfl) ?_
  exact Sim.cast (by kernel_rfl) (g17_l29v1_to ((IntKind.i64.wrap (x12 + 1))) (b0) (b1) (b2) (b3_Default) (b3_Closed) (b3_Fuel) (b3_Stack) (r2) ob0_Rules ob1_Put ob1_Drop ob2_Rules .sh hob2_Rules)
noncomputable def b17_r34v1 (b3_Default : Int) (b3_Closed : Int) (b3_Fuel : Int) (b3_Stack : Int) (b3_Rules : List Srule_Rule) : Option (Scolanderref07_Set × Int) :=
 some ((Scolanderref07_Set.mk b3_Default b3_Closed b3_Fuel b3_Stack b3_Rules), 0)
theorem g17_r34v1_sim (b0 : Scolanderref07_Set) (b1 : Scolanderref07_Delta) (b2 : Scolanderref07_Set) (b3_Default : Int) (b3_Closed : Int) (b3_Fuel : Int) (b3_Stack : Int) (b3_Rules : List Srule_Rule) (ob0_Rules : Own) (ob1_Put : Own) (ob1_Drop : Own) (ob2_Rules : Own) (ob3_Rules : Own) (hob2_Rules : okApp ob2_Rules = true) : Sim (Q17) (b17_r34v1 b3_Default b3_Closed b3_Fuel b3_Stack b3_Rules) (f17_r34 0 (.ptr 2 0) (.ptr 3 0) [(r_Scolanderref07_Set b0 ob0_Rules), (r_Scolanderref07_Delta b1 ob1_Put ob1_Drop), (r_Scolanderref07_Set b2 ob2_Rules), (r_Scolanderref07_Set (Scolanderref07_Set.mk b3_Default b3_Closed b3_Fuel b3_Stack b3_Rules) ob3_Rules)]) := by
  unfold b17_r34v1
  refine Sim.cast (f17_r34_eq _ _ _ _) ?_
  refine Sim.mk ?_
  refine Sim.ob1 (v := (.p (.agg (k_Scolanderref07_Set (Scolanderref07_Set.mk b3_Default b3_Closed b3_Fuel b3_Stack b3_Rules) (shrO ob3_Rules))))) (by kernel_rfl) ?_
  refine Sim.stN (B2 := [(r_Scolanderref07_Set b0 ob0_Rules), (r_Scolanderref07_Delta b1 ob1_Put ob1_Drop), (r_Scolanderref07_Set (Scolanderref07_Set.mk b3_Default b3_Closed b3_Fuel b3_Stack b3_Rules) (shrO ob3_Rules)), (r_Scolanderref07_Set (Scolanderref07_Set.mk b3_Default b3_Closed b3_Fuel b3_Stack b3_Rules) ob3_Rules)]) (fun _ => by kernel_rfl) ?_
  exact Sim.cast (y' := some ((.p (.tup [(.agg (k_Scolanderref07_Set (Scolanderref07_Set.mk b3_Default b3_Closed b3_Fuel b3_Stack b3_Rules) .sh)), (.v (.int .i64 0))])), [(r_Scolanderref07_Set b0 ob0_Rules), (r_Scolanderref07_Delta b1 ob1_Put ob1_Drop), (r_Scolanderref07_Set (Scolanderref07_Set.mk b3_Default b3_Closed b3_Fuel b3_Stack b3_Rules) (shrO ob3_Rules)), (r_Scolanderref07_Set (Scolanderref07_Set.mk b3_Default b3_Closed b3_Fuel b3_Stack b3_Rules) ob3_Rules)])) (by kernel_rfl) (Sim.ret ⟨[(r_Scolanderref07_Set b0 ob0_Rules), (r_Scolanderref07_Delta b1 ob1_Put ob1_Drop), (r_Scolanderref07_Set (Scolanderref07_Set.mk b3_Default b3_Closed b3_Fuel b3_Stack b3_Rules) (shrO ob3_Rules)), (r_Scolanderref07_Set (Scolanderref07_Set.mk b3_Default b3_Closed b3_Fuel b3_Stack b3_Rules) ob3_Rules)], by kernel_rfl⟩)
noncomputable def b17_r32v1 (b3_Default : Int) (b3_Closed : Int) (b3_Fuel : Int) (b3_Stack : Int) (b3_Rules : List Srule_Rule) : Option (Scolanderref07_Set × Int) :=
 if ((decide (16 < (b3_Rules.length : Int)))) = true then
 (some ((Scolanderref07_Set.mk 0 0 0 0 ([] : List Srule_Rule)), 33))
 else
 (b17_r34v1 b3_Default b3_Closed b3_Fuel b3_Stack b3_Rules)
theorem g17_r32v1_sim (b0 : Scolanderref07_Set) (b1 : Scolanderref07_Delta) (b2 : Scolanderref07_Set) (b3_Default : Int) (b3_Closed : Int) (b3_Fuel : Int) (b3_Stack : Int) (b3_Rules : List Srule_Rule) (ob0_Rules : Own) (ob1_Put : Own) (ob1_Drop : Own) (ob2_Rules : Own) (ob3_Rules : Own) (hob2_Rules : okApp ob2_Rules = true) : Sim (Q17) (b17_r32v1 b3_Default b3_Closed b3_Fuel b3_Stack b3_Rules) (f17_r32 0 (.ptr 2 0) (.ptr 3 0) [(r_Scolanderref07_Set b0 ob0_Rules), (r_Scolanderref07_Delta b1 ob1_Put ob1_Drop), (r_Scolanderref07_Set b2 ob2_Rules), (r_Scolanderref07_Set (Scolanderref07_Set.mk b3_Default b3_Closed b3_Fuel b3_Stack b3_Rules) ob3_Rules)]) := by
  unfold b17_r32v1
  refine Sim.cast (f17_r32_eq _ _ _ _) ?_
  refine Sim.mk ?_
  refine Sim.ob1 (v := (.ptr 3 4)) (by kernel_rfl) ?_
  refine Sim.ob1 (v := (.p (.lst (shrO ob3_Rules) (b3_Rules.map e_Srule_Rule)))) (by kernel_rfl) ?_
  refine Sim.ob1 (v := (iv (b3_Rules.length : Int))) (Eq.trans (by kernel_rfl) (xlen_of (P := PP) (t := 34) (d := 69) (by kernel_rfl) e_Srule_Rule (shrO ob3_Rules) b3_Rules)) ?_
  refine Sim.ob1 (v := (bv (decide (16 < (b3_Rules.length : Int))))) (by kernel_rfl) ?_
  refine Sim.asB (b := (decide (16 < (b3_Rules.length : Int)))) (by kernel_rfl) ?_
  refine Sim.br (fun _ => ?_) (fun _ => ?_)
  · skip
    refine Sim.mk ?_
    refine Sim.ob1 (v := (.p (.agg (k_Scolanderref07_Set (Scolanderref07_Set.mk 0 0 0 0 ([] : List Srule_Rule)) .nl)))) (by kernel_rfl) ?_
    refine Sim.stN (B2 := [(r_Scolanderref07_Set b0 ob0_Rules), (r_Scolanderref07_Delta b1 ob1_Put ob1_Drop), (r_Scolanderref07_Set (Scolanderref07_Set.mk 0 0 0 0 ([] : List Srule_Rule)) .nl), (r_Scolanderref07_Set (Scolanderref07_Set.mk b3_Default b3_Closed b3_Fuel b3_Stack b3_Rules) ob3_Rules)]) (fun _ => by kernel_rfl) ?_
    exact Sim.cast (y' := some ((.p (.tup [(.agg (k_Scolanderref07_Set (Scolanderref07_Set.mk 0 0 0 0 ([] : List Srule_Rule)) .sh)), (.v (.int .i64 33))])), [(r_Scolanderref07_Set b0 ob0_Rules), (r_Scolanderref07_Delta b1 ob1_Put ob1_Drop), (r_Scolanderref07_Set (Scolanderref07_Set.mk 0 0 0 0 ([] : List Srule_Rule)) .nl), (r_Scolanderref07_Set (Scolanderref07_Set.mk b3_Default b3_Closed b3_Fuel b3_Stack b3_Rules) ob3_Rules)])) (by kernel_rfl) (Sim.ret ⟨[(r_Scolanderref07_Set b0 ob0_Rules), (r_Scolanderref07_Delta b1 ob1_Put ob1_Drop), (r_Scolanderref07_Set (Scolanderref07_Set.mk 0 0 0 0 ([] : List Srule_Rule)) .nl), (r_Scolanderref07_Set (Scolanderref07_Set.mk b3_Default b3_Closed b3_Fuel b3_Stack b3_Rules) ob3_Rules)], by kernel_rfl⟩)
  · skip
    exact Sim.cast (by kernel_rfl) (g17_r34v1_sim (b0) (b1) (b2) (b3_Default) (b3_Closed) (b3_Fuel) (b3_Stack) (b3_Rules) ob0_Rules ob1_Put ob1_Drop ob2_Rules ob3_Rules hob2_Rules)
noncomputable def b17_l29v1 (x12 : Int) (b1 : Scolanderref07_Delta) (b3_Default : Int) (b3_Closed : Int) (b3_Fuel : Int) (b3_Stack : Int) (b3_Rules : List Srule_Rule) : Option (Scolanderref07_Set × Int) :=
 if ((decide (x12 < (b1.Put.length : Int)))) = true then
 (b17_r31v1 x12 b1 b3_Default b3_Closed b3_Fuel b3_Stack b3_Rules)
 else
 (b17_r32v1 b3_Default b3_Closed b3_Fuel b3_Stack b3_Rules)
theorem g17_l29v1_sim (x12 : Int) (b0 : Scolanderref07_Set) (b1 : Scolanderref07_Delta) (b2 : Scolanderref07_Set) (b3_Default : Int) (b3_Closed : Int) (b3_Fuel : Int) (b3_Stack : Int) (b3_Rules : List Srule_Rule) (ob0_Rules : Own) (ob1_Put : Own) (ob1_Drop : Own) (ob2_Rules : Own) (ob3_Rules : Own) (hob2_Rules : okApp ob2_Rules = true) : Sim (Q17) (b17_l29v1 x12 b1 b3_Default b3_Closed b3_Fuel b3_Stack b3_Rules) (f17_l29 0 (.ptr 1 0) (.ptr 2 0) (.ptr 3 0) (iv x12) [(r_Scolanderref07_Set b0 ob0_Rules), (r_Scolanderref07_Delta b1 ob1_Put ob1_Drop), (r_Scolanderref07_Set b2 ob2_Rules), (r_Scolanderref07_Set (Scolanderref07_Set.mk b3_Default b3_Closed b3_Fuel b3_Stack b3_Rules) ob3_Rules)]) := by
  unfold b17_l29v1
  refine Sim.cast (f17_l29_eq _ _ _ _ _ _) ?_
  refine Sim.mk ?_
  refine Sim.ob1 (v := (.ptr 1 4)) (by kernel_rfl) ?_
  refine Sim.ob1 (v := (.p (.lst (shrO ob1_Put) (b1.Put.map e_Srule_Rule)))) (by kernel_rfl) ?_
  refine Sim.ob1 (v := (iv (b1.Put.length : Int))) (Eq.trans (by kernel_rfl) (xlen_of (P := PP) (t := 34) (d := 69) (by kernel_rfl) e_Srule_Rule (shrO ob1_Put) b1.Put)) ?_
  refine Sim.ob1 (v := (bv (decide (x12 < (b1.Put.length : Int))))) (by kernel_rfl) ?_
  refine Sim.asB (b := (decide (x12 < (b1.Put.length : Int)))) (by kernel_rfl) ?_
  refine Sim.br (fun _ => ?_) (fun _ => ?_)
  · skip
    exact Sim.cast (by kernel_rfl) (g17_r31v1_sim (x12) (b0) (b1) (b2) (b3_Default) (b3_Closed) (b3_Fuel) (b3_Stack) (b3_Rules) ob0_Rules ob1_Put ob1_Drop ob2_Rules ob3_Rules hob2_Rules)
  · skip
    exact Sim.cast (by kernel_rfl) (g17_r32v1_sim (b0) (b1) (b2) (b3_Default) (b3_Closed) (b3_Fuel) (b3_Stack) (b3_Rules) ob0_Rules ob1_Put ob1_Drop ob2_Rules ob3_Rules hob2_Rules)
theorem g17_l29v1_of (x12 : Int) (b1 : Scolanderref07_Delta) (b3_Default : Int) (b3_Closed : Int) (b3_Fuel : Int) (b3_Stack : Int) (b3_Rules : List Srule_Rule) {r} (h : b17_l29v1 x12 b1 b3_Default b3_Closed b3_Fuel b3_Stack b3_Rules = some r) : g17_l29v1 x12 b1 b3_Default b3_Closed b3_Fuel b3_Stack b3_Rules = some r :=
  pick_of (fun _ _ ha hb => RRun.uniq (Q17_u) (ha default default .ex .ex .ex .ex .ex rfl) (hb default default .ex .ex .ex .ex .ex rfl)) (fun b0 b2 ob0_Rules ob1_Put ob1_Drop ob2_Rules ob3_Rules hob2_Rules => g17_l29v1_sim x12 b0 b1 b2 b3_Default b3_Closed b3_Fuel b3_Stack b3_Rules ob0_Rules ob1_Put ob1_Drop ob2_Rules ob3_Rules hob2_Rules r h)
/-! "(colander/colanderref07.Set).Right": g19 -/
noncomputable def b19_r2  : Option (Bool) :=
 some (false)
theorem g19_r2_sim  : Sim (Q19) (b19_r2) (f19_r2 0  []) := by
  unfold b19_r2
  refine Sim.cast (f19_r2_eq _ _) ?_
  refine Sim.mk ?_
  exact Sim.cast (y' := some ((bv false), [])) (by kernel_rfl) (Sim.ret ⟨[], by kernel_rfl⟩)
noncomputable def b19_r3 (b0 : Scolanderref07_Set) : Option (Bool) :=
 g19_l4 0 b0
theorem g19_r3_sim (b0 : Scolanderref07_Set) (ob0_Rules : Own) : Sim (Q19) (b19_r3 b0) (f19_r3 0 (.ptr 0 0) [(r_Scolanderref07_Set b0 ob0_Rules)]) := by
  unfold b19_r3
  refine Sim.cast (f19_r3_eq _ _ _) ?_
  refine Sim.mk ?_
  exact Sim.cast (by kernel_rfl) (g19_l4_to (0) (b0) ob0_Rules)
noncomputable def b19 (x0 : Scolanderref07_Set) : Option (Bool) :=
 (g33 x0).bind fun r1 =>
 if ((!r1)) = true then
 (b19_r2)
 else
 (if ((decide (16 < (x0.Rules.length : Int)))) = true then
 (b19_r2)
 else
 (b19_r3 x0))
theorem g19_sim (x0 : Scolanderref07_Set) (ox0_Rules : Own) : Sim (Q19) (b19 x0) (EE 19 [(.p (.agg (k_Scolanderref07_Set x0 ox0_Rules)))] []) := by
  unfold b19
  refine Sim.cast (f19_eq _ _) ?_
  refine Sim.mk ?_
  refine Sim.bx (v := (.ptr 0 0)) (B2 := [(r_Scolanderref07_Set x0 ox0_Rules)]) (fun _ => by kernel_rfl) ?_
  refine Sim.mk ?_
  refine Sim.ob1 (v := (.p (.agg (k_Scolanderref07_Set x0 (shrO ox0_Rules))))) (by kernel_rfl) ?_
  refine Sim.bind fun r1 hr1 => ?_
  obtain ⟨qr1, er1, exr1, rfl⟩ := g33_to (x0) .sh r1 hr1
  refine Sim.callS (rs := []) (v := (bv r1)) (B2 := [(r_Scolanderref07_Set x0 ox0_Rules)]) (fun _ => by kernel_rfl) er1 (fun _ => by kernel_rfl) ?_
  refine Sim.ob1 (v := (bv (!r1))) (by kernel_rfl) ?_
  refine Sim.asB (b := (!r1)) (by kernel_rfl) ?_
  refine Sim.br (fun _ => ?_) (fun _ => ?_)
  · skip
    exact Sim.cast (by kernel_rfl) (g19_r2_sim )
  · skip
    refine Sim.ob1 (v := (.ptr 0 4)) (by kernel_rfl) ?_
    refine Sim.ob1 (v := (.p (.lst (shrO ox0_Rules) (x0.Rules.map e_Srule_Rule)))) (by kernel_rfl) ?_
    refine Sim.ob1 (v := (iv (x0.Rules.length : Int))) (Eq.trans (by kernel_rfl) (xlen_of (P := PP) (t := 34) (d := 69) (by kernel_rfl) e_Srule_Rule (shrO ox0_Rules) x0.Rules)) ?_
    refine Sim.ob1 (v := (bv (decide (16 < (x0.Rules.length : Int))))) (by kernel_rfl) ?_
    refine Sim.asB (b := (decide (16 < (x0.Rules.length : Int)))) (by kernel_rfl) ?_
    refine Sim.br (fun _ => ?_) (fun _ => ?_)
    · skip
      exact Sim.cast (by kernel_rfl) (g19_r2_sim )
    · skip
      exact Sim.cast (by kernel_rfl) (g19_r3_sim (x0) ox0_Rules)
theorem g19_of (x0 : Scolanderref07_Set) {r} (h : b19 x0 = some r) : g19 x0 = some r :=
  pick_of (fun _ _ ha hb => RRun.uniq (Q19_u) (ha .ex) (hb .ex)) (fun ox0_Rules => g19_sim x0 ox0_Rules r h)
noncomputable def b19_r7  : Option (Bool) :=
 some (false)
theorem g19_r7_sim  : Sim (Q19) (b19_r7) (f19_r7 0  []) := by
  unfold b19_r7
  refine Sim.cast (f19_r7_eq _ _) ?_
  refine Sim.mk ?_
  exact Sim.cast (y' := some ((bv false), [])) (by kernel_rfl) (Sim.ret ⟨[], by kernel_rfl⟩)
noncomputable def b19_r5 (x3 : Int) (b0 : Scolanderref07_Set) : Option (Bool) :=
 g19_l4 ((IntKind.i64.wrap (x3 + 1))) b0
theorem g19_r5_sim (x3 : Int) (b0 : Scolanderref07_Set) (ob0_Rules : Own) : Sim (Q19) (b19_r5 x3 b0) (f19_r5 0 (.ptr 0 0) (iv x3) [(r_Scolanderref07_Set b0 ob0_Rules)]) := by
  unfold b19_r5
  refine Sim.cast (f19_r5_eq _ _ _ _) ?_
  refine Sim.mk ?_
  refine Sim.ob1 (v := (iv (IntKind.i64.wrap (x3 + 1)))) (by kernel_rfl) ?_
  exact Sim.cast (by kernel_rfl) (g19_l4_to ((IntKind.i64.wrap (x3 + 1))) (b0) ob0_Rules)
noncomputable def b19_r6 (x3 : Int) (b0 : Scolanderref07_Set) : Option (Bool) :=
 (lget b0.Rules x3).bind fun a1 =>
 (g34 a1).bind fun r2 =>
 if ((!r2)) = true then
 (b19_r7)
 else
 (if ((decide (0 < x3))) = true then
 ((lget b0.Rules x3).bind fun a3 =>
 (lget b0.Rules (IntKind.i64.wrap (x3 - 1))).bind fun a4 =>
 if ((decide (a3.ID ≤ a4.ID))) = true then
 (b19_r7)
 else
 (b19_r5 x3 b0))
 else
 (b19_r5 x3 b0))
theorem g19_r6_sim (x3 : Int) (b0 : Scolanderref07_Set) (ob0_Rules : Own) : Sim (Q19) (b19_r6 x3 b0) (f19_r6 0 (.ptr 0 0) (iv x3) [(r_Scolanderref07_Set b0 ob0_Rules)]) := by
  unfold b19_r6
  refine Sim.cast (f19_r6_eq _ _ _ _) ?_
  refine Sim.mk ?_
  refine Sim.ob1 (v := (.ptr 0 4)) (by kernel_rfl) ?_
  refine Sim.ob1 (v := (.p (.lst (shrO ob0_Rules) (b0.Rules.map e_Srule_Rule)))) (by kernel_rfl) ?_
  refine Sim.bind fun a1 ha1 => ?_
  refine Sim.ob1 (v := (.cptr (k_Srule_Rule a1))) (Eq.trans (by kernel_rfl) (xidx_of (o := (shrO ob0_Rules)) (k := .i64) (n := 5) (e := e_Srule_Rule) (cs := c_Srule_Rule) (fun _ => rfl) (fun _ => rfl) (by decide) ha1)) ?_
  refine Sim.ob1 (v := (.p (.agg (k_Srule_Rule a1)))) (by kernel_rfl) ?_
  refine Sim.bind fun r2 hr2 => ?_
  obtain ⟨qr2, er2, exr2, rfl⟩ := g34_to (a1) r2 hr2
  refine Sim.callS (rs := []) (v := (bv r2)) (B2 := [(r_Scolanderref07_Set b0 ob0_Rules)]) (fun _ => by kernel_rfl) er2 (fun _ => by kernel_rfl) ?_
  refine Sim.ob1 (v := (bv (!r2))) (by kernel_rfl) ?_
  refine Sim.asB (b := (!r2)) (by kernel_rfl) ?_
  refine Sim.br (fun _ => ?_) (fun _ => ?_)
  · skip
    exact Sim.cast (by kernel_rfl) (g19_r7_sim )
  · skip
    refine Sim.ob1 (v := (bv (decide (0 < x3)))) (by kernel_rfl) ?_
    refine Sim.asB (b := (decide (0 < x3))) (by kernel_rfl) ?_
    refine Sim.br (fun _ => ?_) (fun _ => ?_)
    · skip
      refine Sim.ob1 (v := (.ptr 0 4)) (by kernel_rfl) ?_
      refine Sim.ob1 (v := (.p (.lst (shrO ob0_Rules) (b0.Rules.map e_Srule_Rule)))) (by kernel_rfl) ?_
      refine Sim.bind fun a3 ha3 => ?_
      refine Sim.ob1 (v := (.cptr (k_Srule_Rule a3))) (Eq.trans (by kernel_rfl) (xidx_of (o := (shrO ob0_Rules)) (k := .i64) (n := 5) (e := e_Srule_Rule) (cs := c_Srule_Rule) (fun _ => rfl) (fun _ => rfl) (by decide) ha3)) ?_
      refine Sim.ob1 (v := (.cptr [(.v (.int .i64 a3.ID)), (.v (.int .i64 a3.Priority)), (.v (.int .i64 a3.Action)), (.v (.int .i64 a3.Scope)), (.v (.string a3.Pattern))])) (by kernel_rfl) ?_
      refine Sim.ob1 (v := (iv a3.ID)) (by kernel_rfl) ?_
      refine Sim.ob1 (v := (.ptr 0 4)) (by kernel_rfl) ?_
      refine Sim.ob1 (v := (.p (.lst (shrO ob0_Rules) (b0.Rules.map e_Srule_Rule)))) (by kernel_rfl) ?_
      refine Sim.ob1 (v := (iv (IntKind.i64.wrap (x3 - 1)))) (by kernel_rfl) ?_
      refine Sim.bind fun a4 ha4 => ?_
      refine Sim.ob1 (v := (.cptr (k_Srule_Rule a4))) (Eq.trans (by kernel_rfl) (xidx_of (o := (shrO ob0_Rules)) (k := .i64) (n := 5) (e := e_Srule_Rule) (cs := c_Srule_Rule) (fun _ => rfl) (fun _ => rfl) (by decide) ha4)) ?_
      refine Sim.ob1 (v := (.cptr [(.v (.int .i64 a4.ID)), (.v (.int .i64 a4.Priority)), (.v (.int .i64 a4.Action)), (.v (.int .i64 a4.Scope)), (.v (.string a4.Pattern))])) (by kernel_rfl) ?_
      refine Sim.ob1 (v := (iv a4.ID)) (by kernel_rfl) ?_
      refine Sim.ob1 (v := (bv (decide (a3.ID ≤ a4.ID)))) (by kernel_rfl) ?_
      refine Sim.asB (b := (decide (a3.ID ≤ a4.ID))) (by kernel_rfl) ?_
      refine Sim.br (fun _ => ?_) (fun _ => ?_)
      · skip
        exact Sim.cast (by kernel_rfl) (g19_r7_sim )
      · skip
        exact Sim.cast (by kernel_rfl) (g19_r5_sim (x3) (b0) ob0_Rules)
    · skip
      exact Sim.cast (by kernel_rfl) (g19_r5_sim (x3) (b0) ob0_Rules)
noncomputable def b19_r8  : Option (Bool) :=
 some (true)
theorem g19_r8_sim  : Sim (Q19) (b19_r8) (f19_r8 0  []) := by
  unfold b19_r8
  refine Sim.cast (f19_r8_eq _ _) ?_
  refine Sim.mk ?_
  exact Sim.cast (y' := some ((bv true), [])) (by kernel_rfl) (Sim.ret ⟨[], by kernel_rfl⟩)
noncomputable def b19_l4 (x3 : Int) (b0 : Scolanderref07_Set) : Option (Bool) :=
 if ((decide (x3 < (b0.Rules.length : Int)))) = true then
 (b19_r6 x3 b0)
 else
 (b19_r8)
theorem g19_l4_sim (x3 : Int) (b0 : Scolanderref07_Set) (ob0_Rules : Own) : Sim (Q19) (b19_l4 x3 b0) (f19_l4 0 (.ptr 0 0) (iv x3) [(r_Scolanderref07_Set b0 ob0_Rules)]) := by
  unfold b19_l4
  refine Sim.cast (f19_l4_eq _ _ _ _) ?_
  refine Sim.mk ?_
  refine Sim.ob1 (v := (.ptr 0 4)) (by kernel_rfl) ?_
  refine Sim.ob1 (v := (.p (.lst (shrO ob0_Rules) (b0.Rules.map e_Srule_Rule)))) (by kernel_rfl) ?_
  refine Sim.ob1 (v := (iv (b0.Rules.length : Int))) (Eq.trans (by kernel_rfl) (xlen_of (P := PP) (t := 34) (d := 69) (by kernel_rfl) e_Srule_Rule (shrO ob0_Rules) b0.Rules)) ?_
  refine Sim.ob1 (v := (bv (decide (x3 < (b0.Rules.length : Int))))) (by kernel_rfl) ?_
  refine Sim.asB (b := (decide (x3 < (b0.Rules.length : Int)))) (by kernel_rfl) ?_
  refine Sim.br (fun _ => ?_) (fun _ => ?_)
  · skip
    exact Sim.cast (by kernel_rfl) (g19_r6_sim (x3) (b0) ob0_Rules)
  · skip
    exact Sim.cast (by kernel_rfl) (g19_r8_sim )
theorem g19_l4_of (x3 : Int) (b0 : Scolanderref07_Set) {r} (h : b19_l4 x3 b0 = some r) : g19_l4 x3 b0 = some r :=
  pick_of (fun _ _ ha hb => RRun.uniq (Q19_u) (ha .ex) (hb .ex)) (fun ob0_Rules => g19_l4_sim x3 b0 ob0_Rules r h)
/-! "(colander/colanderref07.Set).Numbered": g33 -/
noncomputable def b33 (x0 : Scolanderref07_Set) : Option (Bool) :=
 if ((decide (0 ≤ x0.Default))) = true then
 (if ((decide (x0.Default ≤ 255))) = true then
 (if ((decide (0 ≤ x0.Closed))) = true then
 (if ((decide (x0.Closed ≤ 255))) = true then
 (if ((decide (1 ≤ x0.Fuel))) = true then
 (if ((decide (x0.Fuel ≤ 1048576))) = true then
 (if ((decide (0 ≤ x0.Stack))) = true then
 (some ((decide (x0.Stack ≤ 4096))))
 else
 (some (false)))
 else
 (some (false)))
 else
 (some (false)))
 else
 (some (false)))
 else
 (some (false)))
 else
 (some (false)))
 else
 (some (false))
theorem g33_sim (x0 : Scolanderref07_Set) (ox0_Rules : Own) : Sim (Q33) (b33 x0) (EE 33 [(.p (.agg (k_Scolanderref07_Set x0 ox0_Rules)))] []) := by
  unfold b33
  refine Sim.cast (f33_eq _ _) ?_
  refine Sim.mk ?_
  refine Sim.bx (v := (.ptr 0 0)) (B2 := [(r_Scolanderref07_Set x0 ox0_Rules)]) (fun _ => by kernel_rfl) ?_
  refine Sim.mk ?_
  refine Sim.ob1 (v := (.ptr 0 0)) (by kernel_rfl) ?_
  refine Sim.ob1 (v := (iv x0.Default)) (by kernel_rfl) ?_
  refine Sim.ob1 (v := (bv (decide (0 ≤ x0.Default)))) (by kernel_rfl) ?_
  refine Sim.asB (b := (decide (0 ≤ x0.Default))) (by kernel_rfl) ?_
  refine Sim.br (fun _ => ?_) (fun _ => ?_)
  · skip
    refine Sim.ob1 (v := (.ptr 0 0)) (by kernel_rfl) ?_
    refine Sim.ob1 (v := (iv x0.Default)) (by kernel_rfl) ?_
    refine Sim.ob1 (v := (bv (decide (x0.Default ≤ 255)))) (by kernel_rfl) ?_
    refine Sim.asB (b := (decide (x0.Default ≤ 255))) (by kernel_rfl) ?_
    refine Sim.br (fun _ => ?_) (fun _ => ?_)
    · skip
      refine Sim.ob1 (v := (.ptr 0 1)) (by kernel_rfl) ?_
      refine Sim.ob1 (v := (iv x0.Closed)) (by kernel_rfl) ?_
      refine Sim.ob1 (v := (bv (decide (0 ≤ x0.Closed)))) (by kernel_rfl) ?_
      refine Sim.asB (b := (decide (0 ≤ x0.Closed))) (by kernel_rfl) ?_
      refine Sim.br (fun _ => ?_) (fun _ => ?_)
      · skip
        refine Sim.ob1 (v := (.ptr 0 1)) (by kernel_rfl) ?_
        refine Sim.ob1 (v := (iv x0.Closed)) (by kernel_rfl) ?_
        refine Sim.ob1 (v := (bv (decide (x0.Closed ≤ 255)))) (by kernel_rfl) ?_
        refine Sim.asB (b := (decide (x0.Closed ≤ 255))) (by kernel_rfl) ?_
        refine Sim.br (fun _ => ?_) (fun _ => ?_)
        · skip
          refine Sim.ob1 (v := (.ptr 0 2)) (by kernel_rfl) ?_
          refine Sim.ob1 (v := (iv x0.Fuel)) (by kernel_rfl) ?_
          refine Sim.ob1 (v := (bv (decide (1 ≤ x0.Fuel)))) (by kernel_rfl) ?_
          refine Sim.asB (b := (decide (1 ≤ x0.Fuel))) (by kernel_rfl) ?_
          refine Sim.br (fun _ => ?_) (fun _ => ?_)
          · skip
            refine Sim.ob1 (v := (.ptr 0 2)) (by kernel_rfl) ?_
            refine Sim.ob1 (v := (iv x0.Fuel)) (by kernel_rfl) ?_
            refine Sim.ob1 (v := (bv (decide (x0.Fuel ≤ 1048576)))) (by kernel_rfl) ?_
            refine Sim.asB (b := (decide (x0.Fuel ≤ 1048576))) (by kernel_rfl) ?_
            refine Sim.br (fun _ => ?_) (fun _ => ?_)
            · skip
              refine Sim.ob1 (v := (.ptr 0 3)) (by kernel_rfl) ?_
              refine Sim.ob1 (v := (iv x0.Stack)) (by kernel_rfl) ?_
              refine Sim.ob1 (v := (bv (decide (0 ≤ x0.Stack)))) (by kernel_rfl) ?_
              refine Sim.asB (b := (decide (0 ≤ x0.Stack))) (by kernel_rfl) ?_
              refine Sim.br (fun _ => ?_) (fun _ => ?_)
              · skip
                refine Sim.ob1 (v := (.ptr 0 3)) (by kernel_rfl) ?_
                refine Sim.ob1 (v := (iv x0.Stack)) (by kernel_rfl) ?_
                refine Sim.ob1 (v := (bv (decide (x0.Stack ≤ 4096)))) (by kernel_rfl) ?_
                exact Sim.cast (y' := some ((bv (decide (x0.Stack ≤ 4096))), [(r_Scolanderref07_Set x0 ox0_Rules)])) (by kernel_rfl) (Sim.ret ⟨[(r_Scolanderref07_Set x0 ox0_Rules)], by kernel_rfl⟩)
              · skip
                exact Sim.cast (y' := some ((bv false), [(r_Scolanderref07_Set x0 ox0_Rules)])) (by kernel_rfl) (Sim.ret ⟨[(r_Scolanderref07_Set x0 ox0_Rules)], by kernel_rfl⟩)
            · skip
              exact Sim.cast (y' := some ((bv false), [(r_Scolanderref07_Set x0 ox0_Rules)])) (by kernel_rfl) (Sim.ret ⟨[(r_Scolanderref07_Set x0 ox0_Rules)], by kernel_rfl⟩)
          · skip
            exact Sim.cast (y' := some ((bv false), [(r_Scolanderref07_Set x0 ox0_Rules)])) (by kernel_rfl) (Sim.ret ⟨[(r_Scolanderref07_Set x0 ox0_Rules)], by kernel_rfl⟩)
        · skip
          exact Sim.cast (y' := some ((bv false), [(r_Scolanderref07_Set x0 ox0_Rules)])) (by kernel_rfl) (Sim.ret ⟨[(r_Scolanderref07_Set x0 ox0_Rules)], by kernel_rfl⟩)
      · skip
        exact Sim.cast (y' := some ((bv false), [(r_Scolanderref07_Set x0 ox0_Rules)])) (by kernel_rfl) (Sim.ret ⟨[(r_Scolanderref07_Set x0 ox0_Rules)], by kernel_rfl⟩)
    · skip
      exact Sim.cast (y' := some ((bv false), [(r_Scolanderref07_Set x0 ox0_Rules)])) (by kernel_rfl) (Sim.ret ⟨[(r_Scolanderref07_Set x0 ox0_Rules)], by kernel_rfl⟩)
  · skip
    exact Sim.cast (y' := some ((bv false), [(r_Scolanderref07_Set x0 ox0_Rules)])) (by kernel_rfl) (Sim.ret ⟨[(r_Scolanderref07_Set x0 ox0_Rules)], by kernel_rfl⟩)
theorem g33_of (x0 : Scolanderref07_Set) {r} (h : b33 x0 = some r) : g33 x0 = some r :=
  pick_of (fun _ _ ha hb => RRun.uniq (Q33_u) (ha .ex) (hb .ex)) (fun ox0_Rules => g33_sim x0 ox0_Rules r h)
/-! "(colander/colanderref07.Rule).Right": g34 -/
noncomputable def b34 (x0 : Srule_Rule) : Option (Bool) :=
 if ((decide (1 ≤ x0.ID))) = true then
 (if ((decide (x0.ID ≤ 1099511627776))) = true then
 (if ((decide (0 ≤ x0.Priority))) = true then
 (if ((decide (x0.Priority ≤ 1000))) = true then
 (if ((decide (0 ≤ x0.Action))) = true then
 (if ((decide (x0.Action ≤ 255))) = true then
 (if ((decide (1 ≤ x0.Scope))) = true then
 (if ((decide (x0.Scope ≤ 65535))) = true then
 (some ((decide ((x0.Pattern.size : Int) ≤ 256))))
 else
 (some (false)))
 else
 (some (false)))
 else
 (some (false)))
 else
 (some (false)))
 else
 (some (false)))
 else
 (some (false)))
 else
 (some (false)))
 else
 (some (false))
theorem g34_sim (x0 : Srule_Rule) : Sim (Q34) (b34 x0) (EE 34 [(.p (.agg (k_Srule_Rule x0)))] []) := by
  unfold b34
  refine Sim.cast (f34_eq _ _) ?_
  refine Sim.mk ?_
  refine Sim.bx (v := (.ptr 0 0)) (B2 := [(r_Srule_Rule x0)]) (fun _ => by kernel_rfl) ?_
  refine Sim.mk ?_
  refine Sim.ob1 (v := (.ptr 0 0)) (by kernel_rfl) ?_
  refine Sim.ob1 (v := (iv x0.ID)) (by kernel_rfl) ?_
  refine Sim.ob1 (v := (bv (decide (1 ≤ x0.ID)))) (by kernel_rfl) ?_
  refine Sim.asB (b := (decide (1 ≤ x0.ID))) (by kernel_rfl) ?_
  refine Sim.br (fun _ => ?_) (fun _ => ?_)
  · skip
    refine Sim.ob1 (v := (.ptr 0 0)) (by kernel_rfl) ?_
    refine Sim.ob1 (v := (iv x0.ID)) (by kernel_rfl) ?_
    refine Sim.ob1 (v := (bv (decide (x0.ID ≤ 1099511627776)))) (by kernel_rfl) ?_
    refine Sim.asB (b := (decide (x0.ID ≤ 1099511627776))) (by kernel_rfl) ?_
    refine Sim.br (fun _ => ?_) (fun _ => ?_)
    · skip
      refine Sim.ob1 (v := (.ptr 0 1)) (by kernel_rfl) ?_
      refine Sim.ob1 (v := (iv x0.Priority)) (by kernel_rfl) ?_
      refine Sim.ob1 (v := (bv (decide (0 ≤ x0.Priority)))) (by kernel_rfl) ?_
      refine Sim.asB (b := (decide (0 ≤ x0.Priority))) (by kernel_rfl) ?_
      refine Sim.br (fun _ => ?_) (fun _ => ?_)
      · skip
        refine Sim.ob1 (v := (.ptr 0 1)) (by kernel_rfl) ?_
        refine Sim.ob1 (v := (iv x0.Priority)) (by kernel_rfl) ?_
        refine Sim.ob1 (v := (bv (decide (x0.Priority ≤ 1000)))) (by kernel_rfl) ?_
        refine Sim.asB (b := (decide (x0.Priority ≤ 1000))) (by kernel_rfl) ?_
        refine Sim.br (fun _ => ?_) (fun _ => ?_)
        · skip
          refine Sim.ob1 (v := (.ptr 0 2)) (by kernel_rfl) ?_
          refine Sim.ob1 (v := (iv x0.Action)) (by kernel_rfl) ?_
          refine Sim.ob1 (v := (bv (decide (0 ≤ x0.Action)))) (by kernel_rfl) ?_
          refine Sim.asB (b := (decide (0 ≤ x0.Action))) (by kernel_rfl) ?_
          refine Sim.br (fun _ => ?_) (fun _ => ?_)
          · skip
            refine Sim.ob1 (v := (.ptr 0 2)) (by kernel_rfl) ?_
            refine Sim.ob1 (v := (iv x0.Action)) (by kernel_rfl) ?_
            refine Sim.ob1 (v := (bv (decide (x0.Action ≤ 255)))) (by kernel_rfl) ?_
            refine Sim.asB (b := (decide (x0.Action ≤ 255))) (by kernel_rfl) ?_
            refine Sim.br (fun _ => ?_) (fun _ => ?_)
            · skip
              refine Sim.ob1 (v := (.ptr 0 3)) (by kernel_rfl) ?_
              refine Sim.ob1 (v := (iv x0.Scope)) (by kernel_rfl) ?_
              refine Sim.ob1 (v := (bv (decide (1 ≤ x0.Scope)))) (by kernel_rfl) ?_
              refine Sim.asB (b := (decide (1 ≤ x0.Scope))) (by kernel_rfl) ?_
              refine Sim.br (fun _ => ?_) (fun _ => ?_)
              · skip
                refine Sim.ob1 (v := (.ptr 0 3)) (by kernel_rfl) ?_
                refine Sim.ob1 (v := (iv x0.Scope)) (by kernel_rfl) ?_
                refine Sim.ob1 (v := (bv (decide (x0.Scope ≤ 65535)))) (by kernel_rfl) ?_
                refine Sim.asB (b := (decide (x0.Scope ≤ 65535))) (by kernel_rfl) ?_
                refine Sim.br (fun _ => ?_) (fun _ => ?_)
                · skip
                  refine Sim.ob1 (v := (.ptr 0 4)) (by kernel_rfl) ?_
                  refine Sim.ob1 (v := (.p (.v (.string x0.Pattern)))) (by kernel_rfl) ?_
                  refine Sim.ob1 (v := (iv (x0.Pattern.size : Int))) (by kernel_rfl) ?_
                  refine Sim.ob1 (v := (bv (decide ((x0.Pattern.size : Int) ≤ 256)))) (by kernel_rfl) ?_
                  exact Sim.cast (y' := some ((bv (decide ((x0.Pattern.size : Int) ≤ 256))), [(r_Srule_Rule x0)])) (by kernel_rfl) (Sim.ret ⟨[(r_Srule_Rule x0)], by kernel_rfl⟩)
                · skip
                  exact Sim.cast (y' := some ((bv false), [(r_Srule_Rule x0)])) (by kernel_rfl) (Sim.ret ⟨[(r_Srule_Rule x0)], by kernel_rfl⟩)
              · skip
                exact Sim.cast (y' := some ((bv false), [(r_Srule_Rule x0)])) (by kernel_rfl) (Sim.ret ⟨[(r_Srule_Rule x0)], by kernel_rfl⟩)
            · skip
              exact Sim.cast (y' := some ((bv false), [(r_Srule_Rule x0)])) (by kernel_rfl) (Sim.ret ⟨[(r_Srule_Rule x0)], by kernel_rfl⟩)
          · skip
            exact Sim.cast (y' := some ((bv false), [(r_Srule_Rule x0)])) (by kernel_rfl) (Sim.ret ⟨[(r_Srule_Rule x0)], by kernel_rfl⟩)
        · skip
          exact Sim.cast (y' := some ((bv false), [(r_Srule_Rule x0)])) (by kernel_rfl) (Sim.ret ⟨[(r_Srule_Rule x0)], by kernel_rfl⟩)
      · skip
        exact Sim.cast (y' := some ((bv false), [(r_Srule_Rule x0)])) (by kernel_rfl) (Sim.ret ⟨[(r_Srule_Rule x0)], by kernel_rfl⟩)
    · skip
      exact Sim.cast (y' := some ((bv false), [(r_Srule_Rule x0)])) (by kernel_rfl) (Sim.ret ⟨[(r_Srule_Rule x0)], by kernel_rfl⟩)
  · skip
    exact Sim.cast (y' := some ((bv false), [(r_Srule_Rule x0)])) (by kernel_rfl) (Sim.ret ⟨[(r_Srule_Rule x0)], by kernel_rfl⟩)
theorem g34_of (x0 : Srule_Rule) {r} (h : b34 x0 = some r) : g34 x0 = some r :=
  pick_of (fun _ _ ha hb => RRun.uniq (Q34_u) (ha ) (hb )) (g34_sim x0 r h)
end Go.Proofs.Ytbmmhbpalkepeaa.N2
end

section
set_option linter.unusedSimpArgs false
set_option linter.unusedVariables false
namespace Go.Proofs.Ytbmmhbpalkepeaa.N2
open Go Go.Abs
set_option linter.unusedVariables false
set_option maxRecDepth 100000
/-! "colander/colanderref07.or": g32 -/
noncomputable def b32_r3 (x0 : Int) : Option (Int) :=
 some (x0)
theorem g32_r3_sim (x0 : Int) : Sim (Q32) (b32_r3 x0) (f32_r3 0 (iv x0) []) := by
  unfold b32_r3
  refine Sim.cast (f32_r3_eq _ _ _) ?_
  refine Sim.mk ?_
  exact Sim.cast (y' := some ((iv x0), [])) (by kernel_rfl) (Sim.ret ⟨[], by kernel_rfl⟩)
noncomputable def b32 (x0 : Int) (x1 : Int) : Option (Int) :=
 if ((x0 == (-1))) = true then
 (some (x1))
 else
 (b32_r3 x0)
theorem g32_sim (x0 : Int) (x1 : Int) : Sim (Q32) (b32 x0 x1) (EE 32 [(iv x0), (iv x1)] []) := by
  unfold b32
  refine Sim.cast (f32_eq _ _ _) ?_
  refine Sim.mk ?_
  refine Sim.mk ?_
  refine Sim.ob1 (v := (bv (x0 == (-1)))) (by kernel_rfl) ?_
  refine Sim.asB (b := (x0 == (-1))) (by kernel_rfl) ?_
  refine Sim.br (fun _ => ?_) (fun _ => ?_)
  · skip
    refine Sim.mk ?_
    exact Sim.cast (y' := some ((iv x1), [])) (by kernel_rfl) (Sim.ret ⟨[], by kernel_rfl⟩)
  · skip
    exact Sim.cast (by kernel_rfl) (g32_r3_sim (x0))
theorem g32_of (x0 : Int) (x1 : Int) {r} (h : b32 x0 x1 = some r) : g32 x0 x1 = some r :=
  pick_of (fun _ _ ha hb => RRun.uniq (Q32_u) (ha ) (hb )) (g32_sim x0 x1 r h)
/-! "colander/colanderref07.twice": g35 -/
noncomputable def b35 (x0 : Scolanderref07_Delta) : Option (Bool) :=
 g35_l3 (([] : List Int)) 0 x0
theorem g35_sim (x0 : Scolanderref07_Delta) (ox0_Put : Own) (ox0_Drop : Own) : Sim (Q35) (b35 x0) (EE 35 [(.p (.agg (k_Scolanderref07_Delta x0 ox0_Put ox0_Drop)))] []) := by
  unfold b35
  refine Sim.cast (f35_eq _ _) ?_
  refine Sim.mk ?_
  refine Sim.bx (v := (.ptr 0 0)) (B2 := [(r_Scolanderref07_Delta x0 ox0_Put ox0_Drop)]) (fun _ => by kernel_rfl) ?_
  refine Sim.mk ?_
  refine Sim.mk ?_
  exact Sim.cast (by kernel_rfl) (g35_l3_to (([] : List Int)) (0) (x0) .nl ox0_Put ox0_Drop rfl)
theorem g35_of (x0 : Scolanderref07_Delta) {r} (h : b35 x0 = some r) : g35 x0 = some r :=
  pick_of (fun _ _ ha hb => RRun.uniq (Q35_u) (ha .ex .ex) (hb .ex .ex)) (fun ox0_Put ox0_Drop => g35_sim x0 ox0_Put ox0_Drop r h)
noncomputable def b35_r5 (x3 : List Int) (x4 : Int) (b0 : Scolanderref07_Delta) : Option (Bool) :=
 (lget b0.Put x4).bind fun a1 =>
 (lapp x3 ([a1.ID] : List Int)).bind fun a2 =>
 g35_l3 a2 ((IntKind.i64.wrap (x4 + 1))) b0
theorem g35_r5_sim (x3 : List Int) (x4 : Int) (b0 : Scolanderref07_Delta) (ox3 : Own) (ob0_Put : Own) (ob0_Drop : Own) (hox3 : okApp ox3 = true) : Sim (Q35) (b35_r5 x3 x4 b0) (f35_r5 0 (.ptr 0 0) (.p (.lst ox3 (x3.map (eI .i64)))) (iv x4) [(r_Scolanderref07_Delta b0 ob0_Put ob0_Drop)]) := by
  unfold b35_r5
  refine Sim.cast (f35_r5_eq _ _ _ _ _) ?_
  refine Sim.mk ?_
  refine Sim.ob1 (v := (.ptr 0 4)) (by kernel_rfl) ?_
  refine Sim.ob1 (v := (.p (.lst (shrO ob0_Put) (b0.Put.map e_Srule_Rule)))) (by kernel_rfl) ?_
  refine Sim.bind fun a1 ha1 => ?_
  refine Sim.ob1 (v := (.cptr (k_Srule_Rule a1))) (Eq.trans (by kernel_rfl) (xidx_of (o := (shrO ob0_Put)) (k := .i64) (n := 5) (e := e_Srule_Rule) (cs := c_Srule_Rule) (fun _ => rfl) (fun _ => rfl) (by decide) ha1)) ?_
  refine Sim.ob1 (v := (.cptr [(.v (.int .i64 a1.ID)), (.v (.int .i64 a1.Priority)), (.v (.int .i64 a1.Action)), (.v (.int .i64 a1.Scope)), (.v (.string a1.Pattern))])) (by kernel_rfl) ?_
  refine Sim.ob1 (v := (iv a1.ID)) (by kernel_rfl) ?_
  refine Sim.ob1 (v := (.p (.lst .ex (([a1.ID] : List Int).map (eI .i64))))) (by kernel_rfl) ?_
  refine Sim.bind fun a2 ha2 => ?_
  refine Sim.ob1 (v := (.p (.lst .un (a2.map (eI .i64))))) (Eq.trans (by kernel_rfl) <| xapp_of (n := 1) (o := ox3) (o' := .ex) (e := (eI .i64)) (ys := ([a1.ID] : List Int)) (fun _ => rfl) (by decide) hox3 ha2) ?_
  refine Sim.mk ?_
  refine Sim.ob1 (v := (iv (IntKind.i64.wrap (x4 + 1)))) (by kernel_rfl) ?_
  exact Sim.cast (by kernel_rfl) (g35_l3_to (a2) ((IntKind.i64.wrap (x4 + 1))) (b0) .un ob0_Put ob0_Drop rfl)
noncomputable def b35_r6 (x3 : List Int) (b0 : Scolanderref07_Delta) : Option (Bool) :=
 (lapp x3 b0.Drop).bind fun a1 =>
 g35_l8 a1 0
theorem g35_r6_sim (x3 : List Int) (b0 : Scolanderref07_Delta) (ox3 : Own) (ob0_Put : Own) (ob0_Drop : Own) (hox3 : okApp ox3 = true) : Sim (Q35) (b35_r6 x3 b0) (f35_r6 0 (.ptr 0 0) (.p (.lst ox3 (x3.map (eI .i64)))) [(r_Scolanderref07_Delta b0 ob0_Put ob0_Drop)]) := by
  unfold b35_r6
  refine Sim.cast (f35_r6_eq _ _ _ _) ?_
  refine Sim.mk ?_
  refine Sim.ob1 (v := (.ptr 0 5)) (by kernel_rfl) ?_
  refine Sim.ob1 (v := (.p (.lst (shrO ob0_Drop) (b0.Drop.map (eI .i64))))) (by kernel_rfl) ?_
  refine Sim.bind fun a1 ha1 => ?_
  refine Sim.ob1 (v := (.p (.lst (apo ox3 ((b0.Drop).map (eI .i64))) (a1.map (eI .i64))))) (Eq.trans (by kernel_rfl) <| xapp_of (n := 1) (o := ox3) (o' := (shrO ob0_Drop)) (e := (eI .i64)) (ys := b0.Drop) (fun _ => rfl) (by decide) hox3 ha1) ?_
  refine Sim.mk ?_
  exact Sim.cast (by kernel_rfl) (g35_l8_to (a1) (0) (apo ox3 ((b0.Drop).map (eI .i64))) (okApp_apo hox3))
noncomputable def b35_l3 (x3 : List Int) (x4 : Int) (b0 : Scolanderref07_Delta) : Option (Bool) :=
 if ((decide (x4 < (b0.Put.length : Int)))) = true then
 (b35_r5 x3 x4 b0)
 else
 (b35_r6 x3 b0)
theorem g35_l3_sim (x3 : List Int) (x4 : Int) (b0 : Scolanderref07_Delta) (ox3 : Own) (ob0_Put : Own) (ob0_Drop : Own) (hox3 : okApp ox3 = true) : Sim (Q35) (b35_l3 x3 x4 b0) (f35_l3 0 (.ptr 0 0) (.p (.lst ox3 (x3.map (eI .i64)))) (iv x4) [(r_Scolanderref07_Delta b0 ob0_Put ob0_Drop)]) := by
  unfold b35_l3
  refine Sim.cast (f35_l3_eq _ _ _ _ _) ?_
  refine Sim.mk ?_
  refine Sim.ob1 (v := (.ptr 0 4)) (by kernel_rfl) ?_
  refine Sim.ob1 (v := (.p (.lst (shrO ob0_Put) (b0.Put.map e_Srule_Rule)))) (by kernel_rfl) ?_
  refine Sim.ob1 (v := (iv (b0.Put.length : Int))) (Eq.trans (by kernel_rfl) (xlen_of (P := PP) (t := 34) (d := 69) (by kernel_rfl) e_Srule_Rule (shrO ob0_Put) b0.Put)) ?_
  refine Sim.ob1 (v := (bv (decide (x4 < (b0.Put.length : Int))))) (by kernel_rfl) ?_
  refine Sim.asB (b := (decide (x4 < (b0.Put.length : Int)))) (by kernel_rfl) ?_
  refine Sim.br (fun _ => ?_) (fun _ => ?_)
  · skip
    exact Sim.cast (by kernel_rfl) (g35_r5_sim (x3) (x4) (b0) ox3 ob0_Put ob0_Drop hox3)
  · skip
    exact Sim.cast (by kernel_rfl) (g35_r6_sim (x3) (b0) ox3 ob0_Put ob0_Drop hox3)
theorem g35_l3_of (x3 : List Int) (x4 : Int) (b0 : Scolanderref07_Delta) {r} (h : b35_l3 x3 x4 b0 = some r) : g35_l3 x3 x4 b0 = some r :=
  pick_of (fun _ _ ha hb => RRun.uniq (Q35_u) (ha .ex .ex .ex rfl) (hb .ex .ex .ex rfl)) (fun ox3 ob0_Put ob0_Drop hox3 => g35_l3_sim x3 x4 b0 ox3 ob0_Put ob0_Drop hox3 r h)
noncomputable def b35_r10 (x3 : List Int) (x5 : Int) : Option (Bool) :=
 g35_l11 x3 x5 0
theorem g35_r10_sim (x3 : List Int) (x5 : Int) (ox3 : Own) (hox3 : okApp ox3 = true) : Sim (Q35) (b35_r10 x3 x5) (f35_r10 0 (.p (.lst ox3 (x3.map (eI .i64)))) (iv x5) []) := by
  unfold b35_r10
  refine Sim.cast (f35_r10_eq _ _ _ _) ?_
  refine Sim.mk ?_
  exact Sim.cast (by kernel_rfl) (g35_l11_to (x3) (x5) (0) ox3 hox3)
noncomputable def b35_r15  : Option (Bool) :=
 some (false)
theorem g35_r15_sim  : Sim (Q35) (b35_r15) (f35_r15 0  []) := by
  unfold b35_r15
  refine Sim.cast (f35_r15_eq _ _) ?_
  refine Sim.mk ?_
  exact Sim.cast (y' := some ((bv false), [])) (by kernel_rfl) (Sim.ret ⟨[], by kernel_rfl⟩)
noncomputable def b35_l8 (x3 : List Int) (x5 : Int) : Option (Bool) :=
 if ((decide (x5 < (x3.length : Int)))) = true then
 (b35_r10 x3 x5)
 else
 (b35_r15)
theorem g35_l8_sim (x3 : List Int) (x5 : Int) (ox3 : Own) (hox3 : okApp ox3 = true) : Sim (Q35) (b35_l8 x3 x5) (f35_l8 0 (.p (.lst ox3 (x3.map (eI .i64)))) (iv x5) []) := by
  unfold b35_l8
  refine Sim.cast (f35_l8_eq _ _ _ _) ?_
  refine Sim.mk ?_
  refine Sim.ob1 (v := (iv (x3.length : Int))) (Eq.trans (by kernel_rfl) (xlen_of (P := PP) (t := 25) (d := 3) (by kernel_rfl) (eI .i64) (shrO ox3) x3)) ?_
  refine Sim.ob1 (v := (bv (decide (x5 < (x3.length : Int))))) (by kernel_rfl) ?_
  refine Sim.asB (b := (decide (x5 < (x3.length : Int)))) (by kernel_rfl) ?_
  refine Sim.br (fun _ => ?_) (fun _ => ?_)
  · skip
    exact Sim.cast (by kernel_rfl) (g35_r10_sim (x3) (x5) ox3 hox3)
  · skip
    exact Sim.cast (by kernel_rfl) (g35_r15_sim )
theorem g35_l8_of (x3 : List Int) (x5 : Int) {r} (h : b35_l8 x3 x5 = some r) : g35_l8 x3 x5 = some r :=
  pick_of (fun _ _ ha hb => RRun.uniq (Q35_u) (ha .ex rfl) (hb .ex rfl)) (fun ox3 hox3 => g35_l8_sim x3 x5 ox3 hox3 r h)
noncomputable def b35_r12 (x3 : List Int) (x5 : Int) (x6 : Int) : Option (Bool) :=
 g35_l11 x3 x5 ((IntKind.i64.wrap (x6 + 1)))
theorem g35_r12_sim (x3 : List Int) (x5 : Int) (x6 : Int) (ox3 : Own) (hox3 : okApp ox3 = true) : Sim (Q35) (b35_r12 x3 x5 x6) (f35_r12 0 (.p (.lst ox3 (x3.map (eI .i64)))) (iv x5) (iv x6) []) := by
  unfold b35_r12
  refine Sim.cast (f35_r12_eq _ _ _ _ _) ?_
  refine Sim.mk ?_
  refine Sim.ob1 (v := (iv (IntKind.i64.wrap (x6 + 1)))) (by kernel_rfl) ?_
  exact Sim.cast (by kernel_rfl) (g35_l11_to (x3) (x5) ((IntKind.i64.wrap (x6 + 1))) ox3 hox3)
noncomputable def b35_r13 (x3 : List Int) (x5 : Int) (x6 : Int) : Option (Bool) :=
 (lget x3 x5).bind fun a1 =>
 (lget x3 x6).bind fun a2 =>
 if ((a1 == a2)) = true then
 (some (true))
 else
 (b35_r12 x3 x5 x6)
theorem g35_r13_sim (x3 : List Int) (x5 : Int) (x6 : Int) (ox3 : Own) (hox3 : okApp ox3 = true) : Sim (Q35) (b35_r13 x3 x5 x6) (f35_r13 0 (.p (.lst ox3 (x3.map (eI .i64)))) (iv x5) (iv x6) []) := by
  unfold b35_r13
  refine Sim.cast (f35_r13_eq _ _ _ _ _) ?_
  refine Sim.mk ?_
  refine Sim.bind fun a1 ha1 => ?_
  refine Sim.ob1 (v := (.cptr [(.v (.int .i64 a1))])) (Eq.trans (by kernel_rfl) (xidx_of (o := (shrO ox3)) (k := .i64) (n := 1) (e := (eI .i64)) (cs := (fun a => [(eI .i64) a])) (fun _ => rfl) (fun _ => rfl) (by decide) ha1)) ?_
  refine Sim.ob1 (v := (iv a1)) (by kernel_rfl) ?_
  refine Sim.bind fun a2 ha2 => ?_
  refine Sim.ob1 (v := (.cptr [(.v (.int .i64 a2))])) (Eq.trans (by kernel_rfl) (xidx_of (o := (shrO ox3)) (k := .i64) (n := 1) (e := (eI .i64)) (cs := (fun a => [(eI .i64) a])) (fun _ => rfl) (fun _ => rfl) (by decide) ha2)) ?_
  refine Sim.ob1 (v := (iv a2)) (by kernel_rfl) ?_
  refine Sim.ob1 (v := (bv (a1 == a2))) (by kernel_rfl) ?_
  refine Sim.asB (b := (a1 == a2)) (by kernel_rfl) ?_
  refine Sim.br (fun _ => ?_) (fun _ => ?_)
  · skip
    refine Sim.mk ?_
    exact Sim.cast (y' := some ((bv true), [])) (by kernel_rfl) (Sim.ret ⟨[], by kernel_rfl⟩)
  · skip
    exact Sim.cast (by kernel_rfl) (g35_r12_sim (x3) (x5) (x6) ox3 hox3)
noncomputable def b35_r9 (x3 : List Int) (x5 : Int) : Option (Bool) :=
 g35_l8 x3 ((IntKind.i64.wrap (x5 + 1)))
theorem g35_r9_sim (x3 : List Int) (x5 : Int) (ox3 : Own) (hox3 : okApp ox3 = true) : Sim (Q35) (b35_r9 x3 x5) (f35_r9 0 (.p (.lst ox3 (x3.map (eI .i64)))) (iv x5) []) := by
  unfold b35_r9
  refine Sim.cast (f35_r9_eq _ _ _ _) ?_
  refine Sim.mk ?_
  refine Sim.ob1 (v := (iv (IntKind.i64.wrap (x5 + 1)))) (by kernel_rfl) ?_
  exact Sim.cast (by kernel_rfl) (g35_l8_to (x3) ((IntKind.i64.wrap (x5 + 1))) ox3 hox3)
noncomputable def b35_l11 (x3 : List Int) (x5 : Int) (x6 : Int) : Option (Bool) :=
 if ((decide (x6 < x5))) = true then
 (b35_r13 x3 x5 x6)
 else
 (b35_r9 x3 x5)
theorem g35_l11_sim (x3 : List Int) (x5 : Int) (x6 : Int) (ox3 : Own) (hox3 : okApp ox3 = true) : Sim (Q35) (b35_l11 x3 x5 x6) (f35_l11 0 (.p (.lst ox3 (x3.map (eI .i64)))) (iv x5) (iv x6) []) := by
  unfold b35_l11
  refine Sim.cast (f35_l11_eq _ _ _ _ _) ?_
  refine Sim.mk ?_
  refine Sim.ob1 (v := (bv (decide (x6 < x5)))) (by kernel_rfl) ?_
  refine Sim.asB (b := (decide (x6 < x5))) (by kernel_rfl) ?_
  refine Sim.br (fun _ => ?_) (fun _ => ?_)
  · skip
    exact Sim.cast (by kernel_rfl) (g35_r13_sim (x3) (x5) (x6) ox3 hox3)
  · skip
    exact Sim.cast (by kernel_rfl) (g35_r9_sim (x3) (x5) ox3 hox3)
theorem g35_l11_of (x3 : List Int) (x5 : Int) (x6 : Int) {r} (h : b35_l11 x3 x5 x6 = some r) : g35_l11 x3 x5 x6 = some r :=
  pick_of (fun _ _ ha hb => RRun.uniq (Q35_u) (ha .ex rfl) (hb .ex rfl)) (fun ox3 hox3 => g35_l11_sim x3 x5 x6 ox3 hox3 r h)
/-! "colander/colanderref07.find": g36 -/
noncomputable def b36 (x0 : List Srule_Rule) (x1 : Int) : Option (Int) :=
 g36_l2 x0 x1 0
theorem g36_sim (x0 : List Srule_Rule) (x1 : Int) (ox0 : Own) : Sim (Q36) (b36 x0 x1) (EE 36 [(.p (.lst ox0 (x0.map e_Srule_Rule))), (iv x1)] []) := by
  unfold b36
  refine Sim.cast (f36_eq _ _ _) ?_
  refine Sim.mk ?_
  refine Sim.mk ?_
  exact Sim.cast (by kernel_rfl) (g36_l2_to (x0) (x1) (0) ox0)
theorem g36_of (x0 : List Srule_Rule) (x1 : Int) {r} (h : b36 x0 x1 = some r) : g36 x0 x1 = some r :=
  pick_of (fun _ _ ha hb => RRun.uniq (Q36_u) (ha .ex) (hb .ex)) (fun ox0 => g36_sim x0 x1 ox0 r h)
noncomputable def b36_r3 (x0 : List Srule_Rule) (x1 : Int) (x5 : Int) : Option (Int) :=
 g36_l2 x0 x1 ((IntKind.i64.wrap (x5 + 1)))
theorem g36_r3_sim (x0 : List Srule_Rule) (x1 : Int) (x5 : Int) (ox0 : Own) : Sim (Q36) (b36_r3 x0 x1 x5) (f36_r3 0 (.p (.lst ox0 (x0.map e_Srule_Rule))) (iv x1) (iv x5) []) := by
  unfold b36_r3
  refine Sim.cast (f36_r3_eq _ _ _ _ _) ?_
  refine Sim.mk ?_
  refine Sim.ob1 (v := (iv (IntKind.i64.wrap (x5 + 1)))) (by kernel_rfl) ?_
  exact Sim.cast (by kernel_rfl) (g36_l2_to (x0) (x1) ((IntKind.i64.wrap (x5 + 1))) ox0)
noncomputable def b36_r4 (x0 : List Srule_Rule) (x1 : Int) (x5 : Int) : Option (Int) :=
 (lget x0 x5).bind fun a1 =>
 if ((a1.ID == x1)) = true then
 (some (x5))
 else
 (b36_r3 x0 x1 x5)
theorem g36_r4_sim (x0 : List Srule_Rule) (x1 : Int) (x5 : Int) (ox0 : Own) : Sim (Q36) (b36_r4 x0 x1 x5) (f36_r4 0 (.p (.lst ox0 (x0.map e_Srule_Rule))) (iv x1) (iv x5) []) := by
  unfold b36_r4
  refine Sim.cast (f36_r4_eq _ _ _ _ _) ?_
  refine Sim.mk ?_
  refine Sim.bind fun a1 ha1 => ?_
  refine Sim.ob1 (v := (.cptr (k_Srule_Rule a1))) (Eq.trans (by kernel_rfl) (xidx_of (o := (shrO ox0)) (k := .i64) (n := 5) (e := e_Srule_Rule) (cs := c_Srule_Rule) (fun _ => rfl) (fun _ => rfl) (by decide) ha1)) ?_
  refine Sim.ob1 (v := (.cptr [(.v (.int .i64 a1.ID)), (.v (.int .i64 a1.Priority)), (.v (.int .i64 a1.Action)), (.v (.int .i64 a1.Scope)), (.v (.string a1.Pattern))])) (by kernel_rfl) ?_
  refine Sim.ob1 (v := (iv a1.ID)) (by kernel_rfl) ?_
  refine Sim.ob1 (v := (bv (a1.ID == x1))) (by kernel_rfl) ?_
  refine Sim.asB (b := (a1.ID == x1)) (by kernel_rfl) ?_
  refine Sim.br (fun _ => ?_) (fun _ => ?_)
  · skip
    refine Sim.mk ?_
    exact Sim.cast (y' := some ((iv x5), [])) (by kernel_rfl) (Sim.ret ⟨[], by kernel_rfl⟩)
  · skip
    exact Sim.cast (by kernel_rfl) (g36_r3_sim (x0) (x1) (x5) ox0)
noncomputable def b36_r6  : Option (Int) :=
 some ((-1))
theorem g36_r6_sim  : Sim (Q36) (b36_r6) (f36_r6 0  []) := by
  unfold b36_r6
  refine Sim.cast (f36_r6_eq _ _) ?_
  refine Sim.mk ?_
  exact Sim.cast (y' := some ((iv (-1)), [])) (by kernel_rfl) (Sim.ret ⟨[], by kernel_rfl⟩)
noncomputable def b36_l2 (x0 : List Srule_Rule) (x1 : Int) (x5 : Int) : Option (Int) :=
 if ((decide (x5 < (x0.length : Int)))) = true then
 (b36_r4 x0 x1 x5)
 else
 (b36_r6)
theorem g36_l2_sim (x0 : List Srule_Rule) (x1 : Int) (x5 : Int) (ox0 : Own) : Sim (Q36) (b36_l2 x0 x1 x5) (f36_l2 0 (.p (.lst ox0 (x0.map e_Srule_Rule))) (iv x1) (iv x5) []) := by
  unfold b36_l2
  refine Sim.cast (f36_l2_eq _ _ _ _ _) ?_
  refine Sim.mk ?_
  refine Sim.ob1 (v := (iv (x0.length : Int))) (Eq.trans (by kernel_rfl) (xlen_of (P := PP) (t := 34) (d := 69) (by kernel_rfl) e_Srule_Rule (shrO ox0) x0)) ?_
  refine Sim.ob1 (v := (bv (decide (x5 < (x0.length : Int))))) (by kernel_rfl) ?_
  refine Sim.asB (b := (decide (x5 < (x0.length : Int)))) (by kernel_rfl) ?_
  refine Sim.br (fun _ => ?_) (fun _ => ?_)
  · skip
    exact Sim.cast (by kernel_rfl) (g36_r4_sim (x0) (x1) (x5) ox0)
  · skip
    exact Sim.cast (by kernel_rfl) (g36_r6_sim )
theorem g36_l2_of (x0 : List Srule_Rule) (x1 : Int) (x5 : Int) {r} (h : b36_l2 x0 x1 x5 = some r) : g36_l2 x0 x1 x5 = some r :=
  pick_of (fun _ _ ha hb => RRun.uniq (Q36_u) (ha .ex) (hb .ex)) (fun ox0 => g36_l2_sim x0 x1 x5 ox0 r h)
/-! "colander/colanderref07.put": g37 -/
noncomputable def b37 (x0 : List Srule_Rule) (x1 : Srule_Rule) : Option ((List Srule_Rule)) :=
 g37_l4 x0 (([] : List Srule_Rule)) false 0 x1
theorem g37_sim (x0 : List Srule_Rule) (x1 : Srule_Rule) (ox0 : Own) : Sim (Q37) (b37 x0 x1) (EE 37 [(.p (.lst ox0 (x0.map e_Srule_Rule))), (.p (.agg (k_Srule_Rule x1)))] []) := by
  unfold b37
  refine Sim.cast (f37_eq _ _ _) ?_
  refine Sim.mk ?_
  refine Sim.bx (v := (.ptr 0 0)) (B2 := [(r_Srule_Rule x1)]) (fun _ => by kernel_rfl) ?_
  refine Sim.mk ?_
  refine Sim.mk ?_
  refine Sim.mk ?_
  exact Sim.cast (by kernel_rfl) (g37_l4_to (x0) (([] : List Srule_Rule)) (false) (0) (x1) ox0 .nl rfl)
theorem g37_of (x0 : List Srule_Rule) (x1 : Srule_Rule) {r} (h : b37 x0 x1 = some r) : g37 x0 x1 = some r :=
  pick_of (fun _ _ ha hb => RRun.uniq (Q37_u) (ha .ex) (hb .ex)) (fun ox0 => g37_sim x0 x1 ox0 r h)
noncomputable def b37_r5 (x0 : List Srule_Rule) (x5 : List Srule_Rule) (x6 : Bool) (x7 : Int) (b0 : Srule_Rule) : Option ((List Srule_Rule)) :=
 g37_l4 x0 x5 x6 ((IntKind.i64.wrap (x7 + 1))) b0
theorem g37_r5_sim (x0 : List Srule_Rule) (x5 : List Srule_Rule) (x6 : Bool) (x7 : Int) (b0 : Srule_Rule) (ox0 : Own) (ox5 : Own) (hox5 : okApp ox5 = true) : Sim (Q37) (b37_r5 x0 x5 x6 x7 b0) (f37_r5 0 (.p (.lst ox0 (x0.map e_Srule_Rule))) (.ptr 0 0) (.p (.lst ox5 (x5.map e_Srule_Rule))) (bv x6) (iv x7) [(r_Srule_Rule b0)]) := by
  unfold b37_r5
  refine Sim.cast (f37_r5_eq _ _ _ _ _ _ _) ?_
  refine Sim.mk ?_
  refine Sim.ob1 (v := (iv (IntKind.i64.wrap (x7 + 1)))) (by kernel_rfl) ?_
  exact Sim.cast (by kernel_rfl) (g37_l4_to (x0) (x5) (x6) ((IntKind.i64.wrap (x7 + 1))) (b0) ox0 ox5 hox5)
noncomputable def b37_r9 (x0 : List Srule_Rule) (x5 : List Srule_Rule) (x6 : Bool) (x7 : Int) (b0 : Srule_Rule) : Option ((List Srule_Rule)) :=
 (lget x0 x7).bind fun a1 =>
 if ((a1.ID != b0.ID)) = true then
 ((lget x0 x7).bind fun a2 =>
 (lapp x5 ([a2] : List Srule_Rule)).bind fun a3 =>
 b37_r5 x0 a3 x6 x7 b0)
 else
 (b37_r5 x0 x5 x6 x7 b0)
theorem g37_r9_sim (x0 : List Srule_Rule) (x5 : List Srule_Rule) (x6 : Bool) (x7 : Int) (b0 : Srule_Rule) (ox0 : Own) (ox5 : Own) (hox5 : okApp ox5 = true) : Sim (Q37) (b37_r9 x0 x5 x6 x7 b0) (f37_r9 0 (.p (.lst ox0 (x0.map e_Srule_Rule))) (.ptr 0 0) (.p (.lst ox5 (x5.map e_Srule_Rule))) (bv x6) (iv x7) [(r_Srule_Rule b0)]) := by
  unfold b37_r9
  refine Sim.cast (f37_r9_eq _ _ _ _ _ _ _) ?_
  refine Sim.mk ?_
  refine Sim.bind fun a1 ha1 => ?_
  refine Sim.ob1 (v := (.cptr (k_Srule_Rule a1))) (Eq.trans (by kernel_rfl) (xidx_of (o := (shrO ox0)) (k := .i64) (n := 5) (e := e_Srule_Rule) (cs := c_Srule_Rule) (fun _ => rfl) (fun _ => rfl) (by decide) ha1)) ?_
  refine Sim.ob1 (v := (.cptr [(.v (.int .i64 a1.ID)), (.v (.int .i64 a1.Priority)), (.v (.int .i64 a1.Action)), (.v (.int .i64 a1.Scope)), (.v (.string a1.Pattern))])) (by kernel_rfl) ?_
  refine Sim.ob1 (v := (iv a1.ID)) (by kernel_rfl) ?_
  refine Sim.ob1 (v := (.ptr 0 0)) (by kernel_rfl) ?_
  refine Sim.ob1 (v := (iv b0.ID)) (by kernel_rfl) ?_
  refine Sim.ob1 (v := (bv (a1.ID != b0.ID))) (by kernel_rfl) ?_
  refine Sim.asB (b := (a1.ID != b0.ID)) (by kernel_rfl) ?_
  refine Sim.br (fun _ => ?_) (fun _ => ?_)
  · skip
    refine Sim.mk ?_
    refine Sim.bind fun a2 ha2 => ?_
    refine Sim.ob1 (v := (.cptr (k_Srule_Rule a2))) (Eq.trans (by kernel_rfl) (xidx_of (o := (shrO ox0)) (k := .i64) (n := 5) (e := e_Srule_Rule) (cs := c_Srule_Rule) (fun _ => rfl) (fun _ => rfl) (by decide) ha2)) ?_
    refine Sim.ob1 (v := (.p (.agg (k_Srule_Rule a2)))) (by kernel_rfl) ?_
    refine Sim.ob1 (v := (.p (.lst .ex (([a2] : List Srule_Rule).map e_Srule_Rule)))) (by kernel_rfl) ?_
    refine Sim.bind fun a3 ha3 => ?_
    refine Sim.ob1 (v := (.p (.lst .un (a3.map e_Srule_Rule)))) (Eq.trans (by kernel_rfl) <| xapp_of (n := 5) (o := ox5) (o' := .ex) (e := e_Srule_Rule) (ys := ([a2] : List Srule_Rule)) (fun _ => rfl) (by decide) hox5 ha3) ?_
    exact Sim.cast (by kernel_rfl) (g37_r5_sim (x0) (a3) (x6) (x7) (b0) ox0 .un rfl)
  · skip
    exact Sim.cast (by kernel_rfl) (g37_r5_sim (x0) (x5) (x6) (x7) (b0) ox0 ox5 hox5)
noncomputable def b37_r7 (x0 : List Srule_Rule) (x5 : List Srule_Rule) (x7 : Int) (b0 : Srule_Rule) : Option ((List Srule_Rule)) :=
 (lapp x5 ([b0] : List Srule_Rule)).bind fun a1 =>
 b37_r9 x0 a1 true x7 b0
theorem g37_r7_sim (x0 : List Srule_Rule) (x5 : List Srule_Rule) (x7 : Int) (b0 : Srule_Rule) (ox0 : Own) (ox5 : Own) (hox5 : okApp ox5 = true) : Sim (Q37) (b37_r7 x0 x5 x7 b0) (f37_r7 0 (.p (.lst ox0 (x0.map e_Srule_Rule))) (.ptr 0 0) (.p (.lst ox5 (x5.map e_Srule_Rule))) (iv x7) [(r_Srule_Rule b0)]) := by
  unfold b37_r7
  refine Sim.cast (f37_r7_eq _ _ _ _ _ _) ?_
  refine Sim.mk ?_
  refine Sim.ob1 (v := (.p (.agg (k_Srule_Rule b0)))) (by kernel_rfl) ?_
  refine Sim.ob1 (v := (.p (.lst .ex (([b0] : List Srule_Rule).map e_Srule_Rule)))) (by kernel_rfl) ?_
  refine Sim.bind fun a1 ha1 => ?_
  refine Sim.ob1 (v := (.p (.lst .un (a1.map e_Srule_Rule)))) (Eq.trans (by kernel_rfl) <| xapp_of (n := 5) (o := ox5) (o' := .ex) (e := e_Srule_Rule) (ys := ([b0] : List Srule_Rule)) (fun _ => rfl) (by decide) hox5 ha1) ?_
  refine Sim.mk ?_
  exact Sim.cast (by kernel_rfl) (g37_r9_sim (x0) (a1) (true) (x7) (b0) ox0 .un rfl)
noncomputable def b37_r6 (x0 : List Srule_Rule) (x5 : List Srule_Rule) (x6 : Bool) (x7 : Int) (b0 : Srule_Rule) : Option ((List Srule_Rule)) :=
 if ((!x6)) = true then
 ((lget x0 x7).bind fun a1 =>
 if ((decide (b0.ID ≤ a1.ID))) = true then
 (b37_r7 x0 x5 x7 b0)
 else
 (b37_r9 x0 x5 x6 x7 b0))
 else
 (b37_r9 x0 x5 x6 x7 b0)
theorem g37_r6_sim (x0 : List Srule_Rule) (x5 : List Srule_Rule) (x6 : Bool) (x7 : Int) (b0 : Srule_Rule) (ox0 : Own) (ox5 : Own) (hox5 : okApp ox5 = true) : Sim (Q37) (b37_r6 x0 x5 x6 x7 b0) (f37_r6 0 (.p (.lst ox0 (x0.map e_Srule_Rule))) (.ptr 0 0) (.p (.lst ox5 (x5.map e_Srule_Rule))) (bv x6) (iv x7) [(r_Srule_Rule b0)]) := by
  unfold b37_r6
  refine Sim.cast (f37_r6_eq _ _ _ _ _ _ _) ?_
  refine Sim.mk ?_
  refine Sim.ob1 (v := (bv (!x6))) (by kernel_rfl) ?_
  refine Sim.asB (b := (!x6)) (by kernel_rfl) ?_
  refine Sim.br (fun _ => ?_) (fun _ => ?_)
  · skip
    refine Sim.bind fun a1 ha1 => ?_
    refine Sim.ob1 (v := (.cptr (k_Srule_Rule a1))) (Eq.trans (by kernel_rfl) (xidx_of (o := (shrO ox0)) (k := .i64) (n := 5) (e := e_Srule_Rule) (cs := c_Srule_Rule) (fun _ => rfl) (fun _ => rfl) (by decide) ha1)) ?_
    refine Sim.ob1 (v := (.cptr [(.v (.int .i64 a1.ID)), (.v (.int .i64 a1.Priority)), (.v (.int .i64 a1.Action)), (.v (.int .i64 a1.Scope)), (.v (.string a1.Pattern))])) (by kernel_rfl) ?_
    refine Sim.ob1 (v := (iv a1.ID)) (by kernel_rfl) ?_
    refine Sim.ob1 (v := (.ptr 0 0)) (by kernel_rfl) ?_
    refine Sim.ob1 (v := (iv b0.ID)) (by kernel_rfl) ?_
    refine Sim.ob1 (v := (bv (decide (b0.ID ≤ a1.ID)))) (by kernel_rfl) ?_
    refine Sim.asB (b := (decide (b0.ID ≤ a1.ID))) (by kernel_rfl) ?_
    refine Sim.br (fun _ => ?_) (fun _ => ?_)
    · skip
      exact Sim.cast (by kernel_rfl) (g37_r7_sim (x0) (x5) (x7) (b0) ox0 ox5 hox5)
    · skip
      exact Sim.cast (by kernel_rfl) (g37_r9_sim (x0) (x5) (x6) (x7) (b0) ox0 ox5 hox5)
  · skip
    exact Sim.cast (by kernel_rfl) (g37_r9_sim (x0) (x5) (x6) (x7) (b0) ox0 ox5 hox5)
noncomputable def b37_r13 (x5 : List Srule_Rule) : Option ((List Srule_Rule)) :=
 some (x5)
theorem g37_r13_sim (x5 : List Srule_Rule) (ox5 : Own) (hox5 : okApp ox5 = true) : Sim (Q37) (b37_r13 x5) (f37_r13 0 (.p (.lst ox5 (x5.map e_Srule_Rule))) []) := by
  unfold b37_r13
  refine Sim.cast (f37_r13_eq _ _ _) ?_
  refine Sim.mk ?_
  exact Sim.cast (y' := some ((.p (.lst .sh (x5.map e_Srule_Rule))), [])) (by kernel_rfl) (Sim.ret ⟨[], by kernel_rfl⟩)
noncomputable def b37_r11 (x5 : List Srule_Rule) (x6 : Bool) (b0 : Srule_Rule) : Option ((List Srule_Rule)) :=
 if ((!x6)) = true then
 ((lapp x5 ([b0] : List Srule_Rule)).bind fun a1 =>
 b37_r13 a1)
 else
 (b37_r13 x5)
theorem g37_r11_sim (x5 : List Srule_Rule) (x6 : Bool) (b0 : Srule_Rule) (ox5 : Own) (hox5 : okApp ox5 = true) : Sim (Q37) (b37_r11 x5 x6 b0) (f37_r11 0 (.ptr 0 0) (.p (.lst ox5 (x5.map e_Srule_Rule))) (bv x6) [(r_Srule_Rule b0)]) := by
  unfold b37_r11
  refine Sim.cast (f37_r11_eq _ _ _ _ _) ?_
  refine Sim.mk ?_
  refine Sim.ob1 (v := (bv (!x6))) (by kernel_rfl) ?_
  refine Sim.asB (b := (!x6)) (by kernel_rfl) ?_
  refine Sim.br (fun _ => ?_) (fun _ => ?_)
  · skip
    refine Sim.mk ?_
    refine Sim.ob1 (v := (.p (.agg (k_Srule_Rule b0)))) (by kernel_rfl) ?_
    refine Sim.ob1 (v := (.p (.lst .ex (([b0] : List Srule_Rule).map e_Srule_Rule)))) (by kernel_rfl) ?_
    refine Sim.bind fun a1 ha1 => ?_
    refine Sim.ob1 (v := (.p (.lst .un (a1.map e_Srule_Rule)))) (Eq.trans (by kernel_rfl) <| xapp_of (n := 5) (o := ox5) (o' := .ex) (e := e_Srule_Rule) (ys := ([b0] : List Srule_Rule)) (fun _ => rfl) (by decide) hox5 ha1) ?_
    exact Sim.cast (by kernel_rfl) (g37_r13_sim (a1) .un rfl)
  · skip
    exact Sim.cast (by kernel_rfl) (g37_r13_sim (x5) ox5 hox5)
noncomputable def b37_l4 (x0 : List Srule_Rule) (x5 : List Srule_Rule) (x6 : Bool) (x7 : Int) (b0 : Srule_Rule) : Option ((List Srule_Rule)) :=
 if ((decide (x7 < (x0.length : Int)))) = true then
 (b37_r6 x0 x5 x6 x7 b0)
 else
 (b37_r11 x5 x6 b0)
theorem g37_l4_sim (x0 : List Srule_Rule) (x5 : List Srule_Rule) (x6 : Bool) (x7 : Int) (b0 : Srule_Rule) (ox0 : Own) (ox5 : Own) (hox5 : okApp ox5 = true) : Sim (Q37) (b37_l4 x0 x5 x6 x7 b0) (f37_l4 0 (.p (.lst ox0 (x0.map e_Srule_Rule))) (.ptr 0 0) (.p (.lst ox5 (x5.map e_Srule_Rule))) (bv x6) (iv x7) [(r_Srule_Rule b0)]) := by
  unfold b37_l4
  refine Sim.cast (f37_l4_eq _ _ _ _ _ _ _) ?_
  refine Sim.mk ?_
  refine Sim.ob1 (v := (iv (x0.length : Int))) (Eq.trans (by kernel_rfl) (xlen_of (P := PP) (t := 34) (d := 69) (by kernel_rfl) e_Srule_Rule (shrO ox0) x0)) ?_
  refine Sim.ob1 (v := (bv (decide (x7 < (x0.length : Int))))) (by kernel_rfl) ?_
  refine Sim.asB (b := (decide (x7 < (x0.length : Int)))) (by kernel_rfl) ?_
  refine Sim.br (fun _ => ?_) (fun _ => ?_)
  · skip
    exact Sim.cast (by kernel_rfl) (g37_r6_sim (x0) (x5) (x6) (x7) (b0) ox0 ox5 hox5)
  · skip
    exact Sim.cast (by kernel_rfl) (g37_r11_sim (x5) (x6) (b0) ox5 hox5)
theorem g37_l4_of (x0 : List Srule_Rule) (x5 : List Srule_Rule) (x6 : Bool) (x7 : Int) (b0 : Srule_Rule) {r} (h : b37_l4 x0 x5 x6 x7 b0 = some r) : g37_l4 x0 x5 x6 x7 b0 = some r :=
  pick_of (fun _ _ ha hb => RRun.uniq (Q37_u) (ha .ex .ex rfl) (hb .ex .ex rfl)) (fun ox0 ox5 hox5 => g37_l4_sim x0 x5 x6 x7 b0 ox0 ox5 hox5 r h)
/-! "(colander/rule.Set).Rule": g20 -/
noncomputable def b20 (x0 : Srule_Set) (x1 : Int) : Option (Srule_Rule × Bool) :=
 g20_l2 x1 x0.Rules ((x0.Rules.length : Int)) 0
theorem g20_sim (x0 : Srule_Set) (x1 : Int) (ox0_Rules : Own) : Sim (Q20) (b20 x0 x1) (EE 20 [(.p (.agg (k_Srule_Set x0 ox0_Rules))), (iv x1)] []) := by
  unfold b20
  refine Sim.cast (f20_eq _ _ _) ?_
  refine Sim.mk ?_
  refine Sim.bx (v := (.ptr 0 0)) (B2 := [(r_Srule_Set x0 ox0_Rules)]) (fun _ => by kernel_rfl) ?_
  refine Sim.bz (v := (.ptr 1 0)) (B2 := [(r_Srule_Set x0 ox0_Rules), (r_Srule_Rule (Srule_Rule.mk 0 0 0 0 (ByteArray.mk #[])))]) (fun _ => by kernel_rfl) ?_
  refine Sim.mk ?_
  refine Sim.ob1 (v := (.ptr 0 4)) (by kernel_rfl) ?_
  refine Sim.ob1 (v := (.p (.lst (shrO ox0_Rules) (x0.Rules.map e_Srule_Rule)))) (by kernel_rfl) ?_
  refine Sim.ob1 (v := (iv (x0.Rules.length : Int))) (Eq.trans (by kernel_rfl) (xlen_of (P := PP) (t := 22) (d := 43) (by kernel_rfl) e_Srule_Rule (shrO ox0_Rules) x0.Rules)) ?_
  exact Sim.cast (by kernel_rfl) (g20_l2_to (x1) (x0.Rules) ((x0.Rules.length : Int)) (0) (x0) ((Srule_Rule.mk 0 0 0 0 (ByteArray.mk #[]))) (shrO ox0_Rules) ox0_Rules)
theorem g20_of (x0 : Srule_Set) (x1 : Int) {r} (h : b20 x0 x1 = some r) : g20 x0 x1 = some r :=
  pick_of (fun _ _ ha hb => RRun.uniq (Q20_u) (ha .ex) (hb .ex)) (fun ox0_Rules => g20_sim x0 x1 ox0_Rules r h)
noncomputable def b20_r6 (x1 : Int) (x9 : List Srule_Rule) (x10 : Int) (x11 : Int) : Option (Srule_Rule × Bool) :=
 g20_l2 x1 x9 x10 ((IntKind.i64.wrap (x11 + 1)))
theorem g20_r6_sim (x1 : Int) (x9 : List Srule_Rule) (x10 : Int) (x11 : Int) (b0 : Srule_Set) (b1 : Srule_Rule) (ox9 : Own) (ob0_Rules : Own) : Sim (Q20) (b20_r6 x1 x9 x10 x11) (f20_r6 0 (iv x1) (.ptr 1 0) (.p (.lst ox9 (x9.map e_Srule_Rule))) (iv x10) (iv x11) [(r_Srule_Set b0 ob0_Rules), (r_Srule_Rule b1)]) := by
  unfold b20_r6
  refine Sim.cast (f20_r6_eq _ _ _ _ _ _ _) ?_
  refine Sim.mk ?_
  refine Sim.ob1 (v := (iv (IntKind.i64.wrap (x11 + 1)))) (by kernel_rfl) ?_
  exact Sim.cast (by kernel_rfl) (g20_l2_to (x1) (x9) (x10) ((IntKind.i64.wrap (x11 + 1))) (b0) (b1) ox9 ob0_Rules)
noncomputable def b20_r3 (x1 : Int) (x9 : List Srule_Rule) (x10 : Int) (x11 : Int) : Option (Srule_Rule × Bool) :=
 (lget x9 x11).bind fun a1 =>
 if ((a1.ID == x1)) = true then
 (some (a1, true))
 else
 (b20_r6 x1 x9 x10 x11)
theorem g20_r3_sim (x1 : Int) (x9 : List Srule_Rule) (x10 : Int) (x11 : Int) (b0 : Srule_Set) (b1 : Srule_Rule) (ox9 : Own) (ob0_Rules : Own) : Sim (Q20) (b20_r3 x1 x9 x10 x11) (f20_r3 0 (iv x1) (.ptr 1 0) (.p (.lst ox9 (x9.map e_Srule_Rule))) (iv x10) (iv x11) [(r_Srule_Set b0 ob0_Rules), (r_Srule_Rule b1)]) := by
  unfold b20_r3
  refine Sim.cast (f20_r3_eq _ _ _ _ _ _ _) ?_
  refine Sim.mk ?_
  refine Sim.bind fun a1 ha1 => ?_
  refine Sim.ob1 (v := (.cptr (k_Srule_Rule a1))) (Eq.trans (by kernel_rfl) (xidx_of (o := ox9) (k := .i64) (n := 5) (e := e_Srule_Rule) (cs := c_Srule_Rule) (fun _ => rfl) (fun _ => rfl) (by decide) ha1)) ?_
  refine Sim.ob1 (v := (.p (.agg (k_Srule_Rule a1)))) (by kernel_rfl) ?_
  refine Sim.bz (v := (.ptr 2 0)) (B2 := [(r_Srule_Set b0 ob0_Rules), (r_Srule_Rule b1), (r_Srule_Rule (Srule_Rule.mk 0 0 0 0 (ByteArray.mk #[])))]) (fun _ => by kernel_rfl) ?_
  refine Sim.stN (B2 := [(r_Srule_Set b0 ob0_Rules), (r_Srule_Rule b1), (r_Srule_Rule a1)]) (fun _ => by kernel_rfl) ?_
  refine Sim.mk ?_
  refine Sim.ob1 (v := (.ptr 2 0)) (by kernel_rfl) ?_
  refine Sim.ob1 (v := (iv a1.ID)) (by kernel_rfl) ?_
  refine Sim.ob1 (v := (bv (a1.ID == x1))) (by kernel_rfl) ?_
  refine Sim.asB (b := (a1.ID == x1)) (by kernel_rfl) ?_
  refine Sim.br (fun _ => ?_) (fun _ => ?_)
  · skip
    refine Sim.mk ?_
    refine Sim.ob1 (v := (.p (.agg (k_Srule_Rule a1)))) (by kernel_rfl) ?_
    refine Sim.stN (B2 := [(r_Srule_Set b0 ob0_Rules), (r_Srule_Rule a1), (r_Srule_Rule a1)]) (fun _ => by kernel_rfl) ?_
    exact Sim.cast (y' := some ((.p (.tup [(.agg (k_Srule_Rule a1)), (.v (.bool true))])), [(r_Srule_Set b0 ob0_Rules), (r_Srule_Rule a1), (r_Srule_Rule a1)])) (by kernel_rfl) (Sim.ret ⟨[(r_Srule_Set b0 ob0_Rules), (r_Srule_Rule a1), (r_Srule_Rule a1)], by kernel_rfl⟩)
  · skip
    exact Sim.cast (by kernel_rfl) (g20_r6_sim (x1) (x9) (x10) (x11) (b0) (b1) ox9 ob0_Rules)
noncomputable def b20_r7  : Option (Srule_Rule × Bool) :=
 some ((Srule_Rule.mk 0 0 0 0 (ByteArray.mk #[])), false)
theorem g20_r7_sim (b0 : Srule_Set) (b1 : Srule_Rule) (ob0_Rules : Own) : Sim (Q20) (b20_r7) (f20_r7 0 (.ptr 1 0) [(r_Srule_Set b0 ob0_Rules), (r_Srule_Rule b1)]) := by
  unfold b20_r7
  refine Sim.cast (f20_r7_eq _ _ _) ?_
  refine Sim.mk ?_
  refine Sim.ob1 (v := (.p (.agg (k_Srule_Rule (Srule_Rule.mk 0 0 0 0 (ByteArray.mk #[])))))) (by kernel_rfl) ?_
  refine Sim.stN (B2 := [(r_Srule_Set b0 ob0_Rules), (r_Srule_Rule (Srule_Rule.mk 0 0 0 0 (ByteArray.mk #[])))]) (fun _ => by kernel_rfl) ?_
  exact Sim.cast (y' := some ((.p (.tup [(.agg (k_Srule_Rule (Srule_Rule.mk 0 0 0 0 (ByteArray.mk #[])))), (.v (.bool false))])), [(r_Srule_Set b0 ob0_Rules), (r_Srule_Rule (Srule_Rule.mk 0 0 0 0 (ByteArray.mk #[])))])) (by kernel_rfl) (Sim.ret ⟨[(r_Srule_Set b0 ob0_Rules), (r_Srule_Rule (Srule_Rule.mk 0 0 0 0 (ByteArray.mk #[])))], by kernel_rfl⟩)
noncomputable def b20_l2 (x1 : Int) (x9 : List Srule_Rule) (x10 : Int) (x11 : Int) : Option (Srule_Rule × Bool) :=
 if ((decide (x11 < x10))) = true then
 (b20_r3 x1 x9 x10 x11)
 else
 (b20_r7)
theorem g20_l2_sim (x1 : Int) (x9 : List Srule_Rule) (x10 : Int) (x11 : Int) (b0 : Srule_Set) (b1 : Srule_Rule) (ox9 : Own) (ob0_Rules : Own) : Sim (Q20) (b20_l2 x1 x9 x10 x11) (f20_l2 0 (iv x1) (.ptr 1 0) (.p (.lst ox9 (x9.map e_Srule_Rule))) (iv x10) (iv x11) [(r_Srule_Set b0 ob0_Rules), (r_Srule_Rule b1)]) := by
  unfold b20_l2
  refine Sim.cast (f20_l2_eq _ _ _ _ _ _ _) ?_
  refine Sim.mk ?_
  refine Sim.ob1 (v := (bv (decide (x11 < x10)))) (by kernel_rfl) ?_
  refine Sim.asB (b := (decide (x11 < x10))) (by kernel_rfl) ?_
  refine Sim.br (fun _ => ?_) (fun _ => ?_)
  · skip
    exact Sim.cast (by kernel_rfl) (g20_r3_sim (x1) (x9) (x10) (x11) (b0) (b1) ox9 ob0_Rules)
  · skip
    exact Sim.cast (by kernel_rfl) (g20_r7_sim (b0) (b1) ob0_Rules)
theorem g20_l2_of (x1 : Int) (x9 : List Srule_Rule) (x10 : Int) (x11 : Int) {r} (h : b20_l2 x1 x9 x10 x11 = some r) : g20_l2 x1 x9 x10 x11 = some r :=
  pick_of (fun _ _ ha hb => RRun.uniq (Q20_u) (ha default default .ex .ex) (hb default default .ex .ex)) (fun b0 b1 ox9 ob0_Rules => g20_l2_sim x1 x9 x10 x11 b0 b1 ox9 ob0_Rules r h)
/-! "colander/colanderlaw07.RuleDrops": g7 -/
noncomputable def b7_r4  : Option (Bool) :=
 some (true)
theorem g7_r4_sim  : Sim (Q7) (b7_r4) (f7_r4 0  []) := by
  unfold b7_r4
  refine Sim.cast (f7_r4_eq _ _) ?_
  refine Sim.mk ?_
  exact Sim.cast (y' := some ((bv true), [])) (by kernel_rfl) (Sim.ret ⟨[], by kernel_rfl⟩)
noncomputable def b7_r18 (x11 : Bool) (x13 : Int) (x15 : Bool) (x17 : Int) (x18 : Int) (b1 : Srule_Rule) (b4 : Srule_Rule) (b5 : Srule_Set) : Option (Bool) :=
 if (x11) = true then
 (if (((b4.ID == b1.ID) && ((b4.Priority == b1.Priority) && ((b4.Action == b1.Action) && ((b4.Scope == b1.Scope) && ((seq b4.Pattern b1.Pattern) && true)))))) = true then
 (if ((x13 == 0)) = true then
 (if ((!x15)) = true then
 (if ((x17 == 32)) = true then
 (some (((b5.Rules.length : Int) == x18)))
 else
 (some (false)))
 else
 (some (false)))
 else
 (some (false)))
 else
 (some (false)))
 else
 (some (false))
theorem g7_r18_sim (x11 : Bool) (x13 : Int) (x15 : Bool) (x17 : Int) (x18 : Int) (b0 : Srule_Set) (b1 : Srule_Rule) (b2_Default : Int) (b2_Closed : Int) (b2_Fuel : Int) (b2_Stack : Int) (b2_Put : List Srule_Rule) (b2_Drop : List Int) (b3 : Srule_Set) (b4 : Srule_Rule) (b5 : Srule_Set) (ob0_Rules : Own) (ob2_Put : Own) (ob2_Drop : Own) (ob3_Rules : Own) (ob5_Rules : Own) (hob2_Put : okApp ob2_Put = true) (hob2_Drop : okApp ob2_Drop = true) : Sim (Q7) (b7_r18 x11 x13 x15 x17 x18 b1 b4 b5) (f7_r18 0 (.ptr 1 0) (.ptr 4 0) (bv x11) (.ptr 5 0) (iv x13) (bv x15) (iv x17) (iv x18) [(r_Srule_Set b0 ob0_Rules), (r_Srule_Rule b1), (r_Srule_Delta (Srule_Delta.mk b2_Default b2_Closed b2_Fuel b2_Stack b2_Put b2_Drop) ob2_Put ob2_Drop), (r_Srule_Set b3 ob3_Rules), (r_Srule_Rule b4), (r_Srule_Set b5 ob5_Rules)]) := by
  unfold b7_r18
  refine Sim.cast (f7_r18_eq _ _ _ _ _ _ _ _ _ _) ?_
  refine Sim.mk ?_
  refine Sim.asB (b := x11) (by kernel_rfl) ?_
  refine Sim.br (fun _ => ?_) (fun _ => ?_)
  · skip
    refine Sim.ob1 (v := (.p (.agg (k_Srule_Rule b4)))) (by kernel_rfl) ?_
    refine Sim.ob1 (v := (.p (.agg (k_Srule_Rule b1)))) (by kernel_rfl) ?_
    refine Sim.ob1 (v := (bv ((b4.ID == b1.ID) && ((b4.Priority == b1.Priority) && ((b4.Action == b1.Action) && ((b4.Scope == b1.Scope) && ((seq b4.Pattern b1.Pattern) && true))))))) (Eq.trans (b := xbin PP .eql 43 (.p (.agg (k_Srule_Rule b4))) (.p (.agg (k_Srule_Rule b1)))) (by kernel_rfl) (xeq_eql (by kernel_rfl) (by kernel_rfl) (by kernel_rfl) (by kernel_rfl) (by kernel_rfl))) ?_
    refine Sim.asB (b := ((b4.ID == b1.ID) && ((b4.Priority == b1.Priority) && ((b4.Action == b1.Action) && ((b4.Scope == b1.Scope) && ((seq b4.Pattern b1.Pattern) && true)))))) (by kernel_rfl) ?_
    refine Sim.br (fun _ => ?_) (fun _ => ?_)
    · skip
      refine Sim.ob1 (v := (bv (x13 == 0))) (by kernel_rfl) ?_
      refine Sim.asB (b := (x13 == 0)) (by kernel_rfl) ?_
      refine Sim.br (fun _ => ?_) (fun _ => ?_)
      · skip
        refine Sim.ob1 (v := (bv (!x15))) (by kernel_rfl) ?_
        refine Sim.asB (b := (!x15)) (by kernel_rfl) ?_
        refine Sim.br (fun _ => ?_) (fun _ => ?_)
        · skip
          refine Sim.ob1 (v := (bv (x17 == 32))) (by kernel_rfl) ?_
          refine Sim.asB (b := (x17 == 32)) (by kernel_rfl) ?_
          refine Sim.br (fun _ => ?_) (fun _ => ?_)
          · skip
            refine Sim.ob1 (v := (.ptr 5 4)) (by kernel_rfl) ?_
            refine Sim.ob1 (v := (.p (.lst (shrO ob5_Rules) (b5.Rules.map e_Srule_Rule)))) (by kernel_rfl) ?_
            refine Sim.ob1 (v := (iv (b5.Rules.length : Int))) (Eq.trans (by kernel_rfl) (xlen_of (P := PP) (t := 22) (d := 43) (by kernel_rfl) e_Srule_Rule (shrO ob5_Rules) b5.Rules)) ?_
            refine Sim.ob1 (v := (bv ((b5.Rules.length : Int) == x18))) (by kernel_rfl) ?_
            exact Sim.cast (y' := some ((bv ((b5.Rules.length : Int) == x18)), [(r_Srule_Set b0 ob0_Rules), (r_Srule_Rule b1), (r_Srule_Delta (Srule_Delta.mk b2_Default b2_Closed b2_Fuel b2_Stack b2_Put b2_Drop) ob2_Put ob2_Drop), (r_Srule_Set b3 ob3_Rules), (r_Srule_Rule b4), (r_Srule_Set b5 ob5_Rules)])) (by kernel_rfl) (Sim.ret ⟨[(r_Srule_Set b0 ob0_Rules), (r_Srule_Rule b1), (r_Srule_Delta (Srule_Delta.mk b2_Default b2_Closed b2_Fuel b2_Stack b2_Put b2_Drop) ob2_Put ob2_Drop), (r_Srule_Set b3 ob3_Rules), (r_Srule_Rule b4), (r_Srule_Set b5 ob5_Rules)], by kernel_rfl⟩)
          · skip
            exact Sim.cast (y' := some ((bv false), [(r_Srule_Set b0 ob0_Rules), (r_Srule_Rule b1), (r_Srule_Delta (Srule_Delta.mk b2_Default b2_Closed b2_Fuel b2_Stack b2_Put b2_Drop) ob2_Put ob2_Drop), (r_Srule_Set b3 ob3_Rules), (r_Srule_Rule b4), (r_Srule_Set b5 ob5_Rules)])) (by kernel_rfl) (Sim.ret ⟨[(r_Srule_Set b0 ob0_Rules), (r_Srule_Rule b1), (r_Srule_Delta (Srule_Delta.mk b2_Default b2_Closed b2_Fuel b2_Stack b2_Put b2_Drop) ob2_Put ob2_Drop), (r_Srule_Set b3 ob3_Rules), (r_Srule_Rule b4), (r_Srule_Set b5 ob5_Rules)], by kernel_rfl⟩)
        · skip
          exact Sim.cast (y' := some ((bv false), [(r_Srule_Set b0 ob0_Rules), (r_Srule_Rule b1), (r_Srule_Delta (Srule_Delta.mk b2_Default b2_Closed b2_Fuel b2_Stack b2_Put b2_Drop) ob2_Put ob2_Drop), (r_Srule_Set b3 ob3_Rules), (r_Srule_Rule b4), (r_Srule_Set b5 ob5_Rules)])) (by kernel_rfl) (Sim.ret ⟨[(r_Srule_Set b0 ob0_Rules), (r_Srule_Rule b1), (r_Srule_Delta (Srule_Delta.mk b2_Default b2_Closed b2_Fuel b2_Stack b2_Put b2_Drop) ob2_Put ob2_Drop), (r_Srule_Set b3 ob3_Rules), (r_Srule_Rule b4), (r_Srule_Set b5 ob5_Rules)], by kernel_rfl⟩)
      · skip
        exact Sim.cast (y' := some ((bv false), [(r_Srule_Set b0 ob0_Rules), (r_Srule_Rule b1), (r_Srule_Delta (Srule_Delta.mk b2_Default b2_Closed b2_Fuel b2_Stack b2_Put b2_Drop) ob2_Put ob2_Drop), (r_Srule_Set b3 ob3_Rules), (r_Srule_Rule b4), (r_Srule_Set b5 ob5_Rules)])) (by kernel_rfl) (Sim.ret ⟨[(r_Srule_Set b0 ob0_Rules), (r_Srule_Rule b1), (r_Srule_Delta (Srule_Delta.mk b2_Default b2_Closed b2_Fuel b2_Stack b2_Put b2_Drop) ob2_Put ob2_Drop), (r_Srule_Set b3 ob3_Rules), (r_Srule_Rule b4), (r_Srule_Set b5 ob5_Rules)], by kernel_rfl⟩)
    · skip
      exact Sim.cast (y' := some ((bv false), [(r_Srule_Set b0 ob0_Rules), (r_Srule_Rule b1), (r_Srule_Delta (Srule_Delta.mk b2_Default b2_Closed b2_Fuel b2_Stack b2_Put b2_Drop) ob2_Put ob2_Drop), (r_Srule_Set b3 ob3_Rules), (r_Srule_Rule b4), (r_Srule_Set b5 ob5_Rules)])) (by kernel_rfl) (Sim.ret ⟨[(r_Srule_Set b0 ob0_Rules), (r_Srule_Rule b1), (r_Srule_Delta (Srule_Delta.mk b2_Default b2_Closed b2_Fuel b2_Stack b2_Put b2_Drop) ob2_Put ob2_Drop), (r_Srule_Set b3 ob3_Rules), (r_Srule_Rule b4), (r_Srule_Set b5 ob5_Rules)], by kernel_rfl⟩)
  · skip
    exact Sim.cast (y' := some ((bv false), [(r_Srule_Set b0 ob0_Rules), (r_Srule_Rule b1), (r_Srule_Delta (Srule_Delta.mk b2_Default b2_Closed b2_Fuel b2_Stack b2_Put b2_Drop) ob2_Put ob2_Drop), (r_Srule_Set b3 ob3_Rules), (r_Srule_Rule b4), (r_Srule_Set b5 ob5_Rules)])) (by kernel_rfl) (Sim.ret ⟨[(r_Srule_Set b0 ob0_Rules), (r_Srule_Rule b1), (r_Srule_Delta (Srule_Delta.mk b2_Default b2_Closed b2_Fuel b2_Stack b2_Put b2_Drop) ob2_Put ob2_Drop), (r_Srule_Set b3 ob3_Rules), (r_Srule_Rule b4), (r_Srule_Set b5 ob5_Rules)], by kernel_rfl⟩)
noncomputable def b7_r10 (x9 : Bool) (b0 : Srule_Set) (b1 : Srule_Rule) (b2_Default : Int) (b2_Closed : Int) (b2_Fuel : Int) (b2_Stack : Int) (b3 : Srule_Set) : Option (Bool) :=
 (g20 b3 b1.ID).bind fun r1 =>
 (g12 b3 ((Srule_Delta.mk b2_Default b2_Closed b2_Fuel b2_Stack ([] : List Srule_Rule) ([b1.ID] : List Int)))).bind fun r2 =>
 (g20 r2.1 b1.ID).bind fun r3 =>
 (g12 r2.1 ((Srule_Delta.mk b2_Default b2_Closed b2_Fuel b2_Stack ([] : List Srule_Rule) ([b1.ID] : List Int)))).bind fun r4 =>
 if (x9) = true then
 (b7_r18 r1.2 r2.2 r3.2 r4.2 ((IntKind.i64.wrap ((b0.Rules.length : Int) - 1))) b1 r1.1 r2.1)
 else
 (b7_r18 r1.2 r2.2 r3.2 r4.2 ((b0.Rules.length : Int)) b1 r1.1 r2.1)
theorem g7_r10_sim (x9 : Bool) (b0 : Srule_Set) (b1 : Srule_Rule) (b2_Default : Int) (b2_Closed : Int) (b2_Fuel : Int) (b2_Stack : Int) (b2_Put : List Srule_Rule) (b2_Drop : List Int) (b3 : Srule_Set) (ob0_Rules : Own) (ob2_Put : Own) (ob2_Drop : Own) (ob3_Rules : Own) (hob2_Put : okApp ob2_Put = true) (hob2_Drop : okApp ob2_Drop = true) : Sim (Q7) (b7_r10 x9 b0 b1 b2_Default b2_Closed b2_Fuel b2_Stack b3) (f7_r10 0 (.ptr 0 0) (.ptr 1 0) (.ptr 2 0) (.ptr 3 0) (bv x9) [(r_Srule_Set b0 ob0_Rules), (r_Srule_Rule b1), (r_Srule_Delta (Srule_Delta.mk b2_Default b2_Closed b2_Fuel b2_Stack b2_Put b2_Drop) ob2_Put ob2_Drop), (r_Srule_Set b3 ob3_Rules)]) := by
  unfold b7_r10
  refine Sim.cast (f7_r10_eq _ _ _ _ _ _ _) ?_
  refine Sim.mk ?_
  refine Sim.ob1 (v := (.p (.agg (k_Srule_Set b3 (shrO ob3_Rules))))) (by kernel_rfl) ?_
  refine Sim.ob1 (v := (.ptr 1 0)) (by kernel_rfl) ?_
  refine Sim.ob1 (v := (iv b1.ID)) (by kernel_rfl) ?_
  refine Sim.bind fun r1 hr1 => ?_
  obtain ⟨qr1, er1, exr1, rfl⟩ := g20_to (b3) (b1.ID) .sh r1 hr1
  refine Sim.callS (rs := []) (v := (.p (.tup [(.agg (k_Srule_Rule r1.1)), (.v (.bool r1.2))]))) (B2 := [(r_Srule_Set b0 ob0_Rules), (r_Srule_Rule b1), (r_Srule_Delta (Srule_Delta.mk b2_Default b2_Closed b2_Fuel b2_Stack b2_Put b2_Drop) ob2_Put ob2_Drop), (r_Srule_Set b3 ob3_Rules)]) (fun _ => by kernel_rfl) er1 (fun _ => by kernel_rfl) ?_
  refine Sim.ob1 (v := (.p (.agg (k_Srule_Rule r1.1)))) (by kernel_rfl) ?_
  refine Sim.ob1 (v := (bv r1.2)) (by kernel_rfl) ?_
  refine Sim.bz (v := (.ptr 4 0)) (B2 := [(r_Srule_Set b0 ob0_Rules), (r_Srule_Rule b1), (r_Srule_Delta (Srule_Delta.mk b2_Default b2_Closed b2_Fuel b2_Stack b2_Put b2_Drop) ob2_Put ob2_Drop), (r_Srule_Set b3 ob3_Rules), (r_Srule_Rule (Srule_Rule.mk 0 0 0 0 (ByteArray.mk #[])))]) (fun _ => by kernel_rfl) ?_
  refine Sim.stN (B2 := [(r_Srule_Set b0 ob0_Rules), (r_Srule_Rule b1), (r_Srule_Delta (Srule_Delta.mk b2_Default b2_Closed b2_Fuel b2_Stack b2_Put b2_Drop) ob2_Put ob2_Drop), (r_Srule_Set b3 ob3_Rules), (r_Srule_Rule r1.1)]) (fun _ => by kernel_rfl) ?_
  refine Sim.mk ?_
  refine Sim.ob1 (v := (.ptr 1 0)) (by kernel_rfl) ?_
  refine Sim.ob1 (v := (iv b1.ID)) (by kernel_rfl) ?_
  refine Sim.ob1 (v := (.p (.lst .ex (([b1.ID] : List Int).map (eI .i64))))) (by kernel_rfl) ?_
  refine Sim.ob1 (v := (.ptr 2 4)) (by kernel_rfl) ?_
  refine Sim.stN (B2 := [(r_Srule_Set b0 ob0_Rules), (r_Srule_Rule b1), (r_Srule_Delta (Srule_Delta.mk b2_Default b2_Closed b2_Fuel b2_Stack ([] : List Srule_Rule) b2_Drop) .nl ob2_Drop), (r_Srule_Set b3 ob3_Rules), (r_Srule_Rule r1.1)]) (fun _ => by kernel_rfl) ?_
  refine Sim.ob1 (v := (.ptr 2 5)) (by kernel_rfl) ?_
  refine Sim.stN (B2 := [(r_Srule_Set b0 ob0_Rules), (r_Srule_Rule b1), (r_Srule_Delta (Srule_Delta.mk b2_Default b2_Closed b2_Fuel b2_Stack ([] : List Srule_Rule) ([b1.ID] : List Int)) .nl .ex), (r_Srule_Set b3 ob3_Rules), (r_Srule_Rule r1.1)]) (fun _ => by kernel_rfl) ?_
  refine Sim.grd (by kernel_rfl) ?_
  refine Sim.mk ?_
  refine Sim.ob1 (v := (.p (.agg (k_Srule_Set b3 (shrO ob3_Rules))))) (by kernel_rfl) ?_
  refine Sim.ob1 (v := (.p (.agg (k_Srule_Delta (Srule_Delta.mk b2_Default b2_Closed b2_Fuel b2_Stack ([] : List Srule_Rule) ([b1.ID] : List Int)) .nl .ex)))) (by kernel_rfl) ?_
  refine Sim.bind fun r2 hr2 => ?_
  obtain ⟨qr2, er2, exr2, rfl⟩ := g12_to (b3) ((Srule_Delta.mk b2_Default b2_Closed b2_Fuel b2_Stack ([] : List Srule_Rule) ([b1.ID] : List Int))) .sh .sh .sh r2 hr2
  refine Sim.callS (rs := []) (v := (.p (.tup [(.agg (k_Srule_Set r2.1 .sh)), (.v (.int .i64 r2.2))]))) (B2 := [(r_Srule_Set b0 ob0_Rules), (r_Srule_Rule b1), (r_Srule_Delta (Srule_Delta.mk b2_Default b2_Closed b2_Fuel b2_Stack ([] : List Srule_Rule) ([b1.ID] : List Int)) .nl .ex), (r_Srule_Set b3 ob3_Rules), (r_Srule_Rule r1.1)]) (fun _ => by kernel_rfl) er2 (fun _ => by kernel_rfl) ?_
  refine Sim.ob1 (v := (.p (.agg (k_Srule_Set r2.1 .sh)))) (by kernel_rfl) ?_
  refine Sim.ob1 (v := (iv r2.2)) (by kernel_rfl) ?_
  refine Sim.bz (v := (.ptr 5 0)) (B2 := [(r_Srule_Set b0 ob0_Rules), (r_Srule_Rule b1), (r_Srule_Delta (Srule_Delta.mk b2_Default b2_Closed b2_Fuel b2_Stack ([] : List Srule_Rule) ([b1.ID] : List Int)) .nl .ex), (r_Srule_Set b3 ob3_Rules), (r_Srule_Rule r1.1), (r_Srule_Set (Srule_Set.mk 0 0 0 0 ([] : List Srule_Rule)) .nl)]) (fun _ => by kernel_rfl) ?_
  refine Sim.stN (B2 := [(r_Srule_Set b0 ob0_Rules), (r_Srule_Rule b1), (r_Srule_Delta (Srule_Delta.mk b2_Default b2_Closed b2_Fuel b2_Stack ([] : List Srule_Rule) ([b1.ID] : List Int)) .nl .ex), (r_Srule_Set b3 ob3_Rules), (r_Srule_Rule r1.1), (r_Srule_Set r2.1 .sh)]) (fun _ => by kernel_rfl) ?_
  refine Sim.mk ?_
  refine Sim.ob1 (v := (.p (.agg (k_Srule_Set r2.1 .sh)))) (by kernel_rfl) ?_
  refine Sim.ob1 (v := (.ptr 1 0)) (by kernel_rfl) ?_
  refine Sim.ob1 (v := (iv b1.ID)) (by kernel_rfl) ?_
  refine Sim.bind fun r3 hr3 => ?_
  obtain ⟨qr3, er3, exr3, rfl⟩ := g20_to (r2.1) (b1.ID) .sh r3 hr3
  refine Sim.callS (rs := []) (v := (.p (.tup [(.agg (k_Srule_Rule r3.1)), (.v (.bool r3.2))]))) (B2 := [(r_Srule_Set b0 ob0_Rules), (r_Srule_Rule b1), (r_Srule_Delta (Srule_Delta.mk b2_Default b2_Closed b2_Fuel b2_Stack ([] : List Srule_Rule) ([b1.ID] : List Int)) .nl .ex), (r_Srule_Set b3 ob3_Rules), (r_Srule_Rule r1.1), (r_Srule_Set r2.1 .sh)]) (fun _ => by kernel_rfl) er3 (fun _ => by kernel_rfl) ?_
  refine Sim.ob1 (v := (.p (.agg (k_Srule_Rule r3.1)))) (by kernel_rfl) ?_
  refine Sim.ob1 (v := (bv r3.2)) (by kernel_rfl) ?_
  refine Sim.bz (v := (.ptr 6 0)) (B2 := [(r_Srule_Set b0 ob0_Rules), (r_Srule_Rule b1), (r_Srule_Delta (Srule_Delta.mk b2_Default b2_Closed b2_Fuel b2_Stack ([] : List Srule_Rule) ([b1.ID] : List Int)) .nl .ex), (r_Srule_Set b3 ob3_Rules), (r_Srule_Rule r1.1), (r_Srule_Set r2.1 .sh), (r_Srule_Rule (Srule_Rule.mk 0 0 0 0 (ByteArray.mk #[])))]) (fun _ => by kernel_rfl) ?_
  refine Sim.stN (B2 := [(r_Srule_Set b0 ob0_Rules), (r_Srule_Rule b1), (r_Srule_Delta (Srule_Delta.mk b2_Default b2_Closed b2_Fuel b2_Stack ([] : List Srule_Rule) ([b1.ID] : List Int)) .nl .ex), (r_Srule_Set b3 ob3_Rules), (r_Srule_Rule r1.1), (r_Srule_Set r2.1 .sh), (r_Srule_Rule r3.1)]) (fun _ => by kernel_rfl) ?_
  refine Sim.mk ?_
  refine Sim.ob1 (v := (.p (.agg (k_Srule_Set r2.1 .sh)))) (by kernel_rfl) ?_
  refine Sim.ob1 (v := (.p (.agg (k_Srule_Delta (Srule_Delta.mk b2_Default b2_Closed b2_Fuel b2_Stack ([] : List Srule_Rule) ([b1.ID] : List Int)) .nl .ex)))) (by kernel_rfl) ?_
  refine Sim.bind fun r4 hr4 => ?_
  obtain ⟨qr4, er4, exr4, rfl⟩ := g12_to (r2.1) ((Srule_Delta.mk b2_Default b2_Closed b2_Fuel b2_Stack ([] : List Srule_Rule) ([b1.ID] : List Int))) .sh .sh .sh r4 hr4
  refine Sim.callS (rs := []) (v := (.p (.tup [(.agg (k_Srule_Set r4.1 .sh)), (.v (.int .i64 r4.2))]))) (B2 := [(r_Srule_Set b0 ob0_Rules), (r_Srule_Rule b1), (r_Srule_Delta (Srule_Delta.mk b2_Default b2_Closed b2_Fuel b2_Stack ([] : List Srule_Rule) ([b1.ID] : List Int)) .nl .ex), (r_Srule_Set b3 ob3_Rules), (r_Srule_Rule r1.1), (r_Srule_Set r2.1 .sh), (r_Srule_Rule r3.1)]) (fun _ => by kernel_rfl) er4 (fun _ => by kernel_rfl) ?_
  refine Sim.ob1 (v := (.p (.agg (k_Srule_Set r4.1 .sh)))) (by kernel_rfl) ?_
  refine Sim.ob1 (v := (iv r4.2)) (by kernel_rfl) ?_
  refine Sim.bz (v := (.ptr 7 0)) (B2 := [(r_Srule_Set b0 ob0_Rules), (r_Srule_Rule b1), (r_Srule_Delta (Srule_Delta.mk b2_Default b2_Closed b2_Fuel b2_Stack ([] : List Srule_Rule) ([b1.ID] : List Int)) .nl .ex), (r_Srule_Set b3 ob3_Rules), (r_Srule_Rule r1.1), (r_Srule_Set r2.1 .sh), (r_Srule_Rule r3.1), (r_Srule_Set (Srule_Set.mk 0 0 0 0 ([] : List Srule_Rule)) .nl)]) (fun _ => by kernel_rfl) ?_
  refine Sim.stN (B2 := [(r_Srule_Set b0 ob0_Rules), (r_Srule_Rule b1), (r_Srule_Delta (Srule_Delta.mk b2_Default b2_Closed b2_Fuel b2_Stack ([] : List Srule_Rule) ([b1.ID] : List Int)) .nl .ex), (r_Srule_Set b3 ob3_Rules), (r_Srule_Rule r1.1), (r_Srule_Set r2.1 .sh), (r_Srule_Rule r3.1), (r_Srule_Set r4.1 .sh)]) (fun _ => by kernel_rfl) ?_
  refine Sim.mk ?_
  refine Sim.ob1 (v := (.ptr 0 4)) (by kernel_rfl) ?_
  refine Sim.ob1 (v := (.p (.lst (shrO ob0_Rules) (b0.Rules.map e_Srule_Rule)))) (by kernel_rfl) ?_
  refine Sim.ob1 (v := (iv (b0.Rules.length : Int))) (Eq.trans (by kernel_rfl) (xlen_of (P := PP) (t := 22) (d := 43) (by kernel_rfl) e_Srule_Rule (shrO ob0_Rules) b0.Rules)) ?_
  refine Sim.mk ?_
  refine Sim.asB (b := x9) (by kernel_rfl) ?_
  refine Sim.br (fun _ => ?_) (fun _ => ?_)
  · skip
    refine Sim.mk ?_
    refine Sim.ob1 (v := (iv (IntKind.i64.wrap ((b0.Rules.length : Int) - 1)))) (by kernel_rfl) ?_
    exact Sim.cast (by kernel_rfl) (g7_r18_sim (r1.2) (r2.2) (r3.2) (r4.2) ((IntKind.i64.wrap ((b0.Rules.length : Int) - 1))) (b0) (b1) (b2_Default) (b2_Closed) (b2_Fuel) (b2_Stack) (([] : List Srule_Rule)) (([b1.ID] : List Int)) (b3) (r1.1) (r2.1) ob0_Rules .nl .ex ob3_Rules .sh rfl rfl)
  · skip
    exact Sim.cast (by kernel_rfl) (g7_r18_sim (r1.2) (r2.2) (r3.2) (r4.2) ((b0.Rules.length : Int)) (b0) (b1) (b2_Default) (b2_Closed) (b2_Fuel) (b2_Stack) (([] : List Srule_Rule)) (([b1.ID] : List Int)) (b3) (r1.1) (r2.1) ob0_Rules .nl .ex ob3_Rules .sh rfl rfl)
noncomputable def b7_r5 (b0 : Srule_Set) (b1 : Srule_Rule) : Option (Bool) :=
 (g12 b0 ((Srule_Delta.mk (-1) (-1) (-1) (-1) ([b1] : List Srule_Rule) ([] : List Int)))).bind fun r1 =>
 (g20 b0 b1.ID).bind fun r2 =>
 if ((r1.2 != 0)) = true then
 (if ((r1.2 == 33)) = true then
 (if ((!r2.2)) = true then
 (some (((b0.Rules.length : Int) == 16)))
 else
 (some (false)))
 else
 (some (false)))
 else
 (b7_r10 r2.2 b0 b1 ((-1)) ((-1)) ((-1)) ((-1)) r1.1)
theorem g7_r5_sim (b0 : Srule_Set) (b1 : Srule_Rule) (ob0_Rules : Own) : Sim (Q7) (b7_r5 b0 b1) (f7_r5 0 (.ptr 0 0) (.ptr 1 0) [(r_Srule_Set b0 ob0_Rules), (r_Srule_Rule b1)]) := by
  unfold b7_r5
  refine Sim.cast (f7_r5_eq _ _ _ _) ?_
  refine Sim.mk ?_
  refine Sim.ob1 (v := (.p (.agg (k_Srule_Rule b1)))) (by kernel_rfl) ?_
  refine Sim.ob1 (v := (.p (.lst .ex (([b1] : List Srule_Rule).map e_Srule_Rule)))) (by kernel_rfl) ?_
  refine Sim.ob1 (v := (.p (.agg (k_Srule_Delta (Srule_Delta.mk (-1) (-1) (-1) (-1) ([b1] : List Srule_Rule) ([] : List Int)) .ex .nl)))) (by kernel_rfl) ?_
  refine Sim.bz (v := (.ptr 2 0)) (B2 := [(r_Srule_Set b0 ob0_Rules), (r_Srule_Rule b1), (r_Srule_Delta (Srule_Delta.mk 0 0 0 0 ([] : List Srule_Rule) ([] : List Int)) .nl .nl)]) (fun _ => by kernel_rfl) ?_
  refine Sim.stN (B2 := [(r_Srule_Set b0 ob0_Rules), (r_Srule_Rule b1), (r_Srule_Delta (Srule_Delta.mk (-1) (-1) (-1) (-1) ([b1] : List Srule_Rule) ([] : List Int)) .ex .nl)]) (fun _ => by kernel_rfl) ?_
  refine Sim.mk ?_
  refine Sim.ob1 (v := (.p (.agg (k_Srule_Set b0 (shrO ob0_Rules))))) (by kernel_rfl) ?_
  refine Sim.ob1 (v := (.p (.agg (k_Srule_Delta (Srule_Delta.mk (-1) (-1) (-1) (-1) ([b1] : List Srule_Rule) ([] : List Int)) .ex .nl)))) (by kernel_rfl) ?_
  refine Sim.bind fun r1 hr1 => ?_
  obtain ⟨qr1, er1, exr1, rfl⟩ := g12_to (b0) ((Srule_Delta.mk (-1) (-1) (-1) (-1) ([b1] : List Srule_Rule) ([] : List Int))) .sh .sh .sh r1 hr1
  refine Sim.callS (rs := []) (v := (.p (.tup [(.agg (k_Srule_Set r1.1 .sh)), (.v (.int .i64 r1.2))]))) (B2 := [(r_Srule_Set b0 ob0_Rules), (r_Srule_Rule b1), (r_Srule_Delta (Srule_Delta.mk (-1) (-1) (-1) (-1) ([b1] : List Srule_Rule) ([] : List Int)) .ex .nl)]) (fun _ => by kernel_rfl) er1 (fun _ => by kernel_rfl) ?_
  refine Sim.ob1 (v := (.p (.agg (k_Srule_Set r1.1 .sh)))) (by kernel_rfl) ?_
  refine Sim.ob1 (v := (iv r1.2)) (by kernel_rfl) ?_
  refine Sim.bz (v := (.ptr 3 0)) (B2 := [(r_Srule_Set b0 ob0_Rules), (r_Srule_Rule b1), (r_Srule_Delta (Srule_Delta.mk (-1) (-1) (-1) (-1) ([b1] : List Srule_Rule) ([] : List Int)) .ex .nl), (r_Srule_Set (Srule_Set.mk 0 0 0 0 ([] : List Srule_Rule)) .nl)]) (fun _ => by kernel_rfl) ?_
  refine Sim.stN (B2 := [(r_Srule_Set b0 ob0_Rules), (r_Srule_Rule b1), (r_Srule_Delta (Srule_Delta.mk (-1) (-1) (-1) (-1) ([b1] : List Srule_Rule) ([] : List Int)) .ex .nl), (r_Srule_Set r1.1 .sh)]) (fun _ => by kernel_rfl) ?_
  refine Sim.mk ?_
  refine Sim.ob1 (v := (.p (.agg (k_Srule_Set b0 (shrO ob0_Rules))))) (by kernel_rfl) ?_
  refine Sim.ob1 (v := (.ptr 1 0)) (by kernel_rfl) ?_
  refine Sim.ob1 (v := (iv b1.ID)) (by kernel_rfl) ?_
  refine Sim.bind fun r2 hr2 => ?_
  obtain ⟨qr2, er2, exr2, rfl⟩ := g20_to (b0) (b1.ID) .sh r2 hr2
  refine Sim.callS (rs := []) (v := (.p (.tup [(.agg (k_Srule_Rule r2.1)), (.v (.bool r2.2))]))) (B2 := [(r_Srule_Set b0 ob0_Rules), (r_Srule_Rule b1), (r_Srule_Delta (Srule_Delta.mk (-1) (-1) (-1) (-1) ([b1] : List Srule_Rule) ([] : List Int)) .ex .nl), (r_Srule_Set r1.1 .sh)]) (fun _ => by kernel_rfl) er2 (fun _ => by kernel_rfl) ?_
  refine Sim.ob1 (v := (.p (.agg (k_Srule_Rule r2.1)))) (by kernel_rfl) ?_
  refine Sim.ob1 (v := (bv r2.2)) (by kernel_rfl) ?_
  refine Sim.bz (v := (.ptr 4 0)) (B2 := [(r_Srule_Set b0 ob0_Rules), (r_Srule_Rule b1), (r_Srule_Delta (Srule_Delta.mk (-1) (-1) (-1) (-1) ([b1] : List Srule_Rule) ([] : List Int)) .ex .nl), (r_Srule_Set r1.1 .sh), (r_Srule_Rule (Srule_Rule.mk 0 0 0 0 (ByteArray.mk #[])))]) (fun _ => by kernel_rfl) ?_
  refine Sim.stN (B2 := [(r_Srule_Set b0 ob0_Rules), (r_Srule_Rule b1), (r_Srule_Delta (Srule_Delta.mk (-1) (-1) (-1) (-1) ([b1] : List Srule_Rule) ([] : List Int)) .ex .nl), (r_Srule_Set r1.1 .sh), (r_Srule_Rule r2.1)]) (fun _ => by kernel_rfl) ?_
  refine Sim.mk ?_
  refine Sim.ob1 (v := (bv (r1.2 != 0))) (by kernel_rfl) ?_
  refine Sim.asB (b := (r1.2 != 0)) (by kernel_rfl) ?_
  refine Sim.br (fun _ => ?_) (fun _ => ?_)
  · skip
    refine Sim.mk ?_
    refine Sim.ob1 (v := (bv (r1.2 == 33))) (by kernel_rfl) ?_
    refine Sim.asB (b := (r1.2 == 33)) (by kernel_rfl) ?_
    refine Sim.br (fun _ => ?_) (fun _ => ?_)
    · skip
      refine Sim.ob1 (v := (bv (!r2.2))) (by kernel_rfl) ?_
      refine Sim.asB (b := (!r2.2)) (by kernel_rfl) ?_
      refine Sim.br (fun _ => ?_) (fun _ => ?_)
      · skip
        refine Sim.ob1 (v := (.ptr 0 4)) (by kernel_rfl) ?_
        refine Sim.ob1 (v := (.p (.lst (shrO ob0_Rules) (b0.Rules.map e_Srule_Rule)))) (by kernel_rfl) ?_
        refine Sim.ob1 (v := (iv (b0.Rules.length : Int))) (Eq.trans (by kernel_rfl) (xlen_of (P := PP) (t := 22) (d := 43) (by kernel_rfl) e_Srule_Rule (shrO ob0_Rules) b0.Rules)) ?_
        refine Sim.ob1 (v := (bv ((b0.Rules.length : Int) == 16))) (by kernel_rfl) ?_
        exact Sim.cast (y' := some ((bv ((b0.Rules.length : Int) == 16)), [(r_Srule_Set b0 ob0_Rules), (r_Srule_Rule b1), (r_Srule_Delta (Srule_Delta.mk (-1) (-1) (-1) (-1) ([b1] : List Srule_Rule) ([] : List Int)) .ex .nl), (r_Srule_Set r1.1 .sh), (r_Srule_Rule r2.1)])) (by kernel_rfl) (Sim.ret ⟨[(r_Srule_Set b0 ob0_Rules), (r_Srule_Rule b1), (r_Srule_Delta (Srule_Delta.mk (-1) (-1) (-1) (-1) ([b1] : List Srule_Rule) ([] : List Int)) .ex .nl), (r_Srule_Set r1.1 .sh), (r_Srule_Rule r2.1)], by kernel_rfl⟩)
      · skip
        exact Sim.cast (y' := some ((bv false), [(r_Srule_Set b0 ob0_Rules), (r_Srule_Rule b1), (r_Srule_Delta (Srule_Delta.mk (-1) (-1) (-1) (-1) ([b1] : List Srule_Rule) ([] : List Int)) .ex .nl), (r_Srule_Set r1.1 .sh), (r_Srule_Rule r2.1)])) (by kernel_rfl) (Sim.ret ⟨[(r_Srule_Set b0 ob0_Rules), (r_Srule_Rule b1), (r_Srule_Delta (Srule_Delta.mk (-1) (-1) (-1) (-1) ([b1] : List Srule_Rule) ([] : List Int)) .ex .nl), (r_Srule_Set r1.1 .sh), (r_Srule_Rule r2.1)], by kernel_rfl⟩)
    · skip
      exact Sim.cast (y' := some ((bv false), [(r_Srule_Set b0 ob0_Rules), (r_Srule_Rule b1), (r_Srule_Delta (Srule_Delta.mk (-1) (-1) (-1) (-1) ([b1] : List Srule_Rule) ([] : List Int)) .ex .nl), (r_Srule_Set r1.1 .sh), (r_Srule_Rule r2.1)])) (by kernel_rfl) (Sim.ret ⟨[(r_Srule_Set b0 ob0_Rules), (r_Srule_Rule b1), (r_Srule_Delta (Srule_Delta.mk (-1) (-1) (-1) (-1) ([b1] : List Srule_Rule) ([] : List Int)) .ex .nl), (r_Srule_Set r1.1 .sh), (r_Srule_Rule r2.1)], by kernel_rfl⟩)
  · skip
    exact Sim.cast (by kernel_rfl) (g7_r10_sim (r2.2) (b0) (b1) ((-1)) ((-1)) ((-1)) ((-1)) (([b1] : List Srule_Rule)) (([] : List Int)) (r1.1) ob0_Rules .ex .nl .sh rfl rfl)
noncomputable def b7_r3 (b0 : Srule_Set) (b1 : Srule_Rule) : Option (Bool) :=
 if ((decide (40 < (b0.Rules.length : Int)))) = true then
 (b7_r4)
 else
 ((g16 b0).bind fun r1 =>
 if ((!r1)) = true then
 (b7_r4)
 else
 ((g21 b1).bind fun r2 =>
 if ((!r2)) = true then
 (b7_r4)
 else
 (b7_r5 b0 b1)))
theorem g7_r3_sim (b0 : Srule_Set) (b1 : Srule_Rule) (ob0_Rules : Own) : Sim (Q7) (b7_r3 b0 b1) (f7_r3 0 (.ptr 0 0) (.ptr 1 0) [(r_Srule_Set b0 ob0_Rules), (r_Srule_Rule b1)]) := by
  unfold b7_r3
  refine Sim.cast (f7_r3_eq _ _ _ _) ?_
  refine Sim.mk ?_
  refine Sim.ob1 (v := (.ptr 0 4)) (by kernel_rfl) ?_
  refine Sim.ob1 (v := (.p (.lst (shrO ob0_Rules) (b0.Rules.map e_Srule_Rule)))) (by kernel_rfl) ?_
  refine Sim.ob1 (v := (iv (b0.Rules.length : Int))) (Eq.trans (by kernel_rfl) (xlen_of (P := PP) (t := 22) (d := 43) (by kernel_rfl) e_Srule_Rule (shrO ob0_Rules) b0.Rules)) ?_
  refine Sim.ob1 (v := (bv (decide (40 < (b0.Rules.length : Int))))) (by kernel_rfl) ?_
  refine Sim.asB (b := (decide (40 < (b0.Rules.length : Int)))) (by kernel_rfl) ?_
  refine Sim.br (fun _ => ?_) (fun _ => ?_)
  · skip
    exact Sim.cast (by kernel_rfl) (g7_r4_sim )
  · skip
    refine Sim.ob1 (v := (.p (.agg (k_Srule_Set b0 (shrO ob0_Rules))))) (by kernel_rfl) ?_
    refine Sim.bind fun r1 hr1 => ?_
    obtain ⟨qr1, er1, exr1, rfl⟩ := g16_to (b0) .sh r1 hr1
    refine Sim.callS (rs := []) (v := (bv r1)) (B2 := [(r_Srule_Set b0 ob0_Rules), (r_Srule_Rule b1)]) (fun _ => by kernel_rfl) er1 (fun _ => by kernel_rfl) ?_
    refine Sim.ob1 (v := (bv (!r1))) (by kernel_rfl) ?_
    refine Sim.asB (b := (!r1)) (by kernel_rfl) ?_
    refine Sim.br (fun _ => ?_) (fun _ => ?_)
    · skip
      exact Sim.cast (by kernel_rfl) (g7_r4_sim )
    · skip
      refine Sim.ob1 (v := (.p (.agg (k_Srule_Rule b1)))) (by kernel_rfl) ?_
      refine Sim.bind fun r2 hr2 => ?_
      obtain ⟨qr2, er2, exr2, rfl⟩ := g21_to (b1) r2 hr2
      refine Sim.callS (rs := []) (v := (bv r2)) (B2 := [(r_Srule_Set b0 ob0_Rules), (r_Srule_Rule b1)]) (fun _ => by kernel_rfl) er2 (fun _ => by kernel_rfl) ?_
      refine Sim.ob1 (v := (bv (!r2))) (by kernel_rfl) ?_
      refine Sim.asB (b := (!r2)) (by kernel_rfl) ?_
      refine Sim.br (fun _ => ?_) (fun _ => ?_)
      · skip
        exact Sim.cast (by kernel_rfl) (g7_r4_sim )
      · skip
        exact Sim.cast (by kernel_rfl) (g7_r5_sim (b0) (b1) ob0_Rules)
noncomputable def b7 (x0 : Srule_Set) (x1 : Srule_Rule) : Option (Bool) :=
 (g10).bind fun r1 =>
 if ((!r1)) = true then
 (some (false))
 else
 (b7_r3 x0 x1)
theorem g7_sim (x0 : Srule_Set) (x1 : Srule_Rule) (ox0_Rules : Own) : Sim (Q7) (b7 x0 x1) (EE 7 [(.p (.agg (k_Srule_Set x0 ox0_Rules))), (.p (.agg (k_Srule_Rule x1)))] []) := by
  unfold b7
  refine Sim.cast (f7_eq _ _ _) ?_
  refine Sim.mk ?_
  refine Sim.bx (v := (.ptr 0 0)) (B2 := [(r_Srule_Set x0 ox0_Rules)]) (fun _ => by kernel_rfl) ?_
  refine Sim.bx (v := (.ptr 1 0)) (B2 := [(r_Srule_Set x0 ox0_Rules), (r_Srule_Rule x1)]) (fun _ => by kernel_rfl) ?_
  refine Sim.mk ?_
  refine Sim.bind fun r1 hr1 => ?_
  obtain ⟨qr1, er1, exr1, rfl⟩ := g10_to  r1 hr1
  refine Sim.callS (rs := []) (v := (bv r1)) (B2 := [(r_Srule_Set x0 ox0_Rules), (r_Srule_Rule x1)]) (fun _ => by kernel_rfl) er1 (fun _ => by kernel_rfl) ?_
  refine Sim.ob1 (v := (bv (!r1))) (by kernel_rfl) ?_
  refine Sim.asB (b := (!r1)) (by kernel_rfl) ?_
  refine Sim.br (fun _ => ?_) (fun _ => ?_)
  · skip
    refine Sim.mk ?_
    exact Sim.cast (y' := some ((bv false), [(r_Srule_Set x0 ox0_Rules), (r_Srule_Rule x1)])) (by kernel_rfl) (Sim.ret ⟨[(r_Srule_Set x0 ox0_Rules), (r_Srule_Rule x1)], by kernel_rfl⟩)
  · skip
    exact Sim.cast (by kernel_rfl) (g7_r3_sim (x0) (x1) ox0_Rules)
theorem g7_of (x0 : Srule_Set) (x1 : Srule_Rule) {r} (h : b7 x0 x1 = some r) : g7 x0 x1 = some r :=
  pick_of (fun _ _ ha hb => RRun.uniq (Q7_u) (ha .ex) (hb .ex)) (fun ox0_Rules => g7_sim x0 x1 ox0_Rules r h)
/-! "colander/colanderlaw07.RuleDiffs": g8 -/
noncomputable def b8_r4  : Option (Bool) :=
 some (true)
theorem g8_r4_sim  : Sim (Q8) (b8_r4) (f8_r4 0  []) := by
  unfold b8_r4
  refine Sim.cast (f8_r4_eq _ _) ?_
  refine Sim.mk ?_
  exact Sim.cast (y' := some ((bv true), [])) (by kernel_rfl) (Sim.ret ⟨[], by kernel_rfl⟩)
noncomputable def b8_r7 (x6 : Int) (b2 : Srule_Delta) : Option (Bool) :=
 if ((x6 == 10)) = true then
 (some (((IntKind.i64.wrap ((b2.Put.length : Int) + (b2.Drop.length : Int))) == 0)))
 else
 (some (false))
theorem g8_r7_sim (x6 : Int) (b0 : Srule_Set) (b1 : Srule_Set) (b2 : Srule_Delta) (ob0_Rules : Own) (ob1_Rules : Own) (ob2_Put : Own) (ob2_Drop : Own) : Sim (Q8) (b8_r7 x6 b2) (f8_r7 0 (.ptr 2 0) (iv x6) [(r_Srule_Set b0 ob0_Rules), (r_Srule_Set b1 ob1_Rules), (r_Srule_Delta b2 ob2_Put ob2_Drop)]) := by
  unfold b8_r7
  refine Sim.cast (f8_r7_eq _ _ _ _) ?_
  refine Sim.mk ?_
  refine Sim.ob1 (v := (bv (x6 == 10))) (by kernel_rfl) ?_
  refine Sim.asB (b := (x6 == 10)) (by kernel_rfl) ?_
  refine Sim.br (fun _ => ?_) (fun _ => ?_)
  · skip
    refine Sim.ob1 (v := (.ptr 2 4)) (by kernel_rfl) ?_
    refine Sim.ob1 (v := (.p (.lst (shrO ob2_Put) (b2.Put.map e_Srule_Rule)))) (by kernel_rfl) ?_
    refine Sim.ob1 (v := (iv (b2.Put.length : Int))) (Eq.trans (by kernel_rfl) (xlen_of (P := PP) (t := 22) (d := 43) (by kernel_rfl) e_Srule_Rule (shrO ob2_Put) b2.Put)) ?_
    refine Sim.ob1 (v := (.ptr 2 5)) (by kernel_rfl) ?_
    refine Sim.ob1 (v := (.p (.lst (shrO ob2_Drop) (b2.Drop.map (eI .i64))))) (by kernel_rfl) ?_
    refine Sim.ob1 (v := (iv (b2.Drop.length : Int))) (Eq.trans (by kernel_rfl) (xlen_of (P := PP) (t := 25) (d := 3) (by kernel_rfl) (eI .i64) (shrO ob2_Drop) b2.Drop)) ?_
    refine Sim.ob1 (v := (iv (IntKind.i64.wrap ((b2.Put.length : Int) + (b2.Drop.length : Int))))) (by kernel_rfl) ?_
    refine Sim.ob1 (v := (bv ((IntKind.i64.wrap ((b2.Put.length : Int) + (b2.Drop.length : Int))) == 0))) (by kernel_rfl) ?_
    exact Sim.cast (y' := some ((bv ((IntKind.i64.wrap ((b2.Put.length : Int) + (b2.Drop.length : Int))) == 0)), [(r_Srule_Set b0 ob0_Rules), (r_Srule_Set b1 ob1_Rules), (r_Srule_Delta b2 ob2_Put ob2_Drop)])) (by kernel_rfl) (Sim.ret ⟨[(r_Srule_Set b0 ob0_Rules), (r_Srule_Set b1 ob1_Rules), (r_Srule_Delta b2 ob2_Put ob2_Drop)], by kernel_rfl⟩)
  · skip
    exact Sim.cast (y' := some ((bv false), [(r_Srule_Set b0 ob0_Rules), (r_Srule_Set b1 ob1_Rules), (r_Srule_Delta b2 ob2_Put ob2_Drop)])) (by kernel_rfl) (Sim.ret ⟨[(r_Srule_Set b0 ob0_Rules), (r_Srule_Set b1 ob1_Rules), (r_Srule_Delta b2 ob2_Put ob2_Drop)], by kernel_rfl⟩)
noncomputable def b8_r10  : Option (Bool) :=
 some (false)
theorem g8_r10_sim  : Sim (Q8) (b8_r10) (f8_r10 0  []) := by
  unfold b8_r10
  refine Sim.cast (f8_r10_eq _ _) ?_
  refine Sim.mk ?_
  exact Sim.cast (y' := some ((bv false), [])) (by kernel_rfl) (Sim.ret ⟨[], by kernel_rfl⟩)
noncomputable def b8_r11 (b0 : Srule_Set) (b1 : Srule_Set) (b2 : Srule_Delta) : Option (Bool) :=
 g8_l13 0 b2.Put ((b2.Put.length : Int)) 0 b0 b1 b2
theorem g8_r11_sim (b0 : Srule_Set) (b1 : Srule_Set) (b2 : Srule_Delta) (ob0_Rules : Own) (ob1_Rules : Own) (ob2_Put : Own) (ob2_Drop : Own) : Sim (Q8) (b8_r11 b0 b1 b2) (f8_r11 0 (.ptr 0 0) (.ptr 1 0) (.ptr 2 0) [(r_Srule_Set b0 ob0_Rules), (r_Srule_Set b1 ob1_Rules), (r_Srule_Delta b2 ob2_Put ob2_Drop)]) := by
  unfold b8_r11
  refine Sim.cast (f8_r11_eq _ _ _ _ _) ?_
  refine Sim.mk ?_
  refine Sim.mk ?_
  refine Sim.ob1 (v := (.ptr 2 4)) (by kernel_rfl) ?_
  refine Sim.ob1 (v := (.p (.lst (shrO ob2_Put) (b2.Put.map e_Srule_Rule)))) (by kernel_rfl) ?_
  refine Sim.ob1 (v := (iv (b2.Put.length : Int))) (Eq.trans (by kernel_rfl) (xlen_of (P := PP) (t := 22) (d := 43) (by kernel_rfl) e_Srule_Rule (shrO ob2_Put) b2.Put)) ?_
  exact Sim.cast (by kernel_rfl) (g8_l13_to (0) (b2.Put) ((b2.Put.length : Int)) (0) (b0) (b1) (b2) (shrO ob2_Put) ob0_Rules ob1_Rules ob2_Put ob2_Drop)
noncomputable def b8_r8 (x6 : Int) (b0 : Srule_Set) (b1 : Srule_Set) (b2 : Srule_Delta) : Option (Bool) :=
 (g12 b0 b2).bind fun r1 =>
 if ((x6 != 0)) = true then
 (b8_r10)
 else
 (if ((r1.2 != 0)) = true then
 (b8_r10)
 else
 ((g14 r1.1).bind fun r2 =>
 (g14 b1).bind fun r3 =>
 (g13 r2 r3).bind fun r4 =>
 if ((!r4)) = true then
 (b8_r10)
 else
 (b8_r11 b0 b1 b2)))
theorem g8_r8_sim (x6 : Int) (b0 : Srule_Set) (b1 : Srule_Set) (b2 : Srule_Delta) (ob0_Rules : Own) (ob1_Rules : Own) (ob2_Put : Own) (ob2_Drop : Own) : Sim (Q8) (b8_r8 x6 b0 b1 b2) (f8_r8 0 (.ptr 0 0) (.ptr 1 0) (.ptr 2 0) (iv x6) [(r_Srule_Set b0 ob0_Rules), (r_Srule_Set b1 ob1_Rules), (r_Srule_Delta b2 ob2_Put ob2_Drop)]) := by
  unfold b8_r8
  refine Sim.cast (f8_r8_eq _ _ _ _ _ _) ?_
  refine Sim.mk ?_
  refine Sim.ob1 (v := (.p (.agg (k_Srule_Set b0 (shrO ob0_Rules))))) (by kernel_rfl) ?_
  refine Sim.ob1 (v := (.p (.agg (k_Srule_Delta b2 (shrO ob2_Put) (shrO ob2_Drop))))) (by kernel_rfl) ?_
  refine Sim.bind fun r1 hr1 => ?_
  obtain ⟨qr1, er1, exr1, rfl⟩ := g12_to (b0) (b2) .sh .sh .sh r1 hr1
  refine Sim.callS (rs := []) (v := (.p (.tup [(.agg (k_Srule_Set r1.1 .sh)), (.v (.int .i64 r1.2))]))) (B2 := [(r_Srule_Set b0 ob0_Rules), (r_Srule_Set b1 ob1_Rules), (r_Srule_Delta b2 ob2_Put ob2_Drop)]) (fun _ => by kernel_rfl) er1 (fun _ => by kernel_rfl) ?_
  refine Sim.ob1 (v := (.p (.agg (k_Srule_Set r1.1 .sh)))) (by kernel_rfl) ?_
  refine Sim.ob1 (v := (iv r1.2)) (by kernel_rfl) ?_
  refine Sim.bz (v := (.ptr 3 0)) (B2 := [(r_Srule_Set b0 ob0_Rules), (r_Srule_Set b1 ob1_Rules), (r_Srule_Delta b2 ob2_Put ob2_Drop), (r_Srule_Set (Srule_Set.mk 0 0 0 0 ([] : List Srule_Rule)) .nl)]) (fun _ => by kernel_rfl) ?_
  refine Sim.stN (B2 := [(r_Srule_Set b0 ob0_Rules), (r_Srule_Set b1 ob1_Rules), (r_Srule_Delta b2 ob2_Put ob2_Drop), (r_Srule_Set r1.1 .sh)]) (fun _ => by kernel_rfl) ?_
  refine Sim.mk ?_
  refine Sim.ob1 (v := (bv (x6 != 0))) (by kernel_rfl) ?_
  refine Sim.asB (b := (x6 != 0)) (by kernel_rfl) ?_
  refine Sim.br (fun _ => ?_) (fun _ => ?_)
  · skip
    refine Sim.grd (by kernel_rfl) ?_
    exact Sim.cast (by kernel_rfl) (g8_r10_sim )
  · skip
    refine Sim.ob1 (v := (bv (r1.2 != 0))) (by kernel_rfl) ?_
    refine Sim.asB (b := (r1.2 != 0)) (by kernel_rfl) ?_
    refine Sim.br (fun _ => ?_) (fun _ => ?_)
    · skip
      refine Sim.grd (by kernel_rfl) ?_
      exact Sim.cast (by kernel_rfl) (g8_r10_sim )
    · skip
      refine Sim.ob1 (v := (.p (.agg (k_Srule_Set r1.1 .sh)))) (by kernel_rfl) ?_
      refine Sim.bind fun r2 hr2 => ?_
      obtain ⟨qr2, er2, exr2, rfl⟩ := g14_to (r1.1) .sh r2 hr2
      refine Sim.callS (rs := []) (v := (.p (.agg (k_Scolanderref07_Set r2 .sh)))) (B2 := [(r_Srule_Set b0 ob0_Rules), (r_Srule_Set b1 ob1_Rules), (r_Srule_Delta b2 ob2_Put ob2_Drop), (r_Srule_Set r1.1 .sh)]) (fun _ => by kernel_rfl) er2 (fun _ => by kernel_rfl) ?_
      refine Sim.ob1 (v := (.p (.agg (k_Srule_Set b1 (shrO ob1_Rules))))) (by kernel_rfl) ?_
      refine Sim.bind fun r3 hr3 => ?_
      obtain ⟨qr3, er3, exr3, rfl⟩ := g14_to (b1) .sh r3 hr3
      refine Sim.callS (rs := []) (v := (.p (.agg (k_Scolanderref07_Set r3 .sh)))) (B2 := [(r_Srule_Set b0 ob0_Rules), (r_Srule_Set b1 ob1_Rules), (r_Srule_Delta b2 ob2_Put ob2_Drop), (r_Srule_Set r1.1 .sh)]) (fun _ => by kernel_rfl) er3 (fun _ => by kernel_rfl) ?_
      refine Sim.bind fun r4 hr4 => ?_
      obtain ⟨qr4, er4, exr4, rfl⟩ := g13_to (r2) (r3) .sh .sh r4 hr4
      refine Sim.callS (rs := []) (v := (bv r4)) (B2 := [(r_Srule_Set b0 ob0_Rules), (r_Srule_Set b1 ob1_Rules), (r_Srule_Delta b2 ob2_Put ob2_Drop), (r_Srule_Set r1.1 .sh)]) (fun _ => by kernel_rfl) er4 (fun _ => by kernel_rfl) ?_
      refine Sim.ob1 (v := (bv (!r4))) (by kernel_rfl) ?_
      refine Sim.grd (by kernel_rfl) ?_
      refine Sim.asB (b := (!r4)) (by kernel_rfl) ?_
      refine Sim.br (fun _ => ?_) (fun _ => ?_)
      · skip
        exact Sim.cast (by kernel_rfl) (g8_r10_sim )
      · skip
        exact Sim.cast (by kernel_rfl) (g8_r11_sim (b0) (b1) (b2) ob0_Rules ob1_Rules ob2_Put ob2_Drop)
noncomputable def b8_r5 (b0 : Srule_Set) (b1 : Srule_Set) : Option (Bool) :=
 (g22 b0 b1).bind fun r1 =>
 (g14 b0).bind fun r2 =>
 (g19 r2).bind fun r3 =>
 if ((!r3)) = true then
 (b8_r7 r1.2 r1.1)
 else
 ((g14 b1).bind fun r4 =>
 (g19 r4).bind fun r5 =>
 if ((!r5)) = true then
 (b8_r7 r1.2 r1.1)
 else
 (b8_r8 r1.2 b0 b1 r1.1))
theorem g8_r5_sim (b0 : Srule_Set) (b1 : Srule_Set) (ob0_Rules : Own) (ob1_Rules : Own) : Sim (Q8) (b8_r5 b0 b1) (f8_r5 0 (.ptr 0 0) (.ptr 1 0) [(r_Srule_Set b0 ob0_Rules), (r_Srule_Set b1 ob1_Rules)]) := by
  unfold b8_r5
  refine Sim.cast (f8_r5_eq _ _ _ _) ?_
  refine Sim.mk ?_
  refine Sim.ob1 (v := (.p (.agg (k_Srule_Set b0 (shrO ob0_Rules))))) (by kernel_rfl) ?_
  refine Sim.ob1 (v := (.p (.agg (k_Srule_Set b1 (shrO ob1_Rules))))) (by kernel_rfl) ?_
  refine Sim.bind fun r1 hr1 => ?_
  obtain ⟨qr1, er1, exr1, rfl⟩ := g22_to (b0) (b1) .sh .sh r1 hr1
  refine Sim.callS (rs := []) (v := (.p (.tup [(.agg (k_Srule_Delta r1.1 .sh .sh)), (.v (.int .i64 r1.2))]))) (B2 := [(r_Srule_Set b0 ob0_Rules), (r_Srule_Set b1 ob1_Rules)]) (fun _ => by kernel_rfl) er1 (fun _ => by kernel_rfl) ?_
  refine Sim.ob1 (v := (.p (.agg (k_Srule_Delta r1.1 .sh .sh)))) (by kernel_rfl) ?_
  refine Sim.ob1 (v := (iv r1.2)) (by kernel_rfl) ?_
  refine Sim.bz (v := (.ptr 2 0)) (B2 := [(r_Srule_Set b0 ob0_Rules), (r_Srule_Set b1 ob1_Rules), (r_Srule_Delta (Srule_Delta.mk 0 0 0 0 ([] : List Srule_Rule) ([] : List Int)) .nl .nl)]) (fun _ => by kernel_rfl) ?_
  refine Sim.stN (B2 := [(r_Srule_Set b0 ob0_Rules), (r_Srule_Set b1 ob1_Rules), (r_Srule_Delta r1.1 .sh .sh)]) (fun _ => by kernel_rfl) ?_
  refine Sim.mk ?_
  refine Sim.ob1 (v := (.p (.agg (k_Srule_Set b0 (shrO ob0_Rules))))) (by kernel_rfl) ?_
  refine Sim.bind fun r2 hr2 => ?_
  obtain ⟨qr2, er2, exr2, rfl⟩ := g14_to (b0) .sh r2 hr2
  refine Sim.callS (rs := []) (v := (.p (.agg (k_Scolanderref07_Set r2 .sh)))) (B2 := [(r_Srule_Set b0 ob0_Rules), (r_Srule_Set b1 ob1_Rules), (r_Srule_Delta r1.1 .sh .sh)]) (fun _ => by kernel_rfl) er2 (fun _ => by kernel_rfl) ?_
  refine Sim.bind fun r3 hr3 => ?_
  obtain ⟨qr3, er3, exr3, rfl⟩ := g19_to (r2) .sh r3 hr3
  refine Sim.callS (rs := []) (v := (bv r3)) (B2 := [(r_Srule_Set b0 ob0_Rules), (r_Srule_Set b1 ob1_Rules), (r_Srule_Delta r1.1 .sh .sh)]) (fun _ => by kernel_rfl) er3 (fun _ => by kernel_rfl) ?_
  refine Sim.ob1 (v := (bv (!r3))) (by kernel_rfl) ?_
  refine Sim.asB (b := (!r3)) (by kernel_rfl) ?_
  refine Sim.br (fun _ => ?_) (fun _ => ?_)
  · skip
    exact Sim.cast (by kernel_rfl) (g8_r7_sim (r1.2) (b0) (b1) (r1.1) ob0_Rules ob1_Rules .sh .sh)
  · skip
    refine Sim.ob1 (v := (.p (.agg (k_Srule_Set b1 (shrO ob1_Rules))))) (by kernel_rfl) ?_
    refine Sim.bind fun r4 hr4 => ?_
    obtain ⟨qr4, er4, exr4, rfl⟩ := g14_to (b1) .sh r4 hr4
    refine Sim.callS (rs := []) (v := (.p (.agg (k_Scolanderref07_Set r4 .sh)))) (B2 := [(r_Srule_Set b0 ob0_Rules), (r_Srule_Set b1 ob1_Rules), (r_Srule_Delta r1.1 .sh .sh)]) (fun _ => by kernel_rfl) er4 (fun _ => by kernel_rfl) ?_
    refine Sim.bind fun r5 hr5 => ?_
    obtain ⟨qr5, er5, exr5, rfl⟩ := g19_to (r4) .sh r5 hr5
    refine Sim.callS (rs := []) (v := (bv r5)) (B2 := [(r_Srule_Set b0 ob0_Rules), (r_Srule_Set b1 ob1_Rules), (r_Srule_Delta r1.1 .sh .sh)]) (fun _ => by kernel_rfl) er5 (fun _ => by kernel_rfl) ?_
    refine Sim.ob1 (v := (bv (!r5))) (by kernel_rfl) ?_
    refine Sim.asB (b := (!r5)) (by kernel_rfl) ?_
    refine Sim.br (fun _ => ?_) (fun _ => ?_)
    · skip
      exact Sim.cast (by kernel_rfl) (g8_r7_sim (r1.2) (b0) (b1) (r1.1) ob0_Rules ob1_Rules .sh .sh)
    · skip
      exact Sim.cast (by kernel_rfl) (g8_r8_sim (r1.2) (b0) (b1) (r1.1) ob0_Rules ob1_Rules .sh .sh)
noncomputable def b8_r3 (b0 : Srule_Set) (b1 : Srule_Set) : Option (Bool) :=
 (g11 b0 ((Srule_Delta.mk 0 0 0 0 ([] : List Srule_Rule) ([] : List Int)))).bind fun r1 =>
 if ((!r1)) = true then
 (b8_r4)
 else
 ((g11 b1 ((Srule_Delta.mk 0 0 0 0 ([] : List Srule_Rule) ([] : List Int)))).bind fun r2 =>
 if ((!r2)) = true then
 (b8_r4)
 else
 (b8_r5 b0 b1))
theorem g8_r3_sim (b0 : Srule_Set) (b1 : Srule_Set) (ob0_Rules : Own) (ob1_Rules : Own) : Sim (Q8) (b8_r3 b0 b1) (f8_r3 0 (.ptr 0 0) (.ptr 1 0) [(r_Srule_Set b0 ob0_Rules), (r_Srule_Set b1 ob1_Rules)]) := by
  unfold b8_r3
  refine Sim.cast (f8_r3_eq _ _ _ _) ?_
  refine Sim.mk ?_
  refine Sim.ob1 (v := (.p (.agg (k_Srule_Set b0 (shrO ob0_Rules))))) (by kernel_rfl) ?_
  refine Sim.ob1 (v := (.p (.agg (k_Srule_Delta (Srule_Delta.mk 0 0 0 0 ([] : List Srule_Rule) ([] : List Int)) .nl .nl)))) (by kernel_rfl) ?_
  refine Sim.bind fun r1 hr1 => ?_
  obtain ⟨qr1, er1, exr1, rfl⟩ := g11_to (b0) ((Srule_Delta.mk 0 0 0 0 ([] : List Srule_Rule) ([] : List Int))) .sh .sh .sh r1 hr1
  refine Sim.callS (rs := []) (v := (bv r1)) (B2 := [(r_Srule_Set b0 ob0_Rules), (r_Srule_Set b1 ob1_Rules)]) (fun _ => by kernel_rfl) er1 (fun _ => by kernel_rfl) ?_
  refine Sim.ob1 (v := (bv (!r1))) (by kernel_rfl) ?_
  refine Sim.asB (b := (!r1)) (by kernel_rfl) ?_
  refine Sim.br (fun _ => ?_) (fun _ => ?_)
  · skip
    exact Sim.cast (by kernel_rfl) (g8_r4_sim )
  · skip
    refine Sim.ob1 (v := (.p (.agg (k_Srule_Set b1 (shrO ob1_Rules))))) (by kernel_rfl) ?_
    refine Sim.ob1 (v := (.p (.agg (k_Srule_Delta (Srule_Delta.mk 0 0 0 0 ([] : List Srule_Rule) ([] : List Int)) .nl .nl)))) (by kernel_rfl) ?_
    refine Sim.bind fun r2 hr2 => ?_
    obtain ⟨qr2, er2, exr2, rfl⟩ := g11_to (b1) ((Srule_Delta.mk 0 0 0 0 ([] : List Srule_Rule) ([] : List Int))) .sh .sh .sh r2 hr2
    refine Sim.callS (rs := []) (v := (bv r2)) (B2 := [(r_Srule_Set b0 ob0_Rules), (r_Srule_Set b1 ob1_Rules)]) (fun _ => by kernel_rfl) er2 (fun _ => by kernel_rfl) ?_
    refine Sim.ob1 (v := (bv (!r2))) (by kernel_rfl) ?_
    refine Sim.asB (b := (!r2)) (by kernel_rfl) ?_
    refine Sim.br (fun _ => ?_) (fun _ => ?_)
    · skip
      exact Sim.cast (by kernel_rfl) (g8_r4_sim )
    · skip
      exact Sim.cast (by kernel_rfl) (g8_r5_sim (b0) (b1) ob0_Rules ob1_Rules)
noncomputable def b8 (x0 : Srule_Set) (x1 : Srule_Set) : Option (Bool) :=
 (g10).bind fun r1 =>
 if ((!r1)) = true then
 (some (false))
 else
 (b8_r3 x0 x1)
theorem g8_sim (x0 : Srule_Set) (x1 : Srule_Set) (ox0_Rules : Own) (ox1_Rules : Own) : Sim (Q8) (b8 x0 x1) (EE 8 [(.p (.agg (k_Srule_Set x0 ox0_Rules))), (.p (.agg (k_Srule_Set x1 ox1_Rules)))] []) := by
  unfold b8
  refine Sim.cast (f8_eq _ _ _) ?_
  refine Sim.mk ?_
  refine Sim.bx (v := (.ptr 0 0)) (B2 := [(r_Srule_Set x0 ox0_Rules)]) (fun _ => by kernel_rfl) ?_
  refine Sim.bx (v := (.ptr 1 0)) (B2 := [(r_Srule_Set x0 ox0_Rules), (r_Srule_Set x1 ox1_Rules)]) (fun _ => by kernel_rfl) ?_
  refine Sim.mk ?_
  refine Sim.bind fun r1 hr1 => ?_
  obtain ⟨qr1, er1, exr1, rfl⟩ := g10_to  r1 hr1
  refine Sim.callS (rs := []) (v := (bv r1)) (B2 := [(r_Srule_Set x0 ox0_Rules), (r_Srule_Set x1 ox1_Rules)]) (fun _ => by kernel_rfl) er1 (fun _ => by kernel_rfl) ?_
  refine Sim.ob1 (v := (bv (!r1))) (by kernel_rfl) ?_
  refine Sim.asB (b := (!r1)) (by kernel_rfl) ?_
  refine Sim.br (fun _ => ?_) (fun _ => ?_)
  · skip
    refine Sim.mk ?_
    exact Sim.cast (y' := some ((bv false), [(r_Srule_Set x0 ox0_Rules), (r_Srule_Set x1 ox1_Rules)])) (by kernel_rfl) (Sim.ret ⟨[(r_Srule_Set x0 ox0_Rules), (r_Srule_Set x1 ox1_Rules)], by kernel_rfl⟩)
  · skip
    exact Sim.cast (by kernel_rfl) (g8_r3_sim (x0) (x1) ox0_Rules ox1_Rules)
theorem g8_of (x0 : Srule_Set) (x1 : Srule_Set) {r} (h : b8 x0 x1 = some r) : g8 x0 x1 = some r :=
  pick_of (fun _ _ ha hb => RRun.uniq (Q8_u) (ha .ex .ex) (hb .ex .ex)) (fun ox0_Rules ox1_Rules => g8_sim x0 x1 ox0_Rules ox1_Rules r h)
noncomputable def b8_r17  : Option (Bool) :=
 some (false)
theorem g8_r17_sim  : Sim (Q8) (b8_r17) (f8_r17 0  []) := by
  unfold b8_r17
  refine Sim.cast (f8_r17_eq _ _) ?_
  refine Sim.mk ?_
  exact Sim.cast (y' := some ((bv false), [])) (by kernel_rfl) (Sim.ret ⟨[], by kernel_rfl⟩)
noncomputable def b8_r19 (x9 : Int) (x78 : List Srule_Rule) (x79 : Int) (x80 : Int) (b0 : Srule_Set) (b1 : Srule_Set) (b2 : Srule_Delta) : Option (Bool) :=
 g8_l13 x9 x78 x79 ((IntKind.i64.wrap (x80 + 1))) b0 b1 b2
theorem g8_r19_sim (x9 : Int) (x78 : List Srule_Rule) (x79 : Int) (x80 : Int) (b0 : Srule_Set) (b1 : Srule_Set) (b2 : Srule_Delta) (ox78 : Own) (ob0_Rules : Own) (ob1_Rules : Own) (ob2_Put : Own) (ob2_Drop : Own) : Sim (Q8) (b8_r19 x9 x78 x79 x80 b0 b1 b2) (f8_r19 0 (.ptr 0 0) (.ptr 1 0) (.ptr 2 0) (iv x9) (.p (.lst ox78 (x78.map e_Srule_Rule))) (iv x79) (iv x80) [(r_Srule_Set b0 ob0_Rules), (r_Srule_Set b1 ob1_Rules), (r_Srule_Delta b2 ob2_Put ob2_Drop)]) := by
  unfold b8_r19
  refine Sim.cast (f8_r19_eq _ _ _ _ _ _ _ _ _) ?_
  refine Sim.mk ?_
  refine Sim.ob1 (v := (iv (IntKind.i64.wrap (x80 + 1)))) (by kernel_rfl) ?_
  exact Sim.cast (by kernel_rfl) (g8_l13_to (x9) (x78) (x79) ((IntKind.i64.wrap (x80 + 1))) (b0) (b1) (b2) ox78 ob0_Rules ob1_Rules ob2_Put ob2_Drop)
noncomputable def b8_r18 (x78 : List Srule_Rule) (x79 : Int) (x80 : Int) (b0 : Srule_Set) (b1 : Srule_Set) (b2 : Srule_Delta) (b3 : Srule_Rule) : Option (Bool) :=
 b8_r19 b3.ID x78 x79 x80 b0 b1 b2
theorem g8_r18_sim (x78 : List Srule_Rule) (x79 : Int) (x80 : Int) (b0 : Srule_Set) (b1 : Srule_Set) (b2 : Srule_Delta) (b3 : Srule_Rule) (ox78 : Own) (ob0_Rules : Own) (ob1_Rules : Own) (ob2_Put : Own) (ob2_Drop : Own) : Sim (Q8) (b8_r18 x78 x79 x80 b0 b1 b2 b3) (f8_r18 0 (.ptr 0 0) (.ptr 1 0) (.ptr 2 0) (.ptr 3 0) (.p (.lst ox78 (x78.map e_Srule_Rule))) (iv x79) (iv x80) [(r_Srule_Set b0 ob0_Rules), (r_Srule_Set b1 ob1_Rules), (r_Srule_Delta b2 ob2_Put ob2_Drop), (r_Srule_Rule b3)]) := by
  unfold b8_r18
  refine Sim.cast (f8_r18_eq _ _ _ _ _ _ _ _ _) ?_
  refine Sim.mk ?_
  refine Sim.ob1 (v := (.ptr 3 0)) (by kernel_rfl) ?_
  refine Sim.ob1 (v := (iv b3.ID)) (by kernel_rfl) ?_
  exact Sim.cast (by kernel_rfl) (g8_r19_sim (b3.ID) (x78) (x79) (x80) (b0) (b1) (b2) ox78 ob0_Rules ob1_Rules ob2_Put ob2_Drop)
noncomputable def b8_r14 (x9 : Int) (x78 : List Srule_Rule) (x79 : Int) (x80 : Int) (b0 : Srule_Set) (b1 : Srule_Set) (b2 : Srule_Delta) : Option (Bool) :=
 (lget x78 x80).bind fun a1 =>
 (g20 b0 a1.ID).bind fun r2 =>
 if (r2.2) = true then
 (if (((r2.1.ID == a1.ID) && ((r2.1.Priority == a1.Priority) && ((r2.1.Action == a1.Action) && ((r2.1.Scope == a1.Scope) && ((seq r2.1.Pattern a1.Pattern) && true)))))) = true then
 (b8_r17)
 else
 (if ((decide (a1.ID ≤ x9))) = true then
 (b8_r17)
 else
 (b8_r18 x78 x79 x80 b0 b1 b2 a1)))
 else
 (if ((decide (a1.ID ≤ x9))) = true then
 (b8_r17)
 else
 (b8_r18 x78 x79 x80 b0 b1 b2 a1))
theorem g8_r14_sim (x9 : Int) (x78 : List Srule_Rule) (x79 : Int) (x80 : Int) (b0 : Srule_Set) (b1 : Srule_Set) (b2 : Srule_Delta) (ox78 : Own) (ob0_Rules : Own) (ob1_Rules : Own) (ob2_Put : Own) (ob2_Drop : Own) : Sim (Q8) (b8_r14 x9 x78 x79 x80 b0 b1 b2) (f8_r14 0 (.ptr 0 0) (.ptr 1 0) (.ptr 2 0) (iv x9) (.p (.lst ox78 (x78.map e_Srule_Rule))) (iv x79) (iv x80) [(r_Srule_Set b0 ob0_Rules), (r_Srule_Set b1 ob1_Rules), (r_Srule_Delta b2 ob2_Put ob2_Drop)]) := by
  unfold b8_r14
  refine Sim.cast (f8_r14_eq _ _ _ _ _ _ _ _ _) ?_
  refine Sim.mk ?_
  refine Sim.bind fun a1 ha1 => ?_
  refine Sim.ob1 (v := (.cptr (k_Srule_Rule a1))) (Eq.trans (by kernel_rfl) (xidx_of (o := ox78) (k := .i64) (n := 5) (e := e_Srule_Rule) (cs := c_Srule_Rule) (fun _ => rfl) (fun _ => rfl) (by decide) ha1)) ?_
  refine Sim.ob1 (v := (.p (.agg (k_Srule_Rule a1)))) (by kernel_rfl) ?_
  refine Sim.bz (v := (.ptr 3 0)) (B2 := [(r_Srule_Set b0 ob0_Rules), (r_Srule_Set b1 ob1_Rules), (r_Srule_Delta b2 ob2_Put ob2_Drop), (r_Srule_Rule (Srule_Rule.mk 0 0 0 0 (ByteArray.mk #[])))]) (fun _ => by kernel_rfl) ?_
  refine Sim.stN (B2 := [(r_Srule_Set b0 ob0_Rules), (r_Srule_Set b1 ob1_Rules), (r_Srule_Delta b2 ob2_Put ob2_Drop), (r_Srule_Rule a1)]) (fun _ => by kernel_rfl) ?_
  refine Sim.mk ?_
  refine Sim.ob1 (v := (.p (.agg (k_Srule_Set b0 (shrO ob0_Rules))))) (by kernel_rfl) ?_
  refine Sim.ob1 (v := (.ptr 3 0)) (by kernel_rfl) ?_
  refine Sim.ob1 (v := (iv a1.ID)) (by kernel_rfl) ?_
  refine Sim.bind fun r2 hr2 => ?_
  obtain ⟨qr2, er2, exr2, rfl⟩ := g20_to (b0) (a1.ID) .sh r2 hr2
  refine Sim.callS (rs := []) (v := (.p (.tup [(.agg (k_Srule_Rule r2.1)), (.v (.bool r2.2))]))) (B2 := [(r_Srule_Set b0 ob0_Rules), (r_Srule_Set b1 ob1_Rules), (r_Srule_Delta b2 ob2_Put ob2_Drop), (r_Srule_Rule a1)]) (fun _ => by kernel_rfl) er2 (fun _ => by kernel_rfl) ?_
  refine Sim.ob1 (v := (.p (.agg (k_Srule_Rule r2.1)))) (by kernel_rfl) ?_
  refine Sim.ob1 (v := (bv r2.2)) (by kernel_rfl) ?_
  refine Sim.bz (v := (.ptr 4 0)) (B2 := [(r_Srule_Set b0 ob0_Rules), (r_Srule_Set b1 ob1_Rules), (r_Srule_Delta b2 ob2_Put ob2_Drop), (r_Srule_Rule a1), (r_Srule_Rule (Srule_Rule.mk 0 0 0 0 (ByteArray.mk #[])))]) (fun _ => by kernel_rfl) ?_
  refine Sim.stN (B2 := [(r_Srule_Set b0 ob0_Rules), (r_Srule_Set b1 ob1_Rules), (r_Srule_Delta b2 ob2_Put ob2_Drop), (r_Srule_Rule a1), (r_Srule_Rule r2.1)]) (fun _ => by kernel_rfl) ?_
  refine Sim.mk ?_
  refine Sim.asB (b := r2.2) (by kernel_rfl) ?_
  refine Sim.br (fun _ => ?_) (fun _ => ?_)
  · skip
    refine Sim.ob1 (v := (.p (.agg (k_Srule_Rule r2.1)))) (by kernel_rfl) ?_
    refine Sim.ob1 (v := (.p (.agg (k_Srule_Rule a1)))) (by kernel_rfl) ?_
    refine Sim.ob1 (v := (bv ((r2.1.ID == a1.ID) && ((r2.1.Priority == a1.Priority) && ((r2.1.Action == a1.Action) && ((r2.1.Scope == a1.Scope) && ((seq r2.1.Pattern a1.Pattern) && true))))))) (Eq.trans (b := xbin PP .eql 43 (.p (.agg (k_Srule_Rule r2.1))) (.p (.agg (k_Srule_Rule a1)))) (by kernel_rfl) (xeq_eql (by kernel_rfl) (by kernel_rfl) (by kernel_rfl) (by kernel_rfl) (by kernel_rfl))) ?_
    refine Sim.asB (b := ((r2.1.ID == a1.ID) && ((r2.1.Priority == a1.Priority) && ((r2.1.Action == a1.Action) && ((r2.1.Scope == a1.Scope) && ((seq r2.1.Pattern a1.Pattern) && true)))))) (by kernel_rfl) ?_
    refine Sim.br (fun _ => ?_) (fun _ => ?_)
    · skip
      exact Sim.cast (by kernel_rfl) (g8_r17_sim )
    · skip
      refine Sim.ob1 (v := (.ptr 3 0)) (by kernel_rfl) ?_
      refine Sim.ob1 (v := (iv a1.ID)) (by kernel_rfl) ?_
      refine Sim.ob1 (v := (bv (decide (a1.ID ≤ x9)))) (by kernel_rfl) ?_
      refine Sim.asB (b := (decide (a1.ID ≤ x9))) (by kernel_rfl) ?_
      refine Sim.br (fun _ => ?_) (fun _ => ?_)
      · skip
        exact Sim.cast (by kernel_rfl) (g8_r17_sim )
      · skip
        exact Sim.cast (by kernel_rfl) (g8_r18_sim (x78) (x79) (x80) (b0) (b1) (b2) (a1) ox78 ob0_Rules ob1_Rules ob2_Put ob2_Drop)
  · skip
    refine Sim.ob1 (v := (.ptr 3 0)) (by kernel_rfl) ?_
    refine Sim.ob1 (v := (iv a1.ID)) (by kernel_rfl) ?_
    refine Sim.ob1 (v := (bv (decide (a1.ID ≤ x9)))) (by kernel_rfl) ?_
    refine Sim.asB (b := (decide (a1.ID ≤ x9))) (by kernel_rfl) ?_
    refine Sim.br (fun _ => ?_) (fun _ => ?_)
    · skip
      exact Sim.cast (by kernel_rfl) (g8_r17_sim )
    · skip
      exact Sim.cast (by kernel_rfl) (g8_r18_sim (x78) (x79) (x80) (b0) (b1) (b2) (a1) ox78 ob0_Rules ob1_Rules ob2_Put ob2_Drop)
noncomputable def b8_r20 (b0 : Srule_Set) (b1 : Srule_Set) (b2 : Srule_Delta) : Option (Bool) :=
 g8_l22 0 b2.Drop ((b2.Drop.length : Int)) 0 b0 b1 b2
theorem g8_r20_sim (b0 : Srule_Set) (b1 : Srule_Set) (b2 : Srule_Delta) (ob0_Rules : Own) (ob1_Rules : Own) (ob2_Put : Own) (ob2_Drop : Own) : Sim (Q8) (b8_r20 b0 b1 b2) (f8_r20 0 (.ptr 0 0) (.ptr 1 0) (.ptr 2 0) [(r_Srule_Set b0 ob0_Rules), (r_Srule_Set b1 ob1_Rules), (r_Srule_Delta b2 ob2_Put ob2_Drop)]) := by
  unfold b8_r20
  refine Sim.cast (f8_r20_eq _ _ _ _ _) ?_
  refine Sim.mk ?_
  refine Sim.mk ?_
  refine Sim.ob1 (v := (.ptr 2 5)) (by kernel_rfl) ?_
  refine Sim.ob1 (v := (.p (.lst (shrO ob2_Drop) (b2.Drop.map (eI .i64))))) (by kernel_rfl) ?_
  refine Sim.ob1 (v := (iv (b2.Drop.length : Int))) (Eq.trans (by kernel_rfl) (xlen_of (P := PP) (t := 25) (d := 3) (by kernel_rfl) (eI .i64) (shrO ob2_Drop) b2.Drop)) ?_
  exact Sim.cast (by kernel_rfl) (g8_l22_to (0) (b2.Drop) ((b2.Drop.length : Int)) (0) (b0) (b1) (b2) (shrO ob2_Drop) ob0_Rules ob1_Rules ob2_Put ob2_Drop)
noncomputable def b8_l13 (x9 : Int) (x78 : List Srule_Rule) (x79 : Int) (x80 : Int) (b0 : Srule_Set) (b1 : Srule_Set) (b2 : Srule_Delta) : Option (Bool) :=
 if ((decide (x80 < x79))) = true then
 (b8_r14 x9 x78 x79 x80 b0 b1 b2)
 else
 (b8_r20 b0 b1 b2)
theorem g8_l13_sim (x9 : Int) (x78 : List Srule_Rule) (x79 : Int) (x80 : Int) (b0 : Srule_Set) (b1 : Srule_Set) (b2 : Srule_Delta) (ox78 : Own) (ob0_Rules : Own) (ob1_Rules : Own) (ob2_Put : Own) (ob2_Drop : Own) : Sim (Q8) (b8_l13 x9 x78 x79 x80 b0 b1 b2) (f8_l13 0 (.ptr 0 0) (.ptr 1 0) (.ptr 2 0) (iv x9) (.p (.lst ox78 (x78.map e_Srule_Rule))) (iv x79) (iv x80) [(r_Srule_Set b0 ob0_Rules), (r_Srule_Set b1 ob1_Rules), (r_Srule_Delta b2 ob2_Put ob2_Drop)]) := by
  unfold b8_l13
  refine Sim.cast (f8_l13_eq _ _ _ _ _ _ _ _ _) ?_
  refine Sim.mk ?_
  refine Sim.ob1 (v := (bv (decide (x80 < x79)))) (by kernel_rfl) ?_
  refine Sim.asB (b := (decide (x80 < x79))) (by kernel_rfl) ?_
  refine Sim.br (fun _ => ?_) (fun _ => ?_)
  · skip
    exact Sim.cast (by kernel_rfl) (g8_r14_sim (x9) (x78) (x79) (x80) (b0) (b1) (b2) ox78 ob0_Rules ob1_Rules ob2_Put ob2_Drop)
  · skip
    exact Sim.cast (by kernel_rfl) (g8_r20_sim (b0) (b1) (b2) ob0_Rules ob1_Rules ob2_Put ob2_Drop)
theorem g8_l13_of (x9 : Int) (x78 : List Srule_Rule) (x79 : Int) (x80 : Int) (b0 : Srule_Set) (b1 : Srule_Set) (b2 : Srule_Delta) {r} (h : b8_l13 x9 x78 x79 x80 b0 b1 b2 = some r) : g8_l13 x9 x78 x79 x80 b0 b1 b2 = some r :=
  pick_of (fun _ _ ha hb => RRun.uniq (Q8_u) (ha .ex .ex .ex .ex .ex) (hb .ex .ex .ex .ex .ex)) (fun ox78 ob0_Rules ob1_Rules ob2_Put ob2_Drop => g8_l13_sim x9 x78 x79 x80 b0 b1 b2 ox78 ob0_Rules ob1_Rules ob2_Put ob2_Drop r h)
noncomputable def b8_r27 (x9 : Int) (x107 : List Int) (x108 : Int) (x109 : Int) (b0 : Srule_Set) (b1 : Srule_Set) (b2 : Srule_Delta) : Option (Bool) :=
 g8_l22 x9 x107 x108 ((IntKind.i64.wrap (x109 + 1))) b0 b1 b2
theorem g8_r27_sim (x9 : Int) (x107 : List Int) (x108 : Int) (x109 : Int) (b0 : Srule_Set) (b1 : Srule_Set) (b2 : Srule_Delta) (ox107 : Own) (ob0_Rules : Own) (ob1_Rules : Own) (ob2_Put : Own) (ob2_Drop : Own) : Sim (Q8) (b8_r27 x9 x107 x108 x109 b0 b1 b2) (f8_r27 0 (.ptr 0 0) (.ptr 1 0) (.ptr 2 0) (iv x9) (.p (.lst ox107 (x107.map (eI .i64)))) (iv x108) (iv x109) [(r_Srule_Set b0 ob0_Rules), (r_Srule_Set b1 ob1_Rules), (r_Srule_Delta b2 ob2_Put ob2_Drop)]) := by
  unfold b8_r27
  refine Sim.cast (f8_r27_eq _ _ _ _ _ _ _ _ _) ?_
  refine Sim.mk ?_
  refine Sim.ob1 (v := (iv (IntKind.i64.wrap (x109 + 1)))) (by kernel_rfl) ?_
  exact Sim.cast (by kernel_rfl) (g8_l22_to (x9) (x107) (x108) ((IntKind.i64.wrap (x109 + 1))) (b0) (b1) (b2) ox107 ob0_Rules ob1_Rules ob2_Put ob2_Drop)
noncomputable def b8_r26 (x15 : Int) (x107 : List Int) (x108 : Int) (x109 : Int) (b0 : Srule_Set) (b1 : Srule_Set) (b2 : Srule_Delta) : Option (Bool) :=
 b8_r27 x15 x107 x108 x109 b0 b1 b2
theorem g8_r26_sim (x15 : Int) (x107 : List Int) (x108 : Int) (x109 : Int) (b0 : Srule_Set) (b1 : Srule_Set) (b2 : Srule_Delta) (ox107 : Own) (ob0_Rules : Own) (ob1_Rules : Own) (ob2_Put : Own) (ob2_Drop : Own) : Sim (Q8) (b8_r26 x15 x107 x108 x109 b0 b1 b2) (f8_r26 0 (.ptr 0 0) (.ptr 1 0) (.ptr 2 0) (iv x15) (.p (.lst ox107 (x107.map (eI .i64)))) (iv x108) (iv x109) [(r_Srule_Set b0 ob0_Rules), (r_Srule_Set b1 ob1_Rules), (r_Srule_Delta b2 ob2_Put ob2_Drop)]) := by
  unfold b8_r26
  refine Sim.cast (f8_r26_eq _ _ _ _ _ _ _ _ _) ?_
  refine Sim.mk ?_
  exact Sim.cast (by kernel_rfl) (g8_r27_sim (x15) (x107) (x108) (x109) (b0) (b1) (b2) ox107 ob0_Rules ob1_Rules ob2_Put ob2_Drop)
noncomputable def b8_r23 (x9 : Int) (x107 : List Int) (x108 : Int) (x109 : Int) (b0 : Srule_Set) (b1 : Srule_Set) (b2 : Srule_Delta) : Option (Bool) :=
 (lget x107 x109).bind fun a1 =>
 if ((decide (a1 ≤ x9))) = true then
 (some (false))
 else
 (b8_r26 a1 x107 x108 x109 b0 b1 b2)
theorem g8_r23_sim (x9 : Int) (x107 : List Int) (x108 : Int) (x109 : Int) (b0 : Srule_Set) (b1 : Srule_Set) (b2 : Srule_Delta) (ox107 : Own) (ob0_Rules : Own) (ob1_Rules : Own) (ob2_Put : Own) (ob2_Drop : Own) : Sim (Q8) (b8_r23 x9 x107 x108 x109 b0 b1 b2) (f8_r23 0 (.ptr 0 0) (.ptr 1 0) (.ptr 2 0) (iv x9) (.p (.lst ox107 (x107.map (eI .i64)))) (iv x108) (iv x109) [(r_Srule_Set b0 ob0_Rules), (r_Srule_Set b1 ob1_Rules), (r_Srule_Delta b2 ob2_Put ob2_Drop)]) := by
  unfold b8_r23
  refine Sim.cast (f8_r23_eq _ _ _ _ _ _ _ _ _) ?_
  refine Sim.mk ?_
  refine Sim.bind fun a1 ha1 => ?_
  refine Sim.ob1 (v := (.cptr [(.v (.int .i64 a1))])) (Eq.trans (by kernel_rfl) (xidx_of (o := ox107) (k := .i64) (n := 1) (e := (eI .i64)) (cs := (fun a => [(eI .i64) a])) (fun _ => rfl) (fun _ => rfl) (by decide) ha1)) ?_
  refine Sim.ob1 (v := (iv a1)) (by kernel_rfl) ?_
  refine Sim.mk ?_
  refine Sim.ob1 (v := (bv (decide (a1 ≤ x9)))) (by kernel_rfl) ?_
  refine Sim.asB (b := (decide (a1 ≤ x9))) (by kernel_rfl) ?_
  refine Sim.br (fun _ => ?_) (fun _ => ?_)
  · skip
    refine Sim.mk ?_
    exact Sim.cast (y' := some ((bv false), [(r_Srule_Set b0 ob0_Rules), (r_Srule_Set b1 ob1_Rules), (r_Srule_Delta b2 ob2_Put ob2_Drop)])) (by kernel_rfl) (Sim.ret ⟨[(r_Srule_Set b0 ob0_Rules), (r_Srule_Set b1 ob1_Rules), (r_Srule_Delta b2 ob2_Put ob2_Drop)], by kernel_rfl⟩)
  · skip
    exact Sim.cast (by kernel_rfl) (g8_r26_sim (a1) (x107) (x108) (x109) (b0) (b1) (b2) ox107 ob0_Rules ob1_Rules ob2_Put ob2_Drop)
noncomputable def b8_r28 (b0 : Srule_Set) (b1 : Srule_Set) (b2 : Srule_Delta) : Option (Bool) :=
 (g14 b0).bind fun r1 =>
 (g14 b1).bind fun r2 =>
 (g13 r1 r2).bind fun r3 =>
 if (((b2.Default == (-1)) == (b0.Default == b1.Default))) = true then
 (if (((b2.Fuel == (-1)) == (b0.Fuel == b1.Fuel))) = true then
 (if ((!r3)) = true then
 (some (true))
 else
 (some (((IntKind.i64.wrap ((b2.Put.length : Int) + (b2.Drop.length : Int))) == 0))))
 else
 (some (false)))
 else
 (some (false))
theorem g8_r28_sim (b0 : Srule_Set) (b1 : Srule_Set) (b2 : Srule_Delta) (ob0_Rules : Own) (ob1_Rules : Own) (ob2_Put : Own) (ob2_Drop : Own) : Sim (Q8) (b8_r28 b0 b1 b2) (f8_r28 0 (.ptr 0 0) (.ptr 1 0) (.ptr 2 0) [(r_Srule_Set b0 ob0_Rules), (r_Srule_Set b1 ob1_Rules), (r_Srule_Delta b2 ob2_Put ob2_Drop)]) := by
  unfold b8_r28
  refine Sim.cast (f8_r28_eq _ _ _ _ _) ?_
  refine Sim.mk ?_
  refine Sim.ob1 (v := (.p (.agg (k_Srule_Set b0 (shrO ob0_Rules))))) (by kernel_rfl) ?_
  refine Sim.bind fun r1 hr1 => ?_
  obtain ⟨qr1, er1, exr1, rfl⟩ := g14_to (b0) .sh r1 hr1
  refine Sim.callS (rs := []) (v := (.p (.agg (k_Scolanderref07_Set r1 .sh)))) (B2 := [(r_Srule_Set b0 ob0_Rules), (r_Srule_Set b1 ob1_Rules), (r_Srule_Delta b2 ob2_Put ob2_Drop)]) (fun _ => by kernel_rfl) er1 (fun _ => by kernel_rfl) ?_
  refine Sim.ob1 (v := (.p (.agg (k_Srule_Set b1 (shrO ob1_Rules))))) (by kernel_rfl) ?_
  refine Sim.bind fun r2 hr2 => ?_
  obtain ⟨qr2, er2, exr2, rfl⟩ := g14_to (b1) .sh r2 hr2
  refine Sim.callS (rs := []) (v := (.p (.agg (k_Scolanderref07_Set r2 .sh)))) (B2 := [(r_Srule_Set b0 ob0_Rules), (r_Srule_Set b1 ob1_Rules), (r_Srule_Delta b2 ob2_Put ob2_Drop)]) (fun _ => by kernel_rfl) er2 (fun _ => by kernel_rfl) ?_
  refine Sim.bind fun r3 hr3 => ?_
  obtain ⟨qr3, er3, exr3, rfl⟩ := g13_to (r1) (r2) .sh .sh r3 hr3
  refine Sim.callS (rs := []) (v := (bv r3)) (B2 := [(r_Srule_Set b0 ob0_Rules), (r_Srule_Set b1 ob1_Rules), (r_Srule_Delta b2 ob2_Put ob2_Drop)]) (fun _ => by kernel_rfl) er3 (fun _ => by kernel_rfl) ?_
  refine Sim.grd (by kernel_rfl) ?_
  refine Sim.mk ?_
  refine Sim.ob1 (v := (.ptr 2 0)) (by kernel_rfl) ?_
  refine Sim.ob1 (v := (iv b2.Default)) (by kernel_rfl) ?_
  refine Sim.ob1 (v := (bv (b2.Default == (-1)))) (by kernel_rfl) ?_
  refine Sim.ob1 (v := (.ptr 0 0)) (by kernel_rfl) ?_
  refine Sim.ob1 (v := (iv b0.Default)) (by kernel_rfl) ?_
  refine Sim.ob1 (v := (.ptr 1 0)) (by kernel_rfl) ?_
  refine Sim.ob1 (v := (iv b1.Default)) (by kernel_rfl) ?_
  refine Sim.ob1 (v := (bv (b0.Default == b1.Default))) (by kernel_rfl) ?_
  refine Sim.ob1 (v := (bv ((b2.Default == (-1)) == (b0.Default == b1.Default)))) (by kernel_rfl) ?_
  refine Sim.asB (b := ((b2.Default == (-1)) == (b0.Default == b1.Default))) (by kernel_rfl) ?_
  refine Sim.br (fun _ => ?_) (fun _ => ?_)
  · skip
    refine Sim.ob1 (v := (.ptr 2 2)) (by kernel_rfl) ?_
    refine Sim.ob1 (v := (iv b2.Fuel)) (by kernel_rfl) ?_
    refine Sim.ob1 (v := (bv (b2.Fuel == (-1)))) (by kernel_rfl) ?_
    refine Sim.ob1 (v := (.ptr 0 2)) (by kernel_rfl) ?_
    refine Sim.ob1 (v := (iv b0.Fuel)) (by kernel_rfl) ?_
    refine Sim.ob1 (v := (.ptr 1 2)) (by kernel_rfl) ?_
    refine Sim.ob1 (v := (iv b1.Fuel)) (by kernel_rfl) ?_
    refine Sim.ob1 (v := (bv (b0.Fuel == b1.Fuel))) (by kernel_rfl) ?_
    refine Sim.ob1 (v := (bv ((b2.Fuel == (-1)) == (b0.Fuel == b1.Fuel)))) (by kernel_rfl) ?_
    refine Sim.asB (b := ((b2.Fuel == (-1)) == (b0.Fuel == b1.Fuel))) (by kernel_rfl) ?_
    refine Sim.br (fun _ => ?_) (fun _ => ?_)
    · skip
      refine Sim.ob1 (v := (bv (!r3))) (by kernel_rfl) ?_
      refine Sim.asB (b := (!r3)) (by kernel_rfl) ?_
      refine Sim.br (fun _ => ?_) (fun _ => ?_)
      · skip
        exact Sim.cast (y' := some ((bv true), [(r_Srule_Set b0 ob0_Rules), (r_Srule_Set b1 ob1_Rules), (r_Srule_Delta b2 ob2_Put ob2_Drop)])) (by kernel_rfl) (Sim.ret ⟨[(r_Srule_Set b0 ob0_Rules), (r_Srule_Set b1 ob1_Rules), (r_Srule_Delta b2 ob2_Put ob2_Drop)], by kernel_rfl⟩)
      · skip
        refine Sim.ob1 (v := (.ptr 2 4)) (by kernel_rfl) ?_
        refine Sim.ob1 (v := (.p (.lst (shrO ob2_Put) (b2.Put.map e_Srule_Rule)))) (by kernel_rfl) ?_
        refine Sim.ob1 (v := (iv (b2.Put.length : Int))) (Eq.trans (by kernel_rfl) (xlen_of (P := PP) (t := 22) (d := 43) (by kernel_rfl) e_Srule_Rule (shrO ob2_Put) b2.Put)) ?_
        refine Sim.ob1 (v := (.ptr 2 5)) (by kernel_rfl) ?_
        refine Sim.ob1 (v := (.p (.lst (shrO ob2_Drop) (b2.Drop.map (eI .i64))))) (by kernel_rfl) ?_
        refine Sim.ob1 (v := (iv (b2.Drop.length : Int))) (Eq.trans (by kernel_rfl) (xlen_of (P := PP) (t := 25) (d := 3) (by kernel_rfl) (eI .i64) (shrO ob2_Drop) b2.Drop)) ?_
        refine Sim.ob1 (v := (iv (IntKind.i64.wrap ((b2.Put.length : Int) + (b2.Drop.length : Int))))) (by kernel_rfl) ?_
        refine Sim.ob1 (v := (bv ((IntKind.i64.wrap ((b2.Put.length : Int) + (b2.Drop.length : Int))) == 0))) (by kernel_rfl) ?_
        exact Sim.cast (y' := some ((bv ((IntKind.i64.wrap ((b2.Put.length : Int) + (b2.Drop.length : Int))) == 0)), [(r_Srule_Set b0 ob0_Rules), (r_Srule_Set b1 ob1_Rules), (r_Srule_Delta b2 ob2_Put ob2_Drop)])) (by kernel_rfl) (Sim.ret ⟨[(r_Srule_Set b0 ob0_Rules), (r_Srule_Set b1 ob1_Rules), (r_Srule_Delta b2 ob2_Put ob2_Drop)], by kernel_rfl⟩)
    · skip
      exact Sim.cast (y' := some ((bv false), [(r_Srule_Set b0 ob0_Rules), (r_Srule_Set b1 ob1_Rules), (r_Srule_Delta b2 ob2_Put ob2_Drop)])) (by kernel_rfl) (Sim.ret ⟨[(r_Srule_Set b0 ob0_Rules), (r_Srule_Set b1 ob1_Rules), (r_Srule_Delta b2 ob2_Put ob2_Drop)], by kernel_rfl⟩)
  · skip
    exact Sim.cast (y' := some ((bv false), [(r_Srule_Set b0 ob0_Rules), (r_Srule_Set b1 ob1_Rules), (r_Srule_Delta b2 ob2_Put ob2_Drop)])) (by kernel_rfl) (Sim.ret ⟨[(r_Srule_Set b0 ob0_Rules), (r_Srule_Set b1 ob1_Rules), (r_Srule_Delta b2 ob2_Put ob2_Drop)], by kernel_rfl⟩)
noncomputable def b8_l22 (x9 : Int) (x107 : List Int) (x108 : Int) (x109 : Int) (b0 : Srule_Set) (b1 : Srule_Set) (b2 : Srule_Delta) : Option (Bool) :=
 if ((decide (x109 < x108))) = true then
 (b8_r23 x9 x107 x108 x109 b0 b1 b2)
 else
 (b8_r28 b0 b1 b2)
theorem g8_l22_sim (x9 : Int) (x107 : List Int) (x108 : Int) (x109 : Int) (b0 : Srule_Set) (b1 : Srule_Set) (b2 : Srule_Delta) (ox107 : Own) (ob0_Rules : Own) (ob1_Rules : Own) (ob2_Put : Own) (ob2_Drop : Own) : Sim (Q8) (b8_l22 x9 x107 x108 x109 b0 b1 b2) (f8_l22 0 (.ptr 0 0) (.ptr 1 0) (.ptr 2 0) (iv x9) (.p (.lst ox107 (x107.map (eI .i64)))) (iv x108) (iv x109) [(r_Srule_Set b0 ob0_Rules), (r_Srule_Set b1 ob1_Rules), (r_Srule_Delta b2 ob2_Put ob2_Drop)]) := by
  unfold b8_l22
  refine Sim.cast (f8_l22_eq _ _ _ _ _ _ _ _ _) ?_
  refine Sim.mk ?_
  refine Sim.ob1 (v := (bv (decide (x109 < x108)))) (by kernel_rfl) ?_
  refine Sim.asB (b := (decide (x109 < x108))) (by kernel_rfl) ?_
  refine Sim.br (fun _ => ?_) (fun _ => ?_)
  · skip
    exact Sim.cast (by kernel_rfl) (g8_r23_sim (x9) (x107) (x108) (x109) (b0) (b1) (b2) ox107 ob0_Rules ob1_Rules ob2_Put ob2_Drop)
  · skip
    exact Sim.cast (by kernel_rfl) (g8_r28_sim (b0) (b1) (b2) ob0_Rules ob1_Rules ob2_Put ob2_Drop)
theorem g8_l22_of (x9 : Int) (x107 : List Int) (x108 : Int) (x109 : Int) (b0 : Srule_Set) (b1 : Srule_Set) (b2 : Srule_Delta) {r} (h : b8_l22 x9 x107 x108 x109 b0 b1 b2 = some r) : g8_l22 x9 x107 x108 x109 b0 b1 b2 = some r :=
  pick_of (fun _ _ ha hb => RRun.uniq (Q8_u) (ha .ex .ex .ex .ex .ex) (hb .ex .ex .ex .ex .ex)) (fun ox107 ob0_Rules ob1_Rules ob2_Put ob2_Drop => g8_l22_sim x9 x107 x108 x109 b0 b1 b2 ox107 ob0_Rules ob1_Rules ob2_Put ob2_Drop r h)
end Go.Proofs.Ytbmmhbpalkepeaa.N2
end
