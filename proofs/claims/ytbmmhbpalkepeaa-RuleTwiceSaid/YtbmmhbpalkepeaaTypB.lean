/- The functions' typed texts. No condition. -/
import Derived.Test.YtbmmhbpalkepeaaTypA

section
set_option linter.unusedSimpArgs false
set_option linter.unusedVariables false
namespace Go.Proofs.Ytbmmhbpalkepeaa.N2
open Go Go.Abs
set_option linter.unusedVariables false
set_option maxRecDepth 100000
/-! "colander/colanderlaw07.RuleKeeps": g5 -/
noncomputable def b5_r11 (x5 : Int) (x7 : Int) (b0 : Srule_Set) (b2 : Srule_Set) (b3 : Srule_Set) : Option (Bool) :=
 (g14 b0).bind fun r1 =>
 if ((x5 == 0)) = true then
 (if ((x7 == 0)) = true then
 ((g14 b2).bind fun r2 =>
 (g13 r2 r1).bind fun r3 =>
 if (r3) = true then
 ((g14 b3).bind fun r4 =>
 (g13 r4 r1).bind fun r5 =>
 some (r5))
 else
 (some (false)))
 else
 (some (false)))
 else
 (some (false))
theorem g5_r11_sim (x5 : Int) (x7 : Int) (b0 : Srule_Set) (b1_Default : Int) (b1_Closed : Int) (b1_Fuel : Int) (b1_Stack : Int) (b1_Put : List Srule_Rule) (b1_Drop : List Int) (b2 : Srule_Set) (b3 : Srule_Set) (ob0_Rules : Own) (ob1_Put : Own) (ob1_Drop : Own) (ob2_Rules : Own) (ob3_Rules : Own) (hob1_Drop : okApp ob1_Drop = true) : Sim (Q5) (b5_r11 x5 x7 b0 b2 b3) (f5_r11 0 (.ptr 0 0) (.ptr 2 0) (iv x5) (.ptr 3 0) (iv x7) [(r_Srule_Set b0 ob0_Rules), (r_Srule_Delta (Srule_Delta.mk b1_Default b1_Closed b1_Fuel b1_Stack b1_Put b1_Drop) ob1_Put ob1_Drop), (r_Srule_Set b2 ob2_Rules), (r_Srule_Set b3 ob3_Rules)]) := by
  unfold b5_r11
  refine zf (f5_r11_eq ..) ?_
  refine ze ?_
  refine zo (.p (.agg (k_Srule_Set b0 (shrO ob0_Rules)))) ?_
  refine zi fun r1 hr1 => ?_
  obtain ⟨qr1, er1, exr1, rfl⟩ := g14_to (b0) .sh r1 hr1
  refine zc [] (.p (.agg (k_Scolanderref07_Set r1 .sh))) [(r_Srule_Set b0 ob0_Rules), (r_Srule_Delta (Srule_Delta.mk b1_Default b1_Closed b1_Fuel b1_Stack b1_Put b1_Drop) ob1_Put ob1_Drop), (r_Srule_Set b2 ob2_Rules), (r_Srule_Set b3 ob3_Rules)] er1 ?_
  refine zz (.ptr 4 0) [(r_Srule_Set b0 ob0_Rules), (r_Srule_Delta (Srule_Delta.mk b1_Default b1_Closed b1_Fuel b1_Stack b1_Put b1_Drop) ob1_Put ob1_Drop), (r_Srule_Set b2 ob2_Rules), (r_Srule_Set b3 ob3_Rules), (r_Scolanderref07_Set (Scolanderref07_Set.mk 0 0 0 0 ([] : List Srule_Rule)) .nl)] ?_
  refine zt [(r_Srule_Set b0 ob0_Rules), (r_Srule_Delta (Srule_Delta.mk b1_Default b1_Closed b1_Fuel b1_Stack b1_Put b1_Drop) ob1_Put ob1_Drop), (r_Srule_Set b2 ob2_Rules), (r_Srule_Set b3 ob3_Rules), (r_Scolanderref07_Set r1 .sh)] ?_
  refine ze ?_
  refine zo (bv (x5 == 0)) ?_
  refine za ((x5 == 0)) ?_ ?_
  · refine zo (bv (x7 == 0)) ?_
    refine za ((x7 == 0)) ?_ ?_
    · refine zo (.p (.agg (k_Srule_Set b2 (shrO ob2_Rules)))) ?_
      refine zi fun r2 hr2 => ?_
      obtain ⟨qr2, er2, exr2, rfl⟩ := g14_to (b2) .sh r2 hr2
      refine zc [] (.p (.agg (k_Scolanderref07_Set r2 .sh))) [(r_Srule_Set b0 ob0_Rules), (r_Srule_Delta (Srule_Delta.mk b1_Default b1_Closed b1_Fuel b1_Stack b1_Put b1_Drop) ob1_Put ob1_Drop), (r_Srule_Set b2 ob2_Rules), (r_Srule_Set b3 ob3_Rules), (r_Scolanderref07_Set r1 .sh)] er2 ?_
      refine zo (.p (.agg (k_Scolanderref07_Set r1 .sh))) ?_
      refine zi fun r3 hr3 => ?_
      obtain ⟨qr3, er3, exr3, rfl⟩ := g13_to (r2) (r1) .sh .sh r3 hr3
      refine zc [] (bv r3) [(r_Srule_Set b0 ob0_Rules), (r_Srule_Delta (Srule_Delta.mk b1_Default b1_Closed b1_Fuel b1_Stack b1_Put b1_Drop) ob1_Put ob1_Drop), (r_Srule_Set b2 ob2_Rules), (r_Srule_Set b3 ob3_Rules), (r_Scolanderref07_Set r1 .sh)] er3 ?_
      refine za (r3) ?_ ?_
      · refine zo (.p (.agg (k_Srule_Set b3 (shrO ob3_Rules)))) ?_
        refine zi fun r4 hr4 => ?_
        obtain ⟨qr4, er4, exr4, rfl⟩ := g14_to (b3) .sh r4 hr4
        refine zc [] (.p (.agg (k_Scolanderref07_Set r4 .sh))) [(r_Srule_Set b0 ob0_Rules), (r_Srule_Delta (Srule_Delta.mk b1_Default b1_Closed b1_Fuel b1_Stack b1_Put b1_Drop) ob1_Put ob1_Drop), (r_Srule_Set b2 ob2_Rules), (r_Srule_Set b3 ob3_Rules), (r_Scolanderref07_Set r1 .sh)] er4 ?_
        refine zo (.p (.agg (k_Scolanderref07_Set r1 .sh))) ?_
        refine zi fun r5 hr5 => ?_
        obtain ⟨qr5, er5, exr5, rfl⟩ := g13_to (r4) (r1) .sh .sh r5 hr5
        refine zc [] (bv r5) [(r_Srule_Set b0 ob0_Rules), (r_Srule_Delta (Srule_Delta.mk b1_Default b1_Closed b1_Fuel b1_Stack b1_Put b1_Drop) ob1_Put ob1_Drop), (r_Srule_Set b2 ob2_Rules), (r_Srule_Set b3 ob3_Rules), (r_Scolanderref07_Set r1 .sh)] er5 ?_
        refine zg ?_
        refine zg ?_
        exact zr ((bv r5), [(r_Srule_Set b0 ob0_Rules), (r_Srule_Delta (Srule_Delta.mk b1_Default b1_Closed b1_Fuel b1_Stack b1_Put b1_Drop) ob1_Put ob1_Drop), (r_Srule_Set b2 ob2_Rules), (r_Srule_Set b3 ob3_Rules), (r_Scolanderref07_Set r1 .sh)]) ⟨_, rfl⟩
      · refine zg ?_
        refine zg ?_
        exact zr ((bv false), [(r_Srule_Set b0 ob0_Rules), (r_Srule_Delta (Srule_Delta.mk b1_Default b1_Closed b1_Fuel b1_Stack b1_Put b1_Drop) ob1_Put ob1_Drop), (r_Srule_Set b2 ob2_Rules), (r_Srule_Set b3 ob3_Rules), (r_Scolanderref07_Set r1 .sh)]) ⟨_, rfl⟩
    · refine zg ?_
      refine zg ?_
      exact zr ((bv false), [(r_Srule_Set b0 ob0_Rules), (r_Srule_Delta (Srule_Delta.mk b1_Default b1_Closed b1_Fuel b1_Stack b1_Put b1_Drop) ob1_Put ob1_Drop), (r_Srule_Set b2 ob2_Rules), (r_Srule_Set b3 ob3_Rules), (r_Scolanderref07_Set r1 .sh)]) ⟨_, rfl⟩
  · refine zg ?_
    refine zg ?_
    exact zr ((bv false), [(r_Srule_Set b0 ob0_Rules), (r_Srule_Delta (Srule_Delta.mk b1_Default b1_Closed b1_Fuel b1_Stack b1_Put b1_Drop) ob1_Put ob1_Drop), (r_Srule_Set b2 ob2_Rules), (r_Srule_Set b3 ob3_Rules), (r_Scolanderref07_Set r1 .sh)]) ⟨_, rfl⟩
noncomputable def b5_r5 (b0 : Srule_Set) : Option (Bool) :=
 (g12 b0 ((Srule_Delta.mk (-1) (-1) (-1) (-1) ([] : List Srule_Rule) ([] : List Int)))).bind fun r1 =>
 (g12 b0 ((Srule_Delta.mk (-1) (-1) (-1) (-1) b0.Rules ([] : List Int)))).bind fun r2 =>
 (g16 b0).bind fun r3 =>
 if ((!r3)) = true then
 (if ((r1.2 == 10)) = true then
 (some ((r2.2 == 10)))
 else
 (some (false)))
 else
 (b5_r11 r1.2 r2.2 b0 r1.1 r2.1)
theorem g5_r5_sim (b0 : Srule_Set) (ob0_Rules : Own) : Sim (Q5) (b5_r5 b0) (f5_r5 0 (.ptr 0 0) [(r_Srule_Set b0 ob0_Rules)]) := by
  unfold b5_r5
  refine zf (f5_r5_eq ..) ?_
  refine ze ?_
  refine zo (.p (.agg (k_Srule_Delta (Srule_Delta.mk (-1) (-1) (-1) (-1) ([] : List Srule_Rule) ([] : List Int)) .nl .nl))) ?_
  refine zz (.ptr 1 0) [(r_Srule_Set b0 ob0_Rules), (r_Srule_Delta (Srule_Delta.mk 0 0 0 0 ([] : List Srule_Rule) ([] : List Int)) .nl .nl)] ?_
  refine zt [(r_Srule_Set b0 ob0_Rules), (r_Srule_Delta (Srule_Delta.mk (-1) (-1) (-1) (-1) ([] : List Srule_Rule) ([] : List Int)) .nl .nl)] ?_
  refine ze ?_
  refine zo (.p (.agg (k_Srule_Set b0 (shrO ob0_Rules)))) ?_
  refine zo (.p (.agg (k_Srule_Delta (Srule_Delta.mk (-1) (-1) (-1) (-1) ([] : List Srule_Rule) ([] : List Int)) .nl .nl))) ?_
  refine zi fun r1 hr1 => ?_
  obtain ⟨qr1, er1, exr1, rfl⟩ := g12_to (b0) ((Srule_Delta.mk (-1) (-1) (-1) (-1) ([] : List Srule_Rule) ([] : List Int))) .sh .sh .sh r1 hr1
  refine zc [] (.p (.tup [(.agg (k_Srule_Set r1.1 .sh)), (.v (.int .i64 r1.2))])) [(r_Srule_Set b0 ob0_Rules), (r_Srule_Delta (Srule_Delta.mk (-1) (-1) (-1) (-1) ([] : List Srule_Rule) ([] : List Int)) .nl .nl)] er1 ?_
  refine zo (.p (.agg (k_Srule_Set r1.1 .sh))) ?_
  refine zo (iv r1.2) ?_
  refine zz (.ptr 2 0) [(r_Srule_Set b0 ob0_Rules), (r_Srule_Delta (Srule_Delta.mk (-1) (-1) (-1) (-1) ([] : List Srule_Rule) ([] : List Int)) .nl .nl), (r_Srule_Set (Srule_Set.mk 0 0 0 0 ([] : List Srule_Rule)) .nl)] ?_
  refine zt [(r_Srule_Set b0 ob0_Rules), (r_Srule_Delta (Srule_Delta.mk (-1) (-1) (-1) (-1) ([] : List Srule_Rule) ([] : List Int)) .nl .nl), (r_Srule_Set r1.1 .sh)] ?_
  refine ze ?_
  refine zo (.ptr 0 4) ?_
  refine zo (.p (.lst (shrO ob0_Rules) (b0.Rules.map e_Srule_Rule))) ?_
  refine zo (.ptr 1 4) ?_
  refine zt [(r_Srule_Set b0 ob0_Rules), (r_Srule_Delta (Srule_Delta.mk (-1) (-1) (-1) (-1) b0.Rules ([] : List Int)) (shrO ob0_Rules) .nl), (r_Srule_Set r1.1 .sh)] ?_
  refine ze ?_
  refine zo (.p (.agg (k_Srule_Set b0 (shrO ob0_Rules)))) ?_
  refine zo (.p (.agg (k_Srule_Delta (Srule_Delta.mk (-1) (-1) (-1) (-1) b0.Rules ([] : List Int)) (shrO (shrO ob0_Rules)) .nl))) ?_
  refine zi fun r2 hr2 => ?_
  obtain ⟨qr2, er2, exr2, rfl⟩ := g12_to (b0) ((Srule_Delta.mk (-1) (-1) (-1) (-1) b0.Rules ([] : List Int))) .sh .sh .sh r2 hr2
  refine zc [] (.p (.tup [(.agg (k_Srule_Set r2.1 .sh)), (.v (.int .i64 r2.2))])) [(r_Srule_Set b0 ob0_Rules), (r_Srule_Delta (Srule_Delta.mk (-1) (-1) (-1) (-1) b0.Rules ([] : List Int)) (shrO ob0_Rules) .nl), (r_Srule_Set r1.1 .sh)] er2 ?_
  refine zo (.p (.agg (k_Srule_Set r2.1 .sh))) ?_
  refine zo (iv r2.2) ?_
  refine zz (.ptr 3 0) [(r_Srule_Set b0 ob0_Rules), (r_Srule_Delta (Srule_Delta.mk (-1) (-1) (-1) (-1) b0.Rules ([] : List Int)) (shrO ob0_Rules) .nl), (r_Srule_Set r1.1 .sh), (r_Srule_Set (Srule_Set.mk 0 0 0 0 ([] : List Srule_Rule)) .nl)] ?_
  refine zt [(r_Srule_Set b0 ob0_Rules), (r_Srule_Delta (Srule_Delta.mk (-1) (-1) (-1) (-1) b0.Rules ([] : List Int)) (shrO ob0_Rules) .nl), (r_Srule_Set r1.1 .sh), (r_Srule_Set r2.1 .sh)] ?_
  refine ze ?_
  refine zo (.p (.agg (k_Srule_Set b0 (shrO ob0_Rules)))) ?_
  refine zi fun r3 hr3 => ?_
  obtain ⟨qr3, er3, exr3, rfl⟩ := g16_to (b0) .sh r3 hr3
  refine zc [] (bv r3) [(r_Srule_Set b0 ob0_Rules), (r_Srule_Delta (Srule_Delta.mk (-1) (-1) (-1) (-1) b0.Rules ([] : List Int)) (shrO ob0_Rules) .nl), (r_Srule_Set r1.1 .sh), (r_Srule_Set r2.1 .sh)] er3 ?_
  refine zo (bv (!r3)) ?_
  refine za ((!r3)) ?_ ?_
  · refine ze ?_
    refine zo (bv (r1.2 == 10)) ?_
    refine za ((r1.2 == 10)) ?_ ?_
    · refine zo (bv (r2.2 == 10)) ?_
      exact zr ((bv (r2.2 == 10)), [(r_Srule_Set b0 ob0_Rules), (r_Srule_Delta (Srule_Delta.mk (-1) (-1) (-1) (-1) b0.Rules ([] : List Int)) (shrO ob0_Rules) .nl), (r_Srule_Set r1.1 .sh), (r_Srule_Set r2.1 .sh)]) ⟨_, rfl⟩
    · exact zr ((bv false), [(r_Srule_Set b0 ob0_Rules), (r_Srule_Delta (Srule_Delta.mk (-1) (-1) (-1) (-1) b0.Rules ([] : List Int)) (shrO ob0_Rules) .nl), (r_Srule_Set r1.1 .sh), (r_Srule_Set r2.1 .sh)]) ⟨_, rfl⟩
  · exact zk (g5_r11_sim (r1.2) (r2.2) (b0) ((-1)) ((-1)) ((-1)) ((-1)) (b0.Rules) (([] : List Int)) (r1.1) (r2.1) ob0_Rules (shrO ob0_Rules) .nl .sh .sh rfl)
noncomputable def b5_r3 (b0 : Srule_Set) : Option (Bool) :=
 if ((decide (40 < (b0.Rules.length : Int)))) = true then
 (some (true))
 else
 (b5_r5 b0)
theorem g5_r3_sim (b0 : Srule_Set) (ob0_Rules : Own) : Sim (Q5) (b5_r3 b0) (f5_r3 0 (.ptr 0 0) [(r_Srule_Set b0 ob0_Rules)]) := by
  unfold b5_r3
  refine zf (f5_r3_eq ..) ?_
  refine ze ?_
  refine zo (.ptr 0 4) ?_
  refine zo (.p (.lst (shrO ob0_Rules) (b0.Rules.map e_Srule_Rule))) ?_
  refine zo (iv (b0.Rules.length : Int)) ?_ (Eq.trans (by kernel_rfl) (xlen_of (P := PP) (t := 22) (d := 43) (by kernel_rfl) e_Srule_Rule (shrO ob0_Rules) b0.Rules))
  refine zo (bv (decide (40 < (b0.Rules.length : Int)))) ?_
  refine za ((decide (40 < (b0.Rules.length : Int)))) ?_ ?_
  · refine ze ?_
    exact zr ((bv true), [(r_Srule_Set b0 ob0_Rules)]) ⟨_, rfl⟩
  · exact zk (g5_r5_sim (b0) ob0_Rules)
noncomputable def b5 (x0 : Srule_Set) : Option (Bool) :=
 (g10).bind fun r1 =>
 if ((!r1)) = true then
 (some (false))
 else
 (b5_r3 x0)
theorem g5_sim (x0 : Srule_Set) (ox0_Rules : Own) : Sim (Q5) (b5 x0) (EE 5 [(.p (.agg (k_Srule_Set x0 ox0_Rules)))] []) := by
  unfold b5
  refine zf (f5_eq ..) ?_
  refine ze ?_
  refine zx (.ptr 0 0) [(r_Srule_Set x0 ox0_Rules)] ?_
  refine ze ?_
  refine zi fun r1 hr1 => ?_
  obtain ⟨qr1, er1, exr1, rfl⟩ := g10_to  r1 hr1
  refine zc [] (bv r1) [(r_Srule_Set x0 ox0_Rules)] er1 ?_
  refine zo (bv (!r1)) ?_
  refine za ((!r1)) ?_ ?_
  · refine ze ?_
    exact zr ((bv false), [(r_Srule_Set x0 ox0_Rules)]) ⟨_, rfl⟩
  · exact zk (g5_r3_sim (x0) ox0_Rules)
theorem g5_of (x0 : Srule_Set) {r} (h : b5 x0 = some r) : g5 x0 = some r :=
  pick_of (fun _ _ ha hb => RRun.uniq (Q5_u) (ha .ex) (hb .ex)) (fun ox0_Rules => g5_sim x0 ox0_Rules r h)
/-! "colander/colanderlaw07.anchor": g10 -/
noncomputable def b10  : Option (Bool) :=
 (g25).bind fun r1 =>
 (g12 r1 ((Srule_Delta.mk (-1) 7 (-1) (-1) ([(Srule_Rule.mk 3 0 0 1 (ByteArray.mk #[97]))] : List Srule_Rule) ([] : List Int)))).bind fun r2 =>
 if ((r2.2 == 0)) = true then
 (if ((r2.1.Closed == 7)) = true then
 (if (((r2.1.Rules.length : Int) == 1)) = true then
 ((lget r2.1.Rules 0).bind fun a3 =>
 if ((a3.ID == 3)) = true then
 (some ((r2.1.Fuel == 10000)))
 else
 (some (false)))
 else
 (some (false)))
 else
 (some (false)))
 else
 (some (false))
theorem g10_sim  : Sim (Q10) (b10) (EE 10 [] []) := by
  unfold b10
  refine zf (f10_eq ..) ?_
  refine ze ?_
  refine ze ?_
  refine zi fun r1 hr1 => ?_
  obtain ⟨qr1, er1, exr1, rfl⟩ := g25_to  r1 hr1
  refine zc [] (.p (.agg (k_Srule_Set r1 .sh))) [] er1 ?_
  refine zo (.p (.agg (k_Srule_Rule (Srule_Rule.mk 3 0 0 1 (ByteArray.mk #[97]))))) ?_
  refine zo (.p (.lst .ex (([(Srule_Rule.mk 3 0 0 1 (ByteArray.mk #[97]))] : List Srule_Rule).map e_Srule_Rule))) ?_
  refine zo (.p (.agg (k_Srule_Delta (Srule_Delta.mk (-1) 7 (-1) (-1) ([(Srule_Rule.mk 3 0 0 1 (ByteArray.mk #[97]))] : List Srule_Rule) ([] : List Int)) .ex .nl))) ?_
  refine zi fun r2 hr2 => ?_
  obtain ⟨qr2, er2, exr2, rfl⟩ := g12_to (r1) ((Srule_Delta.mk (-1) 7 (-1) (-1) ([(Srule_Rule.mk 3 0 0 1 (ByteArray.mk #[97]))] : List Srule_Rule) ([] : List Int))) .sh .sh .sh r2 hr2
  refine zc [] (.p (.tup [(.agg (k_Srule_Set r2.1 .sh)), (.v (.int .i64 r2.2))])) [] er2 ?_
  refine zo (.p (.agg (k_Srule_Set r2.1 .sh))) ?_
  refine zo (iv r2.2) ?_
  refine zz (.ptr 0 0) [(r_Srule_Set (Srule_Set.mk 0 0 0 0 ([] : List Srule_Rule)) .nl)] ?_
  refine zt [(r_Srule_Set r2.1 .sh)] ?_
  refine ze ?_
  refine zo (bv (r2.2 == 0)) ?_
  refine za ((r2.2 == 0)) ?_ ?_
  · refine zo (.ptr 0 1) ?_
    refine zo (iv r2.1.Closed) ?_
    refine zo (bv (r2.1.Closed == 7)) ?_
    refine za ((r2.1.Closed == 7)) ?_ ?_
    · refine zo (.ptr 0 4) ?_
      refine zo (.p (.lst .sh (r2.1.Rules.map e_Srule_Rule))) ?_
      refine zo (iv (r2.1.Rules.length : Int)) ?_ (Eq.trans (by kernel_rfl) (xlen_of (P := PP) (t := 22) (d := 43) (by kernel_rfl) e_Srule_Rule .sh r2.1.Rules))
      refine zo (bv ((r2.1.Rules.length : Int) == 1)) ?_
      refine za (((r2.1.Rules.length : Int) == 1)) ?_ ?_
      · refine zo (.ptr 0 4) ?_
        refine zo (.p (.lst .sh (r2.1.Rules.map e_Srule_Rule))) ?_
        refine zi fun a3 ha3 => ?_
        refine zo (.cptr (k_Srule_Rule a3)) ?_ (Eq.trans (by kernel_rfl) (xidx_of (o := .sh) (k := .i64) (n := 5) (e := e_Srule_Rule) (cs := c_Srule_Rule) (fun _ => rfl) (fun _ => rfl) (by decide) ha3))
        refine zo (.cptr [(.v (.int .i64 a3.ID)), (.v (.int .i64 a3.Priority)), (.v (.int .i64 a3.Action)), (.v (.int .i64 a3.Scope)), (.v (.string a3.Pattern))]) ?_
        refine zo (iv a3.ID) ?_
        refine zo (bv (a3.ID == 3)) ?_
        refine za ((a3.ID == 3)) ?_ ?_
        · refine zo (.ptr 0 2) ?_
          refine zo (iv r2.1.Fuel) ?_
          refine zo (bv (r2.1.Fuel == 10000)) ?_
          exact zr ((bv (r2.1.Fuel == 10000)), [(r_Srule_Set r2.1 .sh)]) ⟨_, rfl⟩
        · exact zr ((bv false), [(r_Srule_Set r2.1 .sh)]) ⟨_, rfl⟩
      · exact zr ((bv false), [(r_Srule_Set r2.1 .sh)]) ⟨_, rfl⟩
    · exact zr ((bv false), [(r_Srule_Set r2.1 .sh)]) ⟨_, rfl⟩
  · exact zr ((bv false), [(r_Srule_Set r2.1 .sh)]) ⟨_, rfl⟩
theorem g10_of  {r} (h : b10 = some r) : g10 = some r :=
  pick_of (fun _ _ ha hb => RRun.uniq (Q10_u) (ha ) (hb )) (g10_sim  r h)
/-! "colander/rule.First": g25 -/
noncomputable def b25  : Option (Srule_Set) :=
 some ((Srule_Set.mk 0 255 10000 500 ([] : List Srule_Rule)))
theorem g25_sim  : Sim (Q25) (b25) (EE 25 [] []) := by
  unfold b25
  refine zf (f25_eq ..) ?_
  refine ze ?_
  refine zz (.ptr 0 0) [(r_Srule_Set (Srule_Set.mk 0 0 0 0 ([] : List Srule_Rule)) .nl)] ?_
  refine ze ?_
  refine zo (.p (.agg (k_Srule_Set (Srule_Set.mk 0 255 10000 500 ([] : List Srule_Rule)) .nl))) ?_
  refine zt [(r_Srule_Set (Srule_Set.mk 0 255 10000 500 ([] : List Srule_Rule)) .nl)] ?_
  exact zr ((.p (.agg (k_Srule_Set (Srule_Set.mk 0 255 10000 500 ([] : List Srule_Rule)) .sh))), [(r_Srule_Set (Srule_Set.mk 0 255 10000 500 ([] : List Srule_Rule)) .nl)]) ⟨_, rfl⟩
theorem g25_of  {r} (h : b25 = some r) : g25 = some r :=
  pick_of (fun _ _ ha hb => RRun.uniq (Q25_u) (ha ) (hb )) (g25_sim  r h)
/-! "colander/rule.Apply": g12 -/
noncomputable def b12_r9  : Option (Srule_Set × Int) :=
 some ((Srule_Set.mk 0 0 0 0 ([] : List Srule_Rule)), 30)
theorem g12_r9_sim (b0 : Srule_Set) (b1 : Srule_Delta) (b2 : Srule_Set) (ob0_Rules : Own) (ob1_Put : Own) (ob1_Drop : Own) (ob2_Rules : Own) (hob2_Rules : okApp ob2_Rules = true) : Sim (Q12) (b12_r9) (f12_r9 0 (.ptr 2 0) [(r_Srule_Set b0 ob0_Rules), (r_Srule_Delta b1 ob1_Put ob1_Drop), (r_Srule_Set b2 ob2_Rules)]) := by
  unfold b12_r9
  refine zf (f12_r9_eq ..) ?_
  refine ze ?_
  refine zo (.p (.agg (k_Srule_Set (Srule_Set.mk 0 0 0 0 ([] : List Srule_Rule)) .nl))) ?_
  refine zt [(r_Srule_Set b0 ob0_Rules), (r_Srule_Delta b1 ob1_Put ob1_Drop), (r_Srule_Set (Srule_Set.mk 0 0 0 0 ([] : List Srule_Rule)) .nl)] ?_
  exact zr ((.p (.tup [(.agg (k_Srule_Set (Srule_Set.mk 0 0 0 0 ([] : List Srule_Rule)) .sh)), (.v (.int .i64 30))])), [(r_Srule_Set b0 ob0_Rules), (r_Srule_Delta b1 ob1_Put ob1_Drop), (r_Srule_Set (Srule_Set.mk 0 0 0 0 ([] : List Srule_Rule)) .nl)]) ⟨_, rfl⟩
noncomputable def b12_r12 (b0 : Srule_Set) (b1 : Srule_Delta) (b3_Default : Int) (b3_Closed : Int) (b3_Fuel : Int) (b3_Stack : Int) : Option (Srule_Set × Int) :=
 g12_l14 b0.Rules ((b0.Rules.length : Int)) 0 b1 b3_Default b3_Closed b3_Fuel b3_Stack (([] : List (Int × Srule_Rule)))
theorem g12_r12_sim (b0 : Srule_Set) (b1 : Srule_Delta) (b2 : Srule_Set) (b3_Default : Int) (b3_Closed : Int) (b3_Fuel : Int) (b3_Stack : Int) (b3_Rules : List Srule_Rule) (ob0_Rules : Own) (ob1_Put : Own) (ob1_Drop : Own) (ob2_Rules : Own) (ob3_Rules : Own) (hob2_Rules : okApp ob2_Rules = true) : Sim (Q12) (b12_r12 b0 b1 b3_Default b3_Closed b3_Fuel b3_Stack) (f12_r12 0 (.ptr 0 0) (.ptr 1 0) (.ptr 2 0) (.ptr 3 0) [(r_Srule_Set b0 ob0_Rules), (r_Srule_Delta b1 ob1_Put ob1_Drop), (r_Srule_Set b2 ob2_Rules), (r_Srule_Set (Srule_Set.mk b3_Default b3_Closed b3_Fuel b3_Stack b3_Rules) ob3_Rules)]) := by
  unfold b12_r12
  refine zf (f12_r12_eq ..) ?_
  refine ze ?_
  refine zm (.mp 4) [(r_Srule_Set b0 ob0_Rules), (r_Srule_Delta b1 ob1_Put ob1_Drop), (r_Srule_Set b2 ob2_Rules), (r_Srule_Set (Srule_Set.mk b3_Default b3_Closed b3_Fuel b3_Stack b3_Rules) ob3_Rules), [(.md ((([] : List (Int × Srule_Rule))).map (encM e_Srule_Rule)))]] ?_
  refine ze ?_
  refine zo (.ptr 0 4) ?_
  refine zo (.p (.lst (shrO ob0_Rules) (b0.Rules.map e_Srule_Rule))) ?_
  refine zo (iv (b0.Rules.length : Int)) ?_ (Eq.trans (by kernel_rfl) (xlen_of (P := PP) (t := 22) (d := 43) (by kernel_rfl) e_Srule_Rule (shrO ob0_Rules) b0.Rules))
  exact zk (g12_l14_to (b0.Rules) ((b0.Rules.length : Int)) (0) (b0) (b1) (b2) (b3_Default) (b3_Closed) (b3_Fuel) (b3_Stack) (b3_Rules) (([] : List (Int × Srule_Rule))) (shrO ob0_Rules) ob0_Rules ob1_Put ob1_Drop ob2_Rules ob3_Rules hob2_Rules)
noncomputable def b12_r10 (b0 : Srule_Set) (b1 : Srule_Delta) (b3_Default : Int) (b3_Closed : Int) (b3_Fuel : Int) (b3_Stack : Int) : Option (Srule_Set × Int) :=
 (g29 b1).bind fun r1 =>
 if (r1) = true then
 (some ((Srule_Set.mk 0 0 0 0 ([] : List Srule_Rule)), 31))
 else
 (b12_r12 b0 b1 b3_Default b3_Closed b3_Fuel b3_Stack)
theorem g12_r10_sim (b0 : Srule_Set) (b1 : Srule_Delta) (b2 : Srule_Set) (b3_Default : Int) (b3_Closed : Int) (b3_Fuel : Int) (b3_Stack : Int) (b3_Rules : List Srule_Rule) (ob0_Rules : Own) (ob1_Put : Own) (ob1_Drop : Own) (ob2_Rules : Own) (ob3_Rules : Own) (hob2_Rules : okApp ob2_Rules = true) : Sim (Q12) (b12_r10 b0 b1 b3_Default b3_Closed b3_Fuel b3_Stack) (f12_r10 0 (.ptr 0 0) (.ptr 1 0) (.ptr 2 0) (.ptr 3 0) [(r_Srule_Set b0 ob0_Rules), (r_Srule_Delta b1 ob1_Put ob1_Drop), (r_Srule_Set b2 ob2_Rules), (r_Srule_Set (Srule_Set.mk b3_Default b3_Closed b3_Fuel b3_Stack b3_Rules) ob3_Rules)]) := by
  unfold b12_r10
  refine zf (f12_r10_eq ..) ?_
  refine ze ?_
  refine zo (.p (.agg (k_Srule_Delta b1 (shrO ob1_Put) (shrO ob1_Drop)))) ?_
  refine zi fun r1 hr1 => ?_
  obtain ⟨qr1, er1, exr1, rfl⟩ := g29_to (b1) .sh .sh r1 hr1
  refine zc [] (bv r1) [(r_Srule_Set b0 ob0_Rules), (r_Srule_Delta b1 ob1_Put ob1_Drop), (r_Srule_Set b2 ob2_Rules), (r_Srule_Set (Srule_Set.mk b3_Default b3_Closed b3_Fuel b3_Stack b3_Rules) ob3_Rules)] er1 ?_
  refine za (r1) ?_ ?_
  · refine ze ?_
    refine zo (.p (.agg (k_Srule_Set (Srule_Set.mk 0 0 0 0 ([] : List Srule_Rule)) .nl))) ?_
    refine zt [(r_Srule_Set b0 ob0_Rules), (r_Srule_Delta b1 ob1_Put ob1_Drop), (r_Srule_Set (Srule_Set.mk 0 0 0 0 ([] : List Srule_Rule)) .nl), (r_Srule_Set (Srule_Set.mk b3_Default b3_Closed b3_Fuel b3_Stack b3_Rules) ob3_Rules)] ?_
    exact zr ((.p (.tup [(.agg (k_Srule_Set (Srule_Set.mk 0 0 0 0 ([] : List Srule_Rule)) .sh)), (.v (.int .i64 31))])), [(r_Srule_Set b0 ob0_Rules), (r_Srule_Delta b1 ob1_Put ob1_Drop), (r_Srule_Set (Srule_Set.mk 0 0 0 0 ([] : List Srule_Rule)) .nl), (r_Srule_Set (Srule_Set.mk b3_Default b3_Closed b3_Fuel b3_Stack b3_Rules) ob3_Rules)]) ⟨_, rfl⟩
  · exact zk (g12_r12_sim (b0) (b1) (b2) (b3_Default) (b3_Closed) (b3_Fuel) (b3_Stack) (b3_Rules) ob0_Rules ob1_Put ob1_Drop ob2_Rules ob3_Rules hob2_Rules)
noncomputable def b12_r3 (b0 : Srule_Set) (b1 : Srule_Delta) : Option (Srule_Set × Int) :=
 (g26 b1.Default b0.Default).bind fun r1 =>
 (g26v1 b1.Closed b0.Closed).bind fun r2 =>
 (g26v2 b1.Fuel b0.Fuel).bind fun r3 =>
 (g26v3 b1.Stack b0.Stack).bind fun r4 =>
 (g27 ((Srule_Set.mk r1 r2 r3 r4 b0.Rules))).bind fun r5 =>
 if ((!r5)) = true then
 (b12_r9)
 else
 ((g28 b1.Put).bind fun r6 =>
 if ((!r6)) = true then
 (b12_r9)
 else
 (b12_r10 b0 b1 r1 r2 r3 r4))
theorem g12_r3_sim (b0 : Srule_Set) (b1 : Srule_Delta) (b2 : Srule_Set) (ob0_Rules : Own) (ob1_Put : Own) (ob1_Drop : Own) (ob2_Rules : Own) (hob2_Rules : okApp ob2_Rules = true) : Sim (Q12) (b12_r3 b0 b1) (f12_r3 0 (.ptr 0 0) (.ptr 1 0) (.ptr 2 0) [(r_Srule_Set b0 ob0_Rules), (r_Srule_Delta b1 ob1_Put ob1_Drop), (r_Srule_Set b2 ob2_Rules)]) := by
  unfold b12_r3
  refine zf (f12_r3_eq ..) ?_
  refine ze ?_
  refine zo (.p (.agg (k_Srule_Set b0 (shrO ob0_Rules)))) ?_
  refine zz (.ptr 3 0) [(r_Srule_Set b0 ob0_Rules), (r_Srule_Delta b1 ob1_Put ob1_Drop), (r_Srule_Set b2 ob2_Rules), (r_Srule_Set (Srule_Set.mk 0 0 0 0 ([] : List Srule_Rule)) .nl)] ?_
  refine zt [(r_Srule_Set b0 ob0_Rules), (r_Srule_Delta b1 ob1_Put ob1_Drop), (r_Srule_Set b2 ob2_Rules), (r_Srule_Set b0 (shrO ob0_Rules))] ?_
  refine ze ?_
  refine zo (.ptr 3 0) ?_
  refine zo (.ptr 1 0) ?_
  refine zo (iv b1.Default) ?_
  refine zi fun r1 hr1 => ?_
  obtain ⟨qr1, er1, exr1, rfl⟩ := g26_to (b1.Default) (b0.Default) (b0.Closed) (b0.Fuel) (b0.Stack) (b0.Rules) (shrO ob0_Rules) r1 hr1
  refine zc [3] (.p (.tup [])) [(r_Srule_Set b0 ob0_Rules), (r_Srule_Delta b1 ob1_Put ob1_Drop), (r_Srule_Set b2 ob2_Rules), (r_Srule_Set (Srule_Set.mk r1 b0.Closed b0.Fuel b0.Stack b0.Rules) (shrO ob0_Rules))] er1 ?_
  refine ze ?_
  refine zo (.ptr 3 1) ?_
  refine zo (.ptr 1 1) ?_
  refine zo (iv b1.Closed) ?_
  refine zi fun r2 hr2 => ?_
  obtain ⟨qr2, er2, exr2, rfl⟩ := g26v1_to (b1.Closed) (r1) (b0.Closed) (b0.Fuel) (b0.Stack) (b0.Rules) (shrO ob0_Rules) r2 hr2
  refine zc [3] (.p (.tup [])) [(r_Srule_Set b0 ob0_Rules), (r_Srule_Delta b1 ob1_Put ob1_Drop), (r_Srule_Set b2 ob2_Rules), (r_Srule_Set (Srule_Set.mk r1 r2 b0.Fuel b0.Stack b0.Rules) (shrO ob0_Rules))] er2 ?_
  refine ze ?_
  refine zo (.ptr 3 2) ?_
  refine zo (.ptr 1 2) ?_
  refine zo (iv b1.Fuel) ?_
  refine zi fun r3 hr3 => ?_
  obtain ⟨qr3, er3, exr3, rfl⟩ := g26v2_to (b1.Fuel) (r1) (r2) (b0.Fuel) (b0.Stack) (b0.Rules) (shrO ob0_Rules) r3 hr3
  refine zc [3] (.p (.tup [])) [(r_Srule_Set b0 ob0_Rules), (r_Srule_Delta b1 ob1_Put ob1_Drop), (r_Srule_Set b2 ob2_Rules), (r_Srule_Set (Srule_Set.mk r1 r2 r3 b0.Stack b0.Rules) (shrO ob0_Rules))] er3 ?_
  refine ze ?_
  refine zo (.ptr 3 3) ?_
  refine zo (.ptr 1 3) ?_
  refine zo (iv b1.Stack) ?_
  refine zi fun r4 hr4 => ?_
  obtain ⟨qr4, er4, exr4, rfl⟩ := g26v3_to (b1.Stack) (r1) (r2) (r3) (b0.Stack) (b0.Rules) (shrO ob0_Rules) r4 hr4
  refine zc [3] (.p (.tup [])) [(r_Srule_Set b0 ob0_Rules), (r_Srule_Delta b1 ob1_Put ob1_Drop), (r_Srule_Set b2 ob2_Rules), (r_Srule_Set (Srule_Set.mk r1 r2 r3 r4 b0.Rules) (shrO ob0_Rules))] er4 ?_
  refine ze ?_
  refine zo (.p (.agg (k_Srule_Set (Srule_Set.mk r1 r2 r3 r4 b0.Rules) (shrO (shrO ob0_Rules))))) ?_
  refine zi fun r5 hr5 => ?_
  obtain ⟨qr5, er5, exr5, rfl⟩ := g27_to ((Srule_Set.mk r1 r2 r3 r4 b0.Rules)) .sh r5 hr5
  refine zc [] (bv r5) [(r_Srule_Set b0 ob0_Rules), (r_Srule_Delta b1 ob1_Put ob1_Drop), (r_Srule_Set b2 ob2_Rules), (r_Srule_Set (Srule_Set.mk r1 r2 r3 r4 b0.Rules) (shrO ob0_Rules))] er5 ?_
  refine zo (bv (!r5)) ?_
  refine za ((!r5)) ?_ ?_
  · exact zk (g12_r9_sim (b0) (b1) (b2) ob0_Rules ob1_Put ob1_Drop ob2_Rules hob2_Rules)
  · refine zo (.ptr 1 4) ?_
    refine zo (.p (.lst (shrO ob1_Put) (b1.Put.map e_Srule_Rule))) ?_
    refine zi fun r6 hr6 => ?_
    obtain ⟨qr6, er6, exr6, rfl⟩ := g28_to (b1.Put) .sh r6 hr6
    refine zc [] (bv r6) [(r_Srule_Set b0 ob0_Rules), (r_Srule_Delta b1 ob1_Put ob1_Drop), (r_Srule_Set b2 ob2_Rules), (r_Srule_Set (Srule_Set.mk r1 r2 r3 r4 b0.Rules) (shrO ob0_Rules))] er6 ?_
    refine zo (bv (!r6)) ?_
    refine za ((!r6)) ?_ ?_
    · exact zk (g12_r9_sim (b0) (b1) (b2) ob0_Rules ob1_Put ob1_Drop ob2_Rules hob2_Rules)
    · exact zk (g12_r10_sim (b0) (b1) (b2) (r1) (r2) (r3) (r4) (b0.Rules) ob0_Rules ob1_Put ob1_Drop ob2_Rules (shrO ob0_Rules) hob2_Rules)
noncomputable def b12 (x0 : Srule_Set) (x1 : Srule_Delta) : Option (Srule_Set × Int) :=
 (g16 x0).bind fun r1 =>
 if ((!r1)) = true then
 (some ((Srule_Set.mk 0 0 0 0 ([] : List Srule_Rule)), 10))
 else
 (b12_r3 x0 x1)
theorem g12_sim (x0 : Srule_Set) (x1 : Srule_Delta) (ox0_Rules : Own) (ox1_Put : Own) (ox1_Drop : Own) : Sim (Q12) (b12 x0 x1) (EE 12 [(.p (.agg (k_Srule_Set x0 ox0_Rules))), (.p (.agg (k_Srule_Delta x1 ox1_Put ox1_Drop)))] []) := by
  unfold b12
  refine zf (f12_eq ..) ?_
  refine ze ?_
  refine zx (.ptr 0 0) [(r_Srule_Set x0 ox0_Rules)] ?_
  refine zx (.ptr 1 0) [(r_Srule_Set x0 ox0_Rules), (r_Srule_Delta x1 ox1_Put ox1_Drop)] ?_
  refine zz (.ptr 2 0) [(r_Srule_Set x0 ox0_Rules), (r_Srule_Delta x1 ox1_Put ox1_Drop), (r_Srule_Set (Srule_Set.mk 0 0 0 0 ([] : List Srule_Rule)) .nl)] ?_
  refine ze ?_
  refine zo (.p (.agg (k_Srule_Set x0 (shrO ox0_Rules)))) ?_
  refine zi fun r1 hr1 => ?_
  obtain ⟨qr1, er1, exr1, rfl⟩ := g16_to (x0) .sh r1 hr1
  refine zc [] (bv r1) [(r_Srule_Set x0 ox0_Rules), (r_Srule_Delta x1 ox1_Put ox1_Drop), (r_Srule_Set (Srule_Set.mk 0 0 0 0 ([] : List Srule_Rule)) .nl)] er1 ?_
  refine zo (bv (!r1)) ?_
  refine za ((!r1)) ?_ ?_
  · refine ze ?_
    refine zo (.p (.agg (k_Srule_Set (Srule_Set.mk 0 0 0 0 ([] : List Srule_Rule)) .nl))) ?_
    refine zt [(r_Srule_Set x0 ox0_Rules), (r_Srule_Delta x1 ox1_Put ox1_Drop), (r_Srule_Set (Srule_Set.mk 0 0 0 0 ([] : List Srule_Rule)) .nl)] ?_
    exact zr ((.p (.tup [(.agg (k_Srule_Set (Srule_Set.mk 0 0 0 0 ([] : List Srule_Rule)) .sh)), (.v (.int .i64 10))])), [(r_Srule_Set x0 ox0_Rules), (r_Srule_Delta x1 ox1_Put ox1_Drop), (r_Srule_Set (Srule_Set.mk 0 0 0 0 ([] : List Srule_Rule)) .nl)]) ⟨_, rfl⟩
  · exact zk (g12_r3_sim (x0) (x1) ((Srule_Set.mk 0 0 0 0 ([] : List Srule_Rule))) ox0_Rules ox1_Put ox1_Drop .nl rfl)
theorem g12_of (x0 : Srule_Set) (x1 : Srule_Delta) {r} (h : b12 x0 x1 = some r) : g12 x0 x1 = some r :=
  pick_of (fun _ _ ha hb => RRun.uniq (Q12_u) (ha .ex .ex .ex) (hb .ex .ex .ex)) (fun ox0_Rules ox1_Put ox1_Drop => g12_sim x0 x1 ox0_Rules ox1_Put ox1_Drop r h)
noncomputable def b12_r15 (x54 : List Srule_Rule) (x55 : Int) (x56 : Int) (b1 : Srule_Delta) (b3_Default : Int) (b3_Closed : Int) (b3_Fuel : Int) (b3_Stack : Int) (b4_0 : List (Int × Srule_Rule)) : Option (Srule_Set × Int) :=
 (lget x54 x56).bind fun a1 =>
 g12_l14 x54 x55 ((IntKind.i64.wrap (x56 + 1))) b1 b3_Default b3_Closed b3_Fuel b3_Stack ((putM b4_0 a1.ID a1))
theorem g12_r15_sim (x54 : List Srule_Rule) (x55 : Int) (x56 : Int) (b0 : Srule_Set) (b1 : Srule_Delta) (b2 : Srule_Set) (b3_Default : Int) (b3_Closed : Int) (b3_Fuel : Int) (b3_Stack : Int) (b3_Rules : List Srule_Rule) (b4_0 : List (Int × Srule_Rule)) (ox54 : Own) (ob0_Rules : Own) (ob1_Put : Own) (ob1_Drop : Own) (ob2_Rules : Own) (ob3_Rules : Own) (hob2_Rules : okApp ob2_Rules = true) : Sim (Q12) (b12_r15 x54 x55 x56 b1 b3_Default b3_Closed b3_Fuel b3_Stack b4_0) (f12_r15 0 (.ptr 1 0) (.ptr 2 0) (.ptr 3 0) (.mp 4) (.p (.lst ox54 (x54.map e_Srule_Rule))) (iv x55) (iv x56) [(r_Srule_Set b0 ob0_Rules), (r_Srule_Delta b1 ob1_Put ob1_Drop), (r_Srule_Set b2 ob2_Rules), (r_Srule_Set (Srule_Set.mk b3_Default b3_Closed b3_Fuel b3_Stack b3_Rules) ob3_Rules), [(.md ((b4_0).map (encM e_Srule_Rule)))]]) := by
  unfold b12_r15
  refine zf (f12_r15_eq ..) ?_
  refine ze ?_
  refine zi fun a1 ha1 => ?_
  refine zo (.cptr (k_Srule_Rule a1)) ?_ (Eq.trans (by kernel_rfl) (xidx_of (o := ox54) (k := .i64) (n := 5) (e := e_Srule_Rule) (cs := c_Srule_Rule) (fun _ => rfl) (fun _ => rfl) (by decide) ha1))
  refine zo (.p (.agg (k_Srule_Rule a1))) ?_
  refine zz (.ptr 5 0) [(r_Srule_Set b0 ob0_Rules), (r_Srule_Delta b1 ob1_Put ob1_Drop), (r_Srule_Set b2 ob2_Rules), (r_Srule_Set (Srule_Set.mk b3_Default b3_Closed b3_Fuel b3_Stack b3_Rules) ob3_Rules), [(.md ((b4_0).map (encM e_Srule_Rule)))], (r_Srule_Rule (Srule_Rule.mk 0 0 0 0 (ByteArray.mk #[])))] ?_
  refine zt [(r_Srule_Set b0 ob0_Rules), (r_Srule_Delta b1 ob1_Put ob1_Drop), (r_Srule_Set b2 ob2_Rules), (r_Srule_Set (Srule_Set.mk b3_Default b3_Closed b3_Fuel b3_Stack b3_Rules) ob3_Rules), [(.md ((b4_0).map (encM e_Srule_Rule)))], (r_Srule_Rule a1)] ?_
  refine ze ?_
  refine zo (.ptr 5 0) ?_
  refine zo (iv a1.ID) ?_
  refine zo (.p (.agg (k_Srule_Rule a1))) ?_
  refine Sim.xupd (B2 := [(r_Srule_Set b0 ob0_Rules), (r_Srule_Delta b1 ob1_Put ob1_Drop), (r_Srule_Set b2 ob2_Rules), (r_Srule_Set (Srule_Set.mk b3_Default b3_Closed b3_Fuel b3_Stack b3_Rules) ob3_Rules), [(.md (((putM b4_0 a1.ID a1)).map (encM e_Srule_Rule)))], (r_Srule_Rule a1)]) (fun K => Eq.trans (b := xupd PP 64 (.mp 4) (iv a1.ID) (.p (.agg (k_Srule_Rule a1))) [(r_Srule_Set b0 ob0_Rules), (r_Srule_Delta b1 ob1_Put ob1_Drop), (r_Srule_Set b2 ob2_Rules), (r_Srule_Set (Srule_Set.mk b3_Default b3_Closed b3_Fuel b3_Stack b3_Rules) ob3_Rules), [(.md ((b4_0).map (encM e_Srule_Rule)))], (r_Srule_Rule a1)] K) (by kernel_rfl) <| xupd_of (P := PP) (t := 64) (K := K) (B2 := [(r_Srule_Set b0 ob0_Rules), (r_Srule_Delta b1 ob1_Put ob1_Drop), (r_Srule_Set b2 ob2_Rules), (r_Srule_Set (Srule_Set.mk b3_Default b3_Closed b3_Fuel b3_Stack b3_Rules) ob3_Rules), [(.md (((putM b4_0 a1.ID a1)).map (encM e_Srule_Rule)))], (r_Srule_Rule a1)]) (e := e_Srule_Rule) (a := a1) (es := b4_0) (te := 43) (by kernel_rfl) (by kernel_rfl) (by kernel_rfl) (by kernel_rfl) (by kernel_rfl)) ?_
  refine ze ?_
  refine zo (iv (IntKind.i64.wrap (x56 + 1))) ?_
  exact zk (g12_l14_to (x54) (x55) ((IntKind.i64.wrap (x56 + 1))) (b0) (b1) (b2) (b3_Default) (b3_Closed) (b3_Fuel) (b3_Stack) (b3_Rules) ((putM b4_0 a1.ID a1)) ox54 ob0_Rules ob1_Put ob1_Drop ob2_Rules ob3_Rules hob2_Rules)
noncomputable def b12_r18 (b1 : Srule_Delta) (b3_Default : Int) (b3_Closed : Int) (b3_Fuel : Int) (b3_Stack : Int) (b4_0 : List (Int × Srule_Rule)) : Option (Srule_Set × Int) :=
 g12_l19 b1.Drop ((b1.Drop.length : Int)) 0 b1 b3_Default b3_Closed b3_Fuel b3_Stack b4_0
theorem g12_r18_sim (b0 : Srule_Set) (b1 : Srule_Delta) (b2 : Srule_Set) (b3_Default : Int) (b3_Closed : Int) (b3_Fuel : Int) (b3_Stack : Int) (b3_Rules : List Srule_Rule) (b4_0 : List (Int × Srule_Rule)) (ob0_Rules : Own) (ob1_Put : Own) (ob1_Drop : Own) (ob2_Rules : Own) (ob3_Rules : Own) (hob2_Rules : okApp ob2_Rules = true) : Sim (Q12) (b12_r18 b1 b3_Default b3_Closed b3_Fuel b3_Stack b4_0) (f12_r18 0 (.ptr 1 0) (.ptr 2 0) (.ptr 3 0) (.mp 4) [(r_Srule_Set b0 ob0_Rules), (r_Srule_Delta b1 ob1_Put ob1_Drop), (r_Srule_Set b2 ob2_Rules), (r_Srule_Set (Srule_Set.mk b3_Default b3_Closed b3_Fuel b3_Stack b3_Rules) ob3_Rules), [(.md ((b4_0).map (encM e_Srule_Rule)))]]) := by
  unfold b12_r18
  refine zf (f12_r18_eq ..) ?_
  refine ze ?_
  refine zo (.ptr 1 5) ?_
  refine zo (.p (.lst (shrO ob1_Drop) (b1.Drop.map (eI .i64)))) ?_
  refine zo (iv (b1.Drop.length : Int)) ?_ (Eq.trans (by kernel_rfl) (xlen_of (P := PP) (t := 25) (d := 3) (by kernel_rfl) (eI .i64) (shrO ob1_Drop) b1.Drop))
  exact zk (g12_l19_to (b1.Drop) ((b1.Drop.length : Int)) (0) (b0) (b1) (b2) (b3_Default) (b3_Closed) (b3_Fuel) (b3_Stack) (b3_Rules) (b4_0) (shrO ob1_Drop) ob0_Rules ob1_Put ob1_Drop ob2_Rules ob3_Rules hob2_Rules)
noncomputable def b12_l14 (x54 : List Srule_Rule) (x55 : Int) (x56 : Int) (b1 : Srule_Delta) (b3_Default : Int) (b3_Closed : Int) (b3_Fuel : Int) (b3_Stack : Int) (b4_0 : List (Int × Srule_Rule)) : Option (Srule_Set × Int) :=
 if ((decide (x56 < x55))) = true then
 (b12_r15 x54 x55 x56 b1 b3_Default b3_Closed b3_Fuel b3_Stack b4_0)
 else
 (b12_r18 b1 b3_Default b3_Closed b3_Fuel b3_Stack b4_0)
theorem g12_l14_sim (x54 : List Srule_Rule) (x55 : Int) (x56 : Int) (b0 : Srule_Set) (b1 : Srule_Delta) (b2 : Srule_Set) (b3_Default : Int) (b3_Closed : Int) (b3_Fuel : Int) (b3_Stack : Int) (b3_Rules : List Srule_Rule) (b4_0 : List (Int × Srule_Rule)) (ox54 : Own) (ob0_Rules : Own) (ob1_Put : Own) (ob1_Drop : Own) (ob2_Rules : Own) (ob3_Rules : Own) (hob2_Rules : okApp ob2_Rules = true) : Sim (Q12) (b12_l14 x54 x55 x56 b1 b3_Default b3_Closed b3_Fuel b3_Stack b4_0) (f12_l14 0 (.ptr 1 0) (.ptr 2 0) (.ptr 3 0) (.mp 4) (.p (.lst ox54 (x54.map e_Srule_Rule))) (iv x55) (iv x56) [(r_Srule_Set b0 ob0_Rules), (r_Srule_Delta b1 ob1_Put ob1_Drop), (r_Srule_Set b2 ob2_Rules), (r_Srule_Set (Srule_Set.mk b3_Default b3_Closed b3_Fuel b3_Stack b3_Rules) ob3_Rules), [(.md ((b4_0).map (encM e_Srule_Rule)))]]) := by
  unfold b12_l14
  refine zf (f12_l14_eq ..) ?_
  refine ze ?_
  refine zo (bv (decide (x56 < x55))) ?_
  refine za ((decide (x56 < x55))) ?_ ?_
  · exact zk (g12_r15_sim (x54) (x55) (x56) (b0) (b1) (b2) (b3_Default) (b3_Closed) (b3_Fuel) (b3_Stack) (b3_Rules) (b4_0) ox54 ob0_Rules ob1_Put ob1_Drop ob2_Rules ob3_Rules hob2_Rules)
  · exact zk (g12_r18_sim (b0) (b1) (b2) (b3_Default) (b3_Closed) (b3_Fuel) (b3_Stack) (b3_Rules) (b4_0) ob0_Rules ob1_Put ob1_Drop ob2_Rules ob3_Rules hob2_Rules)
theorem g12_l14_of (x54 : List Srule_Rule) (x55 : Int) (x56 : Int) (b1 : Srule_Delta) (b3_Default : Int) (b3_Closed : Int) (b3_Fuel : Int) (b3_Stack : Int) (b4_0 : List (Int × Srule_Rule)) {r} (h : b12_l14 x54 x55 x56 b1 b3_Default b3_Closed b3_Fuel b3_Stack b4_0 = some r) : g12_l14 x54 x55 x56 b1 b3_Default b3_Closed b3_Fuel b3_Stack b4_0 = some r :=
  pick_of (fun _ _ ha hb => RRun.uniq (Q12_u) (ha default default default .ex .ex .ex .ex .ex .ex rfl) (hb default default default .ex .ex .ex .ex .ex .ex rfl)) (fun b0 b2 b3_Rules ox54 ob0_Rules ob1_Put ob1_Drop ob2_Rules ob3_Rules hob2_Rules => g12_l14_sim x54 x55 x56 b0 b1 b2 b3_Default b3_Closed b3_Fuel b3_Stack b3_Rules b4_0 ox54 ob0_Rules ob1_Put ob1_Drop ob2_Rules ob3_Rules hob2_Rules r h)
noncomputable def b12_r25 (x66 : List Int) (x67 : Int) (x68 : Int) (b1 : Srule_Delta) (b3_Default : Int) (b3_Closed : Int) (b3_Fuel : Int) (b3_Stack : Int) (b4_0 : List (Int × Srule_Rule)) : Option (Srule_Set × Int) :=
 g12_l19 x66 x67 ((IntKind.i64.wrap (x68 + 1))) b1 b3_Default b3_Closed b3_Fuel b3_Stack b4_0
theorem g12_r25_sim (x66 : List Int) (x67 : Int) (x68 : Int) (b0 : Srule_Set) (b1 : Srule_Delta) (b2 : Srule_Set) (b3_Default : Int) (b3_Closed : Int) (b3_Fuel : Int) (b3_Stack : Int) (b3_Rules : List Srule_Rule) (b4_0 : List (Int × Srule_Rule)) (ox66 : Own) (ob0_Rules : Own) (ob1_Put : Own) (ob1_Drop : Own) (ob2_Rules : Own) (ob3_Rules : Own) (hob2_Rules : okApp ob2_Rules = true) : Sim (Q12) (b12_r25 x66 x67 x68 b1 b3_Default b3_Closed b3_Fuel b3_Stack b4_0) (f12_r25 0 (.ptr 1 0) (.ptr 2 0) (.ptr 3 0) (.mp 4) (.p (.lst ox66 (x66.map (eI .i64)))) (iv x67) (iv x68) [(r_Srule_Set b0 ob0_Rules), (r_Srule_Delta b1 ob1_Put ob1_Drop), (r_Srule_Set b2 ob2_Rules), (r_Srule_Set (Srule_Set.mk b3_Default b3_Closed b3_Fuel b3_Stack b3_Rules) ob3_Rules), [(.md ((b4_0).map (encM e_Srule_Rule)))]]) := by
  unfold b12_r25
  refine zf (f12_r25_eq ..) ?_
  refine ze ?_
  refine zo (iv (IntKind.i64.wrap (x68 + 1))) ?_
  exact zk (g12_l19_to (x66) (x67) ((IntKind.i64.wrap (x68 + 1))) (b0) (b1) (b2) (b3_Default) (b3_Closed) (b3_Fuel) (b3_Stack) (b3_Rules) (b4_0) ox66 ob0_Rules ob1_Put ob1_Drop ob2_Rules ob3_Rules hob2_Rules)
noncomputable def b12_r24 (x11 : Int) (x66 : List Int) (x67 : Int) (x68 : Int) (b1 : Srule_Delta) (b3_Default : Int) (b3_Closed : Int) (b3_Fuel : Int) (b3_Stack : Int) (b4_0 : List (Int × Srule_Rule)) : Option (Srule_Set × Int) :=
 b12_r25 x66 x67 x68 b1 b3_Default b3_Closed b3_Fuel b3_Stack ((delM b4_0 x11))
theorem g12_r24_sim (x11 : Int) (x66 : List Int) (x67 : Int) (x68 : Int) (b0 : Srule_Set) (b1 : Srule_Delta) (b2 : Srule_Set) (b3_Default : Int) (b3_Closed : Int) (b3_Fuel : Int) (b3_Stack : Int) (b3_Rules : List Srule_Rule) (b4_0 : List (Int × Srule_Rule)) (ox66 : Own) (ob0_Rules : Own) (ob1_Put : Own) (ob1_Drop : Own) (ob2_Rules : Own) (ob3_Rules : Own) (hob2_Rules : okApp ob2_Rules = true) : Sim (Q12) (b12_r24 x11 x66 x67 x68 b1 b3_Default b3_Closed b3_Fuel b3_Stack b4_0) (f12_r24 0 (.ptr 1 0) (.ptr 2 0) (.ptr 3 0) (.mp 4) (iv x11) (.p (.lst ox66 (x66.map (eI .i64)))) (iv x67) (iv x68) [(r_Srule_Set b0 ob0_Rules), (r_Srule_Delta b1 ob1_Put ob1_Drop), (r_Srule_Set b2 ob2_Rules), (r_Srule_Set (Srule_Set.mk b3_Default b3_Closed b3_Fuel b3_Stack b3_Rules) ob3_Rules), [(.md ((b4_0).map (encM e_Srule_Rule)))]]) := by
  unfold b12_r24
  refine zf (f12_r24_eq ..) ?_
  refine ze ?_
  refine Sim.xdel (B2 := [(r_Srule_Set b0 ob0_Rules), (r_Srule_Delta b1 ob1_Put ob1_Drop), (r_Srule_Set b2 ob2_Rules), (r_Srule_Set (Srule_Set.mk b3_Default b3_Closed b3_Fuel b3_Stack b3_Rules) ob3_Rules), [(.md (((delM b4_0 x11)).map (encM e_Srule_Rule)))]]) (fun K => Eq.trans (b := xdel PP 64 (.mp 4) (iv x11) [(r_Srule_Set b0 ob0_Rules), (r_Srule_Delta b1 ob1_Put ob1_Drop), (r_Srule_Set b2 ob2_Rules), (r_Srule_Set (Srule_Set.mk b3_Default b3_Closed b3_Fuel b3_Stack b3_Rules) ob3_Rules), [(.md ((b4_0).map (encM e_Srule_Rule)))]] K) (by kernel_rfl) <| xdel_of (P := PP) (t := 64) (K := K) (B2 := [(r_Srule_Set b0 ob0_Rules), (r_Srule_Delta b1 ob1_Put ob1_Drop), (r_Srule_Set b2 ob2_Rules), (r_Srule_Set (Srule_Set.mk b3_Default b3_Closed b3_Fuel b3_Stack b3_Rules) ob3_Rules), [(.md (((delM b4_0 x11)).map (encM e_Srule_Rule)))]]) (e := e_Srule_Rule) (es := b4_0) (te := 43) (by kernel_rfl) (by kernel_rfl) (by kernel_rfl)) ?_
  exact zk (g12_r25_sim (x66) (x67) (x68) (b0) (b1) (b2) (b3_Default) (b3_Closed) (b3_Fuel) (b3_Stack) (b3_Rules) ((delM b4_0 x11)) ox66 ob0_Rules ob1_Put ob1_Drop ob2_Rules ob3_Rules hob2_Rules)
noncomputable def b12_r20 (x66 : List Int) (x67 : Int) (x68 : Int) (b1 : Srule_Delta) (b3_Default : Int) (b3_Closed : Int) (b3_Fuel : Int) (b3_Stack : Int) (b4_0 : List (Int × Srule_Rule)) : Option (Srule_Set × Int) :=
 (lget x66 x68).bind fun a1 =>
 if ((!(getM b4_0 a1).isSome)) = true then
 (some ((Srule_Set.mk 0 0 0 0 ([] : List Srule_Rule)), 32))
 else
 (b12_r24 a1 x66 x67 x68 b1 b3_Default b3_Closed b3_Fuel b3_Stack b4_0)
theorem g12_r20_sim (x66 : List Int) (x67 : Int) (x68 : Int) (b0 : Srule_Set) (b1 : Srule_Delta) (b2 : Srule_Set) (b3_Default : Int) (b3_Closed : Int) (b3_Fuel : Int) (b3_Stack : Int) (b3_Rules : List Srule_Rule) (b4_0 : List (Int × Srule_Rule)) (ox66 : Own) (ob0_Rules : Own) (ob1_Put : Own) (ob1_Drop : Own) (ob2_Rules : Own) (ob3_Rules : Own) (hob2_Rules : okApp ob2_Rules = true) : Sim (Q12) (b12_r20 x66 x67 x68 b1 b3_Default b3_Closed b3_Fuel b3_Stack b4_0) (f12_r20 0 (.ptr 1 0) (.ptr 2 0) (.ptr 3 0) (.mp 4) (.p (.lst ox66 (x66.map (eI .i64)))) (iv x67) (iv x68) [(r_Srule_Set b0 ob0_Rules), (r_Srule_Delta b1 ob1_Put ob1_Drop), (r_Srule_Set b2 ob2_Rules), (r_Srule_Set (Srule_Set.mk b3_Default b3_Closed b3_Fuel b3_Stack b3_Rules) ob3_Rules), [(.md ((b4_0).map (encM e_Srule_Rule)))]]) := by
  unfold b12_r20
  refine zf (f12_r20_eq ..) ?_
  refine ze ?_
  refine zi fun a1 ha1 => ?_
  refine zo (.cptr [(.v (.int .i64 a1))]) ?_ (Eq.trans (by kernel_rfl) (xidx_of (o := ox66) (k := .i64) (n := 1) (e := (eI .i64)) (cs := (fun a => [(eI .i64) a])) (fun _ => rfl) (fun _ => rfl) (by decide) ha1))
  refine zo (iv a1) ?_
  refine ze ?_
  refine zo (.p (.tup [(.agg (k_Srule_Rule ((getM b4_0 a1).getD (Srule_Rule.mk 0 0 0 0 (ByteArray.mk #[]))))), (.v (.bool (getM b4_0 a1).isSome))])) ?_ (Eq.trans (b := xlook PP 64 true (.mp 4) (iv a1) [(r_Srule_Set b0 ob0_Rules), (r_Srule_Delta b1 ob1_Put ob1_Drop), (r_Srule_Set b2 ob2_Rules), (r_Srule_Set (Srule_Set.mk b3_Default b3_Closed b3_Fuel b3_Stack b3_Rules) ob3_Rules), [(.md ((b4_0).map (encM e_Srule_Rule)))]]) (by kernel_rfl) <| (xlook_of (e := e_Srule_Rule) (z := (Srule_Rule.mk 0 0 0 0 (ByteArray.mk #[]))) (es := b4_0) (te := 43) (by kernel_rfl) (by kernel_rfl) (by kernel_rfl) true).trans (by kernel_rfl))
  refine zo (.p (.agg (k_Srule_Rule ((getM b4_0 a1).getD (Srule_Rule.mk 0 0 0 0 (ByteArray.mk #[])))))) ?_
  refine zo (bv (getM b4_0 a1).isSome) ?_
  refine zz (.ptr 5 0) [(r_Srule_Set b0 ob0_Rules), (r_Srule_Delta b1 ob1_Put ob1_Drop), (r_Srule_Set b2 ob2_Rules), (r_Srule_Set (Srule_Set.mk b3_Default b3_Closed b3_Fuel b3_Stack b3_Rules) ob3_Rules), [(.md ((b4_0).map (encM e_Srule_Rule)))], (r_Srule_Rule (Srule_Rule.mk 0 0 0 0 (ByteArray.mk #[])))] ?_
  refine zt [(r_Srule_Set b0 ob0_Rules), (r_Srule_Delta b1 ob1_Put ob1_Drop), (r_Srule_Set b2 ob2_Rules), (r_Srule_Set (Srule_Set.mk b3_Default b3_Closed b3_Fuel b3_Stack b3_Rules) ob3_Rules), [(.md ((b4_0).map (encM e_Srule_Rule)))], (r_Srule_Rule ((getM b4_0 a1).getD (Srule_Rule.mk 0 0 0 0 (ByteArray.mk #[]))))] ?_
  refine ze ?_
  refine zo (bv (!(getM b4_0 a1).isSome)) ?_
  refine za ((!(getM b4_0 a1).isSome)) ?_ ?_
  · refine ze ?_
    refine zo (.p (.agg (k_Srule_Set (Srule_Set.mk 0 0 0 0 ([] : List Srule_Rule)) .nl))) ?_
    refine zt [(r_Srule_Set b0 ob0_Rules), (r_Srule_Delta b1 ob1_Put ob1_Drop), (r_Srule_Set (Srule_Set.mk 0 0 0 0 ([] : List Srule_Rule)) .nl), (r_Srule_Set (Srule_Set.mk b3_Default b3_Closed b3_Fuel b3_Stack b3_Rules) ob3_Rules), [(.md ((b4_0).map (encM e_Srule_Rule)))], (r_Srule_Rule ((getM b4_0 a1).getD (Srule_Rule.mk 0 0 0 0 (ByteArray.mk #[]))))] ?_
    exact zr ((.p (.tup [(.agg (k_Srule_Set (Srule_Set.mk 0 0 0 0 ([] : List Srule_Rule)) .sh)), (.v (.int .i64 32))])), [(r_Srule_Set b0 ob0_Rules), (r_Srule_Delta b1 ob1_Put ob1_Drop), (r_Srule_Set (Srule_Set.mk 0 0 0 0 ([] : List Srule_Rule)) .nl), (r_Srule_Set (Srule_Set.mk b3_Default b3_Closed b3_Fuel b3_Stack b3_Rules) ob3_Rules), [(.md ((b4_0).map (encM e_Srule_Rule)))], (r_Srule_Rule ((getM b4_0 a1).getD (Srule_Rule.mk 0 0 0 0 (ByteArray.mk #[]))))]) ⟨_, rfl⟩
  · exact zk (g12_r24_sim (a1) (x66) (x67) (x68) (b0) (b1) (b2) (b3_Default) (b3_Closed) (b3_Fuel) (b3_Stack) (b3_Rules) (b4_0) ox66 ob0_Rules ob1_Put ob1_Drop ob2_Rules ob3_Rules hob2_Rules)
noncomputable def b12_r26 (b1 : Srule_Delta) (b3_Default : Int) (b3_Closed : Int) (b3_Fuel : Int) (b3_Stack : Int) (b4_0 : List (Int × Srule_Rule)) : Option (Srule_Set × Int) :=
 g12_l27 b1.Put ((b1.Put.length : Int)) 0 b3_Default b3_Closed b3_Fuel b3_Stack b4_0
theorem g12_r26_sim (b0 : Srule_Set) (b1 : Srule_Delta) (b2 : Srule_Set) (b3_Default : Int) (b3_Closed : Int) (b3_Fuel : Int) (b3_Stack : Int) (b3_Rules : List Srule_Rule) (b4_0 : List (Int × Srule_Rule)) (ob0_Rules : Own) (ob1_Put : Own) (ob1_Drop : Own) (ob2_Rules : Own) (ob3_Rules : Own) (hob2_Rules : okApp ob2_Rules = true) : Sim (Q12) (b12_r26 b1 b3_Default b3_Closed b3_Fuel b3_Stack b4_0) (f12_r26 0 (.ptr 1 0) (.ptr 2 0) (.ptr 3 0) (.mp 4) [(r_Srule_Set b0 ob0_Rules), (r_Srule_Delta b1 ob1_Put ob1_Drop), (r_Srule_Set b2 ob2_Rules), (r_Srule_Set (Srule_Set.mk b3_Default b3_Closed b3_Fuel b3_Stack b3_Rules) ob3_Rules), [(.md ((b4_0).map (encM e_Srule_Rule)))]]) := by
  unfold b12_r26
  refine zf (f12_r26_eq ..) ?_
  refine ze ?_
  refine zo (.ptr 1 4) ?_
  refine zo (.p (.lst (shrO ob1_Put) (b1.Put.map e_Srule_Rule))) ?_
  refine zo (iv (b1.Put.length : Int)) ?_ (Eq.trans (by kernel_rfl) (xlen_of (P := PP) (t := 22) (d := 43) (by kernel_rfl) e_Srule_Rule (shrO ob1_Put) b1.Put))
  exact zk (g12_l27_to (b1.Put) ((b1.Put.length : Int)) (0) (b0) (b1) (b2) (b3_Default) (b3_Closed) (b3_Fuel) (b3_Stack) (b3_Rules) (b4_0) (shrO ob1_Put) ob0_Rules ob1_Put ob1_Drop ob2_Rules ob3_Rules hob2_Rules)
noncomputable def b12_l19 (x66 : List Int) (x67 : Int) (x68 : Int) (b1 : Srule_Delta) (b3_Default : Int) (b3_Closed : Int) (b3_Fuel : Int) (b3_Stack : Int) (b4_0 : List (Int × Srule_Rule)) : Option (Srule_Set × Int) :=
 if ((decide (x68 < x67))) = true then
 (b12_r20 x66 x67 x68 b1 b3_Default b3_Closed b3_Fuel b3_Stack b4_0)
 else
 (b12_r26 b1 b3_Default b3_Closed b3_Fuel b3_Stack b4_0)
theorem g12_l19_sim (x66 : List Int) (x67 : Int) (x68 : Int) (b0 : Srule_Set) (b1 : Srule_Delta) (b2 : Srule_Set) (b3_Default : Int) (b3_Closed : Int) (b3_Fuel : Int) (b3_Stack : Int) (b3_Rules : List Srule_Rule) (b4_0 : List (Int × Srule_Rule)) (ox66 : Own) (ob0_Rules : Own) (ob1_Put : Own) (ob1_Drop : Own) (ob2_Rules : Own) (ob3_Rules : Own) (hob2_Rules : okApp ob2_Rules = true) : Sim (Q12) (b12_l19 x66 x67 x68 b1 b3_Default b3_Closed b3_Fuel b3_Stack b4_0) (f12_l19 0 (.ptr 1 0) (.ptr 2 0) (.ptr 3 0) (.mp 4) (.p (.lst ox66 (x66.map (eI .i64)))) (iv x67) (iv x68) [(r_Srule_Set b0 ob0_Rules), (r_Srule_Delta b1 ob1_Put ob1_Drop), (r_Srule_Set b2 ob2_Rules), (r_Srule_Set (Srule_Set.mk b3_Default b3_Closed b3_Fuel b3_Stack b3_Rules) ob3_Rules), [(.md ((b4_0).map (encM e_Srule_Rule)))]]) := by
  unfold b12_l19
  refine zf (f12_l19_eq ..) ?_
  refine ze ?_
  refine zo (bv (decide (x68 < x67))) ?_
  refine za ((decide (x68 < x67))) ?_ ?_
  · exact zk (g12_r20_sim (x66) (x67) (x68) (b0) (b1) (b2) (b3_Default) (b3_Closed) (b3_Fuel) (b3_Stack) (b3_Rules) (b4_0) ox66 ob0_Rules ob1_Put ob1_Drop ob2_Rules ob3_Rules hob2_Rules)
  · exact zk (g12_r26_sim (b0) (b1) (b2) (b3_Default) (b3_Closed) (b3_Fuel) (b3_Stack) (b3_Rules) (b4_0) ob0_Rules ob1_Put ob1_Drop ob2_Rules ob3_Rules hob2_Rules)
theorem g12_l19_of (x66 : List Int) (x67 : Int) (x68 : Int) (b1 : Srule_Delta) (b3_Default : Int) (b3_Closed : Int) (b3_Fuel : Int) (b3_Stack : Int) (b4_0 : List (Int × Srule_Rule)) {r} (h : b12_l19 x66 x67 x68 b1 b3_Default b3_Closed b3_Fuel b3_Stack b4_0 = some r) : g12_l19 x66 x67 x68 b1 b3_Default b3_Closed b3_Fuel b3_Stack b4_0 = some r :=
  pick_of (fun _ _ ha hb => RRun.uniq (Q12_u) (ha default default default .ex .ex .ex .ex .ex .ex rfl) (hb default default default .ex .ex .ex .ex .ex .ex rfl)) (fun b0 b2 b3_Rules ox66 ob0_Rules ob1_Put ob1_Drop ob2_Rules ob3_Rules hob2_Rules => g12_l19_sim x66 x67 x68 b0 b1 b2 b3_Default b3_Closed b3_Fuel b3_Stack b3_Rules b4_0 ox66 ob0_Rules ob1_Put ob1_Drop ob2_Rules ob3_Rules hob2_Rules r h)
noncomputable def b12_r28 (x85 : List Srule_Rule) (x86 : Int) (x87 : Int) (b3_Default : Int) (b3_Closed : Int) (b3_Fuel : Int) (b3_Stack : Int) (b4_0 : List (Int × Srule_Rule)) : Option (Srule_Set × Int) :=
 (lget x85 x87).bind fun a1 =>
 g12_l27 x85 x86 ((IntKind.i64.wrap (x87 + 1))) b3_Default b3_Closed b3_Fuel b3_Stack ((putM b4_0 a1.ID a1))
theorem g12_r28_sim (x85 : List Srule_Rule) (x86 : Int) (x87 : Int) (b0 : Srule_Set) (b1 : Srule_Delta) (b2 : Srule_Set) (b3_Default : Int) (b3_Closed : Int) (b3_Fuel : Int) (b3_Stack : Int) (b3_Rules : List Srule_Rule) (b4_0 : List (Int × Srule_Rule)) (ox85 : Own) (ob0_Rules : Own) (ob1_Put : Own) (ob1_Drop : Own) (ob2_Rules : Own) (ob3_Rules : Own) (hob2_Rules : okApp ob2_Rules = true) : Sim (Q12) (b12_r28 x85 x86 x87 b3_Default b3_Closed b3_Fuel b3_Stack b4_0) (f12_r28 0 (.ptr 2 0) (.ptr 3 0) (.mp 4) (.p (.lst ox85 (x85.map e_Srule_Rule))) (iv x86) (iv x87) [(r_Srule_Set b0 ob0_Rules), (r_Srule_Delta b1 ob1_Put ob1_Drop), (r_Srule_Set b2 ob2_Rules), (r_Srule_Set (Srule_Set.mk b3_Default b3_Closed b3_Fuel b3_Stack b3_Rules) ob3_Rules), [(.md ((b4_0).map (encM e_Srule_Rule)))]]) := by
  unfold b12_r28
  refine zf (f12_r28_eq ..) ?_
  refine ze ?_
  refine zi fun a1 ha1 => ?_
  refine zo (.cptr (k_Srule_Rule a1)) ?_ (Eq.trans (by kernel_rfl) (xidx_of (o := ox85) (k := .i64) (n := 5) (e := e_Srule_Rule) (cs := c_Srule_Rule) (fun _ => rfl) (fun _ => rfl) (by decide) ha1))
  refine zo (.p (.agg (k_Srule_Rule a1))) ?_
  refine zz (.ptr 5 0) [(r_Srule_Set b0 ob0_Rules), (r_Srule_Delta b1 ob1_Put ob1_Drop), (r_Srule_Set b2 ob2_Rules), (r_Srule_Set (Srule_Set.mk b3_Default b3_Closed b3_Fuel b3_Stack b3_Rules) ob3_Rules), [(.md ((b4_0).map (encM e_Srule_Rule)))], (r_Srule_Rule (Srule_Rule.mk 0 0 0 0 (ByteArray.mk #[])))] ?_
  refine zt [(r_Srule_Set b0 ob0_Rules), (r_Srule_Delta b1 ob1_Put ob1_Drop), (r_Srule_Set b2 ob2_Rules), (r_Srule_Set (Srule_Set.mk b3_Default b3_Closed b3_Fuel b3_Stack b3_Rules) ob3_Rules), [(.md ((b4_0).map (encM e_Srule_Rule)))], (r_Srule_Rule a1)] ?_
  refine ze ?_
  refine zo (.ptr 5 0) ?_
  refine zo (iv a1.ID) ?_
  refine zo (.p (.agg (k_Srule_Rule a1))) ?_
  refine Sim.xupd (B2 := [(r_Srule_Set b0 ob0_Rules), (r_Srule_Delta b1 ob1_Put ob1_Drop), (r_Srule_Set b2 ob2_Rules), (r_Srule_Set (Srule_Set.mk b3_Default b3_Closed b3_Fuel b3_Stack b3_Rules) ob3_Rules), [(.md (((putM b4_0 a1.ID a1)).map (encM e_Srule_Rule)))], (r_Srule_Rule a1)]) (fun K => Eq.trans (b := xupd PP 64 (.mp 4) (iv a1.ID) (.p (.agg (k_Srule_Rule a1))) [(r_Srule_Set b0 ob0_Rules), (r_Srule_Delta b1 ob1_Put ob1_Drop), (r_Srule_Set b2 ob2_Rules), (r_Srule_Set (Srule_Set.mk b3_Default b3_Closed b3_Fuel b3_Stack b3_Rules) ob3_Rules), [(.md ((b4_0).map (encM e_Srule_Rule)))], (r_Srule_Rule a1)] K) (by kernel_rfl) <| xupd_of (P := PP) (t := 64) (K := K) (B2 := [(r_Srule_Set b0 ob0_Rules), (r_Srule_Delta b1 ob1_Put ob1_Drop), (r_Srule_Set b2 ob2_Rules), (r_Srule_Set (Srule_Set.mk b3_Default b3_Closed b3_Fuel b3_Stack b3_Rules) ob3_Rules), [(.md (((putM b4_0 a1.ID a1)).map (encM e_Srule_Rule)))], (r_Srule_Rule a1)]) (e := e_Srule_Rule) (a := a1) (es := b4_0) (te := 43) (by kernel_rfl) (by kernel_rfl) (by kernel_rfl) (by kernel_rfl) (by kernel_rfl)) ?_
  refine ze ?_
  refine zo (iv (IntKind.i64.wrap (x87 + 1))) ?_
  exact zk (g12_l27_to (x85) (x86) ((IntKind.i64.wrap (x87 + 1))) (b0) (b1) (b2) (b3_Default) (b3_Closed) (b3_Fuel) (b3_Stack) (b3_Rules) ((putM b4_0 a1.ID a1)) ox85 ob0_Rules ob1_Put ob1_Drop ob2_Rules ob3_Rules hob2_Rules)
noncomputable def b12_r33 (b3_Default : Int) (b3_Closed : Int) (b3_Fuel : Int) (b3_Stack : Int) (b4_0 : List (Int × Srule_Rule)) : Option (Srule_Set × Int) :=
 (g31).bind fun r1 =>
 (g30 b4_0).bind fun r2 =>
 g12_l35 r2 ((r2.length : Int)) 0 b3_Default b3_Closed b3_Fuel b3_Stack (([] : List Srule_Rule)) b4_0
theorem g12_r33_sim (b0 : Srule_Set) (b1 : Srule_Delta) (b2 : Srule_Set) (b3_Default : Int) (b3_Closed : Int) (b3_Fuel : Int) (b3_Stack : Int) (b3_Rules : List Srule_Rule) (b4_0 : List (Int × Srule_Rule)) (ob0_Rules : Own) (ob1_Put : Own) (ob1_Drop : Own) (ob2_Rules : Own) (ob3_Rules : Own) (hob2_Rules : okApp ob2_Rules = true) : Sim (Q12) (b12_r33 b3_Default b3_Closed b3_Fuel b3_Stack b4_0) (f12_r33 0 (.ptr 2 0) (.ptr 3 0) (.mp 4) [(r_Srule_Set b0 ob0_Rules), (r_Srule_Delta b1 ob1_Put ob1_Drop), (r_Srule_Set b2 ob2_Rules), (r_Srule_Set (Srule_Set.mk b3_Default b3_Closed b3_Fuel b3_Stack b3_Rules) ob3_Rules), [(.md ((b4_0).map (encM e_Srule_Rule)))]]) := by
  unfold b12_r33
  refine zf (f12_r33_eq ..) ?_
  refine ze ?_
  refine zo (.ptr 3 4) ?_
  refine zt [(r_Srule_Set b0 ob0_Rules), (r_Srule_Delta b1 ob1_Put ob1_Drop), (r_Srule_Set b2 ob2_Rules), (r_Srule_Set (Srule_Set.mk b3_Default b3_Closed b3_Fuel b3_Stack ([] : List Srule_Rule)) .nl), [(.md ((b4_0).map (encM e_Srule_Rule)))]] ?_
  refine ze ?_
  refine zi fun r1 hr1 => ?_
  obtain ⟨qr1, er1, exr1, rfl, _⟩ := g31_to (b4_0) r1 hr1
  refine zc [4] (.clo 49 [] [(.ptr 5 0)]) [(r_Srule_Set b0 ob0_Rules), (r_Srule_Delta b1 ob1_Put ob1_Drop), (r_Srule_Set b2 ob2_Rules), (r_Srule_Set (Srule_Set.mk b3_Default b3_Closed b3_Fuel b3_Stack ([] : List Srule_Rule)) .nl), [(.md ((b4_0).map (encM e_Srule_Rule)))], [(.mp 4)]] er1 ?_
  refine zi fun r2 hr2 => ?_
  obtain ⟨qr2, er2, exr2, rfl⟩ := g30_to (b4_0) r2 hr2
  refine zc [5, 4] (.p (.lst .sh (r2.map (eI .i64)))) [(r_Srule_Set b0 ob0_Rules), (r_Srule_Delta b1 ob1_Put ob1_Drop), (r_Srule_Set b2 ob2_Rules), (r_Srule_Set (Srule_Set.mk b3_Default b3_Closed b3_Fuel b3_Stack ([] : List Srule_Rule)) .nl), [(.md ((b4_0).map (encM e_Srule_Rule)))], [(.mp 4)]] er2 ?_
  refine zo (iv (r2.length : Int)) ?_ (Eq.trans (by kernel_rfl) (xlen_of (P := PP) (t := 25) (d := 3) (by kernel_rfl) (eI .i64) .sh r2))
  exact zk (g12_l35_to (r2) ((r2.length : Int)) (0) (b0) (b1) (b2) (b3_Default) (b3_Closed) (b3_Fuel) (b3_Stack) (([] : List Srule_Rule)) (b4_0) .sh ob0_Rules ob1_Put ob1_Drop ob2_Rules .nl hob2_Rules rfl)
noncomputable def b12_r31 (b3_Default : Int) (b3_Closed : Int) (b3_Fuel : Int) (b3_Stack : Int) (b4_0 : List (Int × Srule_Rule)) : Option (Srule_Set × Int) :=
 if ((decide (16 < (b4_0.length : Int)))) = true then
 (some ((Srule_Set.mk 0 0 0 0 ([] : List Srule_Rule)), 33))
 else
 (b12_r33 b3_Default b3_Closed b3_Fuel b3_Stack b4_0)
theorem g12_r31_sim (b0 : Srule_Set) (b1 : Srule_Delta) (b2 : Srule_Set) (b3_Default : Int) (b3_Closed : Int) (b3_Fuel : Int) (b3_Stack : Int) (b3_Rules : List Srule_Rule) (b4_0 : List (Int × Srule_Rule)) (ob0_Rules : Own) (ob1_Put : Own) (ob1_Drop : Own) (ob2_Rules : Own) (ob3_Rules : Own) (hob2_Rules : okApp ob2_Rules = true) : Sim (Q12) (b12_r31 b3_Default b3_Closed b3_Fuel b3_Stack b4_0) (f12_r31 0 (.ptr 2 0) (.ptr 3 0) (.mp 4) [(r_Srule_Set b0 ob0_Rules), (r_Srule_Delta b1 ob1_Put ob1_Drop), (r_Srule_Set b2 ob2_Rules), (r_Srule_Set (Srule_Set.mk b3_Default b3_Closed b3_Fuel b3_Stack b3_Rules) ob3_Rules), [(.md ((b4_0).map (encM e_Srule_Rule)))]]) := by
  unfold b12_r31
  refine zf (f12_r31_eq ..) ?_
  refine ze ?_
  refine zo (iv (b4_0.length : Int)) ?_ (Eq.trans (b := xmlen (.mp 4) [(r_Srule_Set b0 ob0_Rules), (r_Srule_Delta b1 ob1_Put ob1_Drop), (r_Srule_Set b2 ob2_Rules), (r_Srule_Set (Srule_Set.mk b3_Default b3_Closed b3_Fuel b3_Stack b3_Rules) ob3_Rules), [(.md ((b4_0).map (encM e_Srule_Rule)))]]) (by kernel_rfl) (xmlen_of (e := e_Srule_Rule) (es := b4_0) (by kernel_rfl)))
  refine zo (bv (decide (16 < (b4_0.length : Int)))) ?_
  refine za ((decide (16 < (b4_0.length : Int)))) ?_ ?_
  · refine ze ?_
    refine zo (.p (.agg (k_Srule_Set (Srule_Set.mk 0 0 0 0 ([] : List Srule_Rule)) .nl))) ?_
    refine zt [(r_Srule_Set b0 ob0_Rules), (r_Srule_Delta b1 ob1_Put ob1_Drop), (r_Srule_Set (Srule_Set.mk 0 0 0 0 ([] : List Srule_Rule)) .nl), (r_Srule_Set (Srule_Set.mk b3_Default b3_Closed b3_Fuel b3_Stack b3_Rules) ob3_Rules), [(.md ((b4_0).map (encM e_Srule_Rule)))]] ?_
    exact zr ((.p (.tup [(.agg (k_Srule_Set (Srule_Set.mk 0 0 0 0 ([] : List Srule_Rule)) .sh)), (.v (.int .i64 33))])), [(r_Srule_Set b0 ob0_Rules), (r_Srule_Delta b1 ob1_Put ob1_Drop), (r_Srule_Set (Srule_Set.mk 0 0 0 0 ([] : List Srule_Rule)) .nl), (r_Srule_Set (Srule_Set.mk b3_Default b3_Closed b3_Fuel b3_Stack b3_Rules) ob3_Rules), [(.md ((b4_0).map (encM e_Srule_Rule)))]]) ⟨_, rfl⟩
  · exact zk (g12_r33_sim (b0) (b1) (b2) (b3_Default) (b3_Closed) (b3_Fuel) (b3_Stack) (b3_Rules) (b4_0) ob0_Rules ob1_Put ob1_Drop ob2_Rules ob3_Rules hob2_Rules)
noncomputable def b12_l27 (x85 : List Srule_Rule) (x86 : Int) (x87 : Int) (b3_Default : Int) (b3_Closed : Int) (b3_Fuel : Int) (b3_Stack : Int) (b4_0 : List (Int × Srule_Rule)) : Option (Srule_Set × Int) :=
 if ((decide (x87 < x86))) = true then
 (b12_r28 x85 x86 x87 b3_Default b3_Closed b3_Fuel b3_Stack b4_0)
 else
 (b12_r31 b3_Default b3_Closed b3_Fuel b3_Stack b4_0)
theorem g12_l27_sim (x85 : List Srule_Rule) (x86 : Int) (x87 : Int) (b0 : Srule_Set) (b1 : Srule_Delta) (b2 : Srule_Set) (b3_Default : Int) (b3_Closed : Int) (b3_Fuel : Int) (b3_Stack : Int) (b3_Rules : List Srule_Rule) (b4_0 : List (Int × Srule_Rule)) (ox85 : Own) (ob0_Rules : Own) (ob1_Put : Own) (ob1_Drop : Own) (ob2_Rules : Own) (ob3_Rules : Own) (hob2_Rules : okApp ob2_Rules = true) : Sim (Q12) (b12_l27 x85 x86 x87 b3_Default b3_Closed b3_Fuel b3_Stack b4_0) (f12_l27 0 (.ptr 2 0) (.ptr 3 0) (.mp 4) (.p (.lst ox85 (x85.map e_Srule_Rule))) (iv x86) (iv x87) [(r_Srule_Set b0 ob0_Rules), (r_Srule_Delta b1 ob1_Put ob1_Drop), (r_Srule_Set b2 ob2_Rules), (r_Srule_Set (Srule_Set.mk b3_Default b3_Closed b3_Fuel b3_Stack b3_Rules) ob3_Rules), [(.md ((b4_0).map (encM e_Srule_Rule)))]]) := by
  unfold b12_l27
  refine zf (f12_l27_eq ..) ?_
  refine ze ?_
  refine zo (bv (decide (x87 < x86))) ?_
  refine za ((decide (x87 < x86))) ?_ ?_
  · exact zk (g12_r28_sim (x85) (x86) (x87) (b0) (b1) (b2) (b3_Default) (b3_Closed) (b3_Fuel) (b3_Stack) (b3_Rules) (b4_0) ox85 ob0_Rules ob1_Put ob1_Drop ob2_Rules ob3_Rules hob2_Rules)
  · exact zk (g12_r31_sim (b0) (b1) (b2) (b3_Default) (b3_Closed) (b3_Fuel) (b3_Stack) (b3_Rules) (b4_0) ob0_Rules ob1_Put ob1_Drop ob2_Rules ob3_Rules hob2_Rules)
theorem g12_l27_of (x85 : List Srule_Rule) (x86 : Int) (x87 : Int) (b3_Default : Int) (b3_Closed : Int) (b3_Fuel : Int) (b3_Stack : Int) (b4_0 : List (Int × Srule_Rule)) {r} (h : b12_l27 x85 x86 x87 b3_Default b3_Closed b3_Fuel b3_Stack b4_0 = some r) : g12_l27 x85 x86 x87 b3_Default b3_Closed b3_Fuel b3_Stack b4_0 = some r :=
  pick_of (fun _ _ ha hb => RRun.uniq (Q12_u) (ha default default default default .ex .ex .ex .ex .ex .ex rfl) (hb default default default default .ex .ex .ex .ex .ex .ex rfl)) (fun b0 b1 b2 b3_Rules ox85 ob0_Rules ob1_Put ob1_Drop ob2_Rules ob3_Rules hob2_Rules => g12_l27_sim x85 x86 x87 b0 b1 b2 b3_Default b3_Closed b3_Fuel b3_Stack b3_Rules b4_0 ox85 ob0_Rules ob1_Put ob1_Drop ob2_Rules ob3_Rules hob2_Rules r h)
noncomputable def b12_r36 (x103 : List Int) (x104 : Int) (x105 : Int) (b3_Default : Int) (b3_Closed : Int) (b3_Fuel : Int) (b3_Stack : Int) (b3_Rules : List Srule_Rule) (b4_0 : List (Int × Srule_Rule)) : Option (Srule_Set × Int) :=
 (lget x103 x105).bind fun a1 =>
 (lapp b3_Rules ([((getM b4_0 a1).getD (Srule_Rule.mk 0 0 0 0 (ByteArray.mk #[])))] : List Srule_Rule)).bind fun a2 =>
 g12_l35 x103 x104 ((IntKind.i64.wrap (x105 + 1))) b3_Default b3_Closed b3_Fuel b3_Stack a2 b4_0
theorem g12_r36_sim (x103 : List Int) (x104 : Int) (x105 : Int) (b0 : Srule_Set) (b1 : Srule_Delta) (b2 : Srule_Set) (b3_Default : Int) (b3_Closed : Int) (b3_Fuel : Int) (b3_Stack : Int) (b3_Rules : List Srule_Rule) (b4_0 : List (Int × Srule_Rule)) (ox103 : Own) (ob0_Rules : Own) (ob1_Put : Own) (ob1_Drop : Own) (ob2_Rules : Own) (ob3_Rules : Own) (hob2_Rules : okApp ob2_Rules = true) (hob3_Rules : okApp ob3_Rules = true) : Sim (Q12) (b12_r36 x103 x104 x105 b3_Default b3_Closed b3_Fuel b3_Stack b3_Rules b4_0) (f12_r36 0 (.ptr 2 0) (.ptr 3 0) (.mp 4) (.p (.lst ox103 (x103.map (eI .i64)))) (iv x104) (iv x105) [(r_Srule_Set b0 ob0_Rules), (r_Srule_Delta b1 ob1_Put ob1_Drop), (r_Srule_Set b2 ob2_Rules), (r_Srule_Set (Srule_Set.mk b3_Default b3_Closed b3_Fuel b3_Stack b3_Rules) ob3_Rules), [(.md ((b4_0).map (encM e_Srule_Rule)))]]) := by
  unfold b12_r36
  refine zf (f12_r36_eq ..) ?_
  refine ze ?_
  refine zi fun a1 ha1 => ?_
  refine zo (.cptr [(.v (.int .i64 a1))]) ?_ (Eq.trans (by kernel_rfl) (xidx_of (o := ox103) (k := .i64) (n := 1) (e := (eI .i64)) (cs := (fun a => [(eI .i64) a])) (fun _ => rfl) (fun _ => rfl) (by decide) ha1))
  refine zo (iv a1) ?_
  refine ze ?_
  refine zo (.ptr 3 4) ?_
  refine zw (.p (.lst ob3_Rules (b3_Rules.map e_Srule_Rule))) [(r_Srule_Set b0 ob0_Rules), (r_Srule_Delta b1 ob1_Put ob1_Drop), (r_Srule_Set b2 ob2_Rules), (r_Srule_Set (Srule_Set.mk b3_Default b3_Closed b3_Fuel b3_Stack b3_Rules) (shrO ob3_Rules)), [(.md ((b4_0).map (encM e_Srule_Rule)))]] ?_
  refine zo (.p (.agg (k_Srule_Rule ((getM b4_0 a1).getD (Srule_Rule.mk 0 0 0 0 (ByteArray.mk #[])))))) ?_ (Eq.trans (b := xlook PP 64 false (.mp 4) (iv a1) [(r_Srule_Set b0 ob0_Rules), (r_Srule_Delta b1 ob1_Put ob1_Drop), (r_Srule_Set b2 ob2_Rules), (r_Srule_Set (Srule_Set.mk b3_Default b3_Closed b3_Fuel b3_Stack b3_Rules) (shrO ob3_Rules)), [(.md ((b4_0).map (encM e_Srule_Rule)))]]) (by kernel_rfl) <| (xlook_of (e := e_Srule_Rule) (z := (Srule_Rule.mk 0 0 0 0 (ByteArray.mk #[]))) (es := b4_0) (te := 43) (by kernel_rfl) (by kernel_rfl) (by kernel_rfl) false).trans (by kernel_rfl))
  refine zo (.p (.lst .ex (([((getM b4_0 a1).getD (Srule_Rule.mk 0 0 0 0 (ByteArray.mk #[])))] : List Srule_Rule).map e_Srule_Rule))) ?_
  refine zi fun a2 ha2 => ?_
  refine zo (.p (.lst .un (a2.map e_Srule_Rule))) ?_ (Eq.trans (by kernel_rfl) <| xapp_of (n := 5) (o := ob3_Rules) (o' := .ex) (e := e_Srule_Rule) (ys := ([((getM b4_0 a1).getD (Srule_Rule.mk 0 0 0 0 (ByteArray.mk #[])))] : List Srule_Rule)) (fun _ => rfl) (by decide) hob3_Rules ha2)
  refine zo (.ptr 3 4) ?_
  refine zt [(r_Srule_Set b0 ob0_Rules), (r_Srule_Delta b1 ob1_Put ob1_Drop), (r_Srule_Set b2 ob2_Rules), (r_Srule_Set (Srule_Set.mk b3_Default b3_Closed b3_Fuel b3_Stack a2) .un), [(.md ((b4_0).map (encM e_Srule_Rule)))]] ?_
  refine ze ?_
  refine zo (iv (IntKind.i64.wrap (x105 + 1))) ?_
  exact zk (g12_l35_to (x103) (x104) ((IntKind.i64.wrap (x105 + 1))) (b0) (b1) (b2) (b3_Default) (b3_Closed) (b3_Fuel) (b3_Stack) (a2) (b4_0) ox103 ob0_Rules ob1_Put ob1_Drop ob2_Rules .un hob2_Rules rfl)
noncomputable def b12_r39 (b3_Default : Int) (b3_Closed : Int) (b3_Fuel : Int) (b3_Stack : Int) (b3_Rules : List Srule_Rule) : Option (Srule_Set × Int) :=
 some ((Srule_Set.mk b3_Default b3_Closed b3_Fuel b3_Stack b3_Rules), 0)
theorem g12_r39_sim (b0 : Srule_Set) (b1 : Srule_Delta) (b2 : Srule_Set) (b3_Default : Int) (b3_Closed : Int) (b3_Fuel : Int) (b3_Stack : Int) (b3_Rules : List Srule_Rule) (ob0_Rules : Own) (ob1_Put : Own) (ob1_Drop : Own) (ob2_Rules : Own) (ob3_Rules : Own) (hob2_Rules : okApp ob2_Rules = true) (hob3_Rules : okApp ob3_Rules = true) : Sim (Q12) (b12_r39 b3_Default b3_Closed b3_Fuel b3_Stack b3_Rules) (f12_r39 0 (.ptr 2 0) (.ptr 3 0) [(r_Srule_Set b0 ob0_Rules), (r_Srule_Delta b1 ob1_Put ob1_Drop), (r_Srule_Set b2 ob2_Rules), (r_Srule_Set (Srule_Set.mk b3_Default b3_Closed b3_Fuel b3_Stack b3_Rules) ob3_Rules)]) := by
  unfold b12_r39
  refine zf (f12_r39_eq ..) ?_
  refine ze ?_
  refine zo (.p (.agg (k_Srule_Set (Srule_Set.mk b3_Default b3_Closed b3_Fuel b3_Stack b3_Rules) (shrO ob3_Rules)))) ?_
  refine zt [(r_Srule_Set b0 ob0_Rules), (r_Srule_Delta b1 ob1_Put ob1_Drop), (r_Srule_Set (Srule_Set.mk b3_Default b3_Closed b3_Fuel b3_Stack b3_Rules) (shrO ob3_Rules)), (r_Srule_Set (Srule_Set.mk b3_Default b3_Closed b3_Fuel b3_Stack b3_Rules) ob3_Rules)] ?_
  exact zr ((.p (.tup [(.agg (k_Srule_Set (Srule_Set.mk b3_Default b3_Closed b3_Fuel b3_Stack b3_Rules) .sh)), (.v (.int .i64 0))])), [(r_Srule_Set b0 ob0_Rules), (r_Srule_Delta b1 ob1_Put ob1_Drop), (r_Srule_Set (Srule_Set.mk b3_Default b3_Closed b3_Fuel b3_Stack b3_Rules) (shrO ob3_Rules)), (r_Srule_Set (Srule_Set.mk b3_Default b3_Closed b3_Fuel b3_Stack b3_Rules) ob3_Rules)]) ⟨_, rfl⟩
noncomputable def b12_l35 (x103 : List Int) (x104 : Int) (x105 : Int) (b3_Default : Int) (b3_Closed : Int) (b3_Fuel : Int) (b3_Stack : Int) (b3_Rules : List Srule_Rule) (b4_0 : List (Int × Srule_Rule)) : Option (Srule_Set × Int) :=
 if ((decide (x105 < x104))) = true then
 (b12_r36 x103 x104 x105 b3_Default b3_Closed b3_Fuel b3_Stack b3_Rules b4_0)
 else
 (b12_r39 b3_Default b3_Closed b3_Fuel b3_Stack b3_Rules)
theorem g12_l35_sim (x103 : List Int) (x104 : Int) (x105 : Int) (b0 : Srule_Set) (b1 : Srule_Delta) (b2 : Srule_Set) (b3_Default : Int) (b3_Closed : Int) (b3_Fuel : Int) (b3_Stack : Int) (b3_Rules : List Srule_Rule) (b4_0 : List (Int × Srule_Rule)) (ox103 : Own) (ob0_Rules : Own) (ob1_Put : Own) (ob1_Drop : Own) (ob2_Rules : Own) (ob3_Rules : Own) (hob2_Rules : okApp ob2_Rules = true) (hob3_Rules : okApp ob3_Rules = true) : Sim (Q12) (b12_l35 x103 x104 x105 b3_Default b3_Closed b3_Fuel b3_Stack b3_Rules b4_0) (f12_l35 0 (.ptr 2 0) (.ptr 3 0) (.mp 4) (.p (.lst ox103 (x103.map (eI .i64)))) (iv x104) (iv x105) [(r_Srule_Set b0 ob0_Rules), (r_Srule_Delta b1 ob1_Put ob1_Drop), (r_Srule_Set b2 ob2_Rules), (r_Srule_Set (Srule_Set.mk b3_Default b3_Closed b3_Fuel b3_Stack b3_Rules) ob3_Rules), [(.md ((b4_0).map (encM e_Srule_Rule)))]]) := by
  unfold b12_l35
  refine zf (f12_l35_eq ..) ?_
  refine ze ?_
  refine zo (bv (decide (x105 < x104))) ?_
  refine za ((decide (x105 < x104))) ?_ ?_
  · exact zk (g12_r36_sim (x103) (x104) (x105) (b0) (b1) (b2) (b3_Default) (b3_Closed) (b3_Fuel) (b3_Stack) (b3_Rules) (b4_0) ox103 ob0_Rules ob1_Put ob1_Drop ob2_Rules ob3_Rules hob2_Rules hob3_Rules)
  · exact zk (g12_r39_sim (b0) (b1) (b2) (b3_Default) (b3_Closed) (b3_Fuel) (b3_Stack) (b3_Rules) ob0_Rules ob1_Put ob1_Drop ob2_Rules ob3_Rules hob2_Rules hob3_Rules)
theorem g12_l35_of (x103 : List Int) (x104 : Int) (x105 : Int) (b3_Default : Int) (b3_Closed : Int) (b3_Fuel : Int) (b3_Stack : Int) (b3_Rules : List Srule_Rule) (b4_0 : List (Int × Srule_Rule)) {r} (h : b12_l35 x103 x104 x105 b3_Default b3_Closed b3_Fuel b3_Stack b3_Rules b4_0 = some r) : g12_l35 x103 x104 x105 b3_Default b3_Closed b3_Fuel b3_Stack b3_Rules b4_0 = some r :=
  pick_of (fun _ _ ha hb => RRun.uniq (Q12_u) (ha default default default .ex .ex .ex .ex .ex .ex rfl rfl) (hb default default default .ex .ex .ex .ex .ex .ex rfl rfl)) (fun b0 b1 b2 ox103 ob0_Rules ob1_Put ob1_Drop ob2_Rules ob3_Rules hob2_Rules hob3_Rules => g12_l35_sim x103 x104 x105 b0 b1 b2 b3_Default b3_Closed b3_Fuel b3_Stack b3_Rules b4_0 ox103 ob0_Rules ob1_Put ob1_Drop ob2_Rules ob3_Rules hob2_Rules hob3_Rules r h)
/-! "(colander/rule.Set).Right": g16 -/
noncomputable def b16_r2  : Option (Bool) :=
 some (false)
theorem g16_r2_sim  : Sim (Q16) (b16_r2) (f16_r2 0  []) := by
  unfold b16_r2
  refine zf (f16_r2_eq ..) ?_
  refine ze ?_
  exact zr ((bv false), []) ⟨_, rfl⟩
noncomputable def b16_r3 (b0 : Srule_Set) : Option (Bool) :=
 g16_l5 0 b0.Rules ((b0.Rules.length : Int)) 0
theorem g16_r3_sim (b0 : Srule_Set) (ob0_Rules : Own) : Sim (Q16) (b16_r3 b0) (f16_r3 0 (.ptr 0 0) [(r_Srule_Set b0 ob0_Rules)]) := by
  unfold b16_r3
  refine zf (f16_r3_eq ..) ?_
  refine ze ?_
  refine ze ?_
  refine zo (.ptr 0 4) ?_
  refine zo (.p (.lst (shrO ob0_Rules) (b0.Rules.map e_Srule_Rule))) ?_
  refine zo (iv (b0.Rules.length : Int)) ?_ (Eq.trans (by kernel_rfl) (xlen_of (P := PP) (t := 22) (d := 43) (by kernel_rfl) e_Srule_Rule (shrO ob0_Rules) b0.Rules))
  exact zk (g16_l5_to (0) (b0.Rules) ((b0.Rules.length : Int)) (0) (shrO ob0_Rules))
noncomputable def b16 (x0 : Srule_Set) : Option (Bool) :=
 (g27 x0).bind fun r1 =>
 if ((!r1)) = true then
 (b16_r2)
 else
 (if ((decide (16 < (x0.Rules.length : Int)))) = true then
 (b16_r2)
 else
 (b16_r3 x0))
theorem g16_sim (x0 : Srule_Set) (ox0_Rules : Own) : Sim (Q16) (b16 x0) (EE 16 [(.p (.agg (k_Srule_Set x0 ox0_Rules)))] []) := by
  unfold b16
  refine zf (f16_eq ..) ?_
  refine ze ?_
  refine zx (.ptr 0 0) [(r_Srule_Set x0 ox0_Rules)] ?_
  refine ze ?_
  refine zo (.p (.agg (k_Srule_Set x0 (shrO ox0_Rules)))) ?_
  refine zi fun r1 hr1 => ?_
  obtain ⟨qr1, er1, exr1, rfl⟩ := g27_to (x0) .sh r1 hr1
  refine zc [] (bv r1) [(r_Srule_Set x0 ox0_Rules)] er1 ?_
  refine zo (bv (!r1)) ?_
  refine za ((!r1)) ?_ ?_
  · exact zk (g16_r2_sim )
  · refine zo (.ptr 0 4) ?_
    refine zo (.p (.lst (shrO ox0_Rules) (x0.Rules.map e_Srule_Rule))) ?_
    refine zo (iv (x0.Rules.length : Int)) ?_ (Eq.trans (by kernel_rfl) (xlen_of (P := PP) (t := 22) (d := 43) (by kernel_rfl) e_Srule_Rule (shrO ox0_Rules) x0.Rules))
    refine zo (bv (decide (16 < (x0.Rules.length : Int)))) ?_
    refine za ((decide (16 < (x0.Rules.length : Int)))) ?_ ?_
    · exact zk (g16_r2_sim )
    · exact zk (g16_r3_sim (x0) ox0_Rules)
theorem g16_of (x0 : Srule_Set) {r} (h : b16 x0 = some r) : g16 x0 = some r :=
  pick_of (fun _ _ ha hb => RRun.uniq (Q16_u) (ha .ex) (hb .ex)) (fun ox0_Rules => g16_sim x0 ox0_Rules r h)
noncomputable def b16_r8  : Option (Bool) :=
 some (false)
theorem g16_r8_sim  : Sim (Q16) (b16_r8) (f16_r8 0  []) := by
  unfold b16_r8
  refine zf (f16_r8_eq ..) ?_
  refine ze ?_
  exact zr ((bv false), []) ⟨_, rfl⟩
noncomputable def b16_r10 (x3 : Int) (x16 : List Srule_Rule) (x17 : Int) (x18 : Int) : Option (Bool) :=
 g16_l5 x3 x16 x17 ((IntKind.i64.wrap (x18 + 1)))
theorem g16_r10_sim (x3 : Int) (x16 : List Srule_Rule) (x17 : Int) (x18 : Int) (ox16 : Own) : Sim (Q16) (b16_r10 x3 x16 x17 x18) (f16_r10 0 (iv x3) (.p (.lst ox16 (x16.map e_Srule_Rule))) (iv x17) (iv x18) []) := by
  unfold b16_r10
  refine zf (f16_r10_eq ..) ?_
  refine ze ?_
  refine zo (iv (IntKind.i64.wrap (x18 + 1))) ?_
  exact zk (g16_l5_to (x3) (x16) (x17) ((IntKind.i64.wrap (x18 + 1))) ox16)
noncomputable def b16_r9 (x16 : List Srule_Rule) (x17 : Int) (x18 : Int) (b0 : Srule_Rule) : Option (Bool) :=
 b16_r10 b0.ID x16 x17 x18
theorem g16_r9_sim (x16 : List Srule_Rule) (x17 : Int) (x18 : Int) (b0 : Srule_Rule) (ox16 : Own) : Sim (Q16) (b16_r9 x16 x17 x18 b0) (f16_r9 0 (.ptr 0 0) (.p (.lst ox16 (x16.map e_Srule_Rule))) (iv x17) (iv x18) [(r_Srule_Rule b0)]) := by
  unfold b16_r9
  refine zf (f16_r9_eq ..) ?_
  refine ze ?_
  refine zo (.ptr 0 0) ?_
  refine zo (iv b0.ID) ?_
  exact zk (g16_r10_sim (b0.ID) (x16) (x17) (x18) ox16)
noncomputable def b16_r6 (x3 : Int) (x16 : List Srule_Rule) (x17 : Int) (x18 : Int) : Option (Bool) :=
 (lget x16 x18).bind fun a1 =>
 (g21 a1).bind fun r2 =>
 if ((!r2)) = true then
 (b16_r8)
 else
 (if ((decide (a1.ID ≤ x3))) = true then
 (b16_r8)
 else
 (b16_r9 x16 x17 x18 a1))
theorem g16_r6_sim (x3 : Int) (x16 : List Srule_Rule) (x17 : Int) (x18 : Int) (ox16 : Own) : Sim (Q16) (b16_r6 x3 x16 x17 x18) (f16_r6 0 (iv x3) (.p (.lst ox16 (x16.map e_Srule_Rule))) (iv x17) (iv x18) []) := by
  unfold b16_r6
  refine zf (f16_r6_eq ..) ?_
  refine ze ?_
  refine zi fun a1 ha1 => ?_
  refine zo (.cptr (k_Srule_Rule a1)) ?_ (Eq.trans (by kernel_rfl) (xidx_of (o := ox16) (k := .i64) (n := 5) (e := e_Srule_Rule) (cs := c_Srule_Rule) (fun _ => rfl) (fun _ => rfl) (by decide) ha1))
  refine zo (.p (.agg (k_Srule_Rule a1))) ?_
  refine zz (.ptr 0 0) [(r_Srule_Rule (Srule_Rule.mk 0 0 0 0 (ByteArray.mk #[])))] ?_
  refine zt [(r_Srule_Rule a1)] ?_
  refine ze ?_
  refine zo (.p (.agg (k_Srule_Rule a1))) ?_
  refine zi fun r2 hr2 => ?_
  obtain ⟨qr2, er2, exr2, rfl⟩ := g21_to (a1) r2 hr2
  refine zc [] (bv r2) [(r_Srule_Rule a1)] er2 ?_
  refine zo (bv (!r2)) ?_
  refine za ((!r2)) ?_ ?_
  · exact zk (g16_r8_sim )
  · refine zo (.ptr 0 0) ?_
    refine zo (iv a1.ID) ?_
    refine zo (bv (decide (a1.ID ≤ x3))) ?_
    refine za ((decide (a1.ID ≤ x3))) ?_ ?_
    · exact zk (g16_r8_sim )
    · exact zk (g16_r9_sim (x16) (x17) (x18) (a1) ox16)
noncomputable def b16_r11  : Option (Bool) :=
 some (true)
theorem g16_r11_sim  : Sim (Q16) (b16_r11) (f16_r11 0  []) := by
  unfold b16_r11
  refine zf (f16_r11_eq ..) ?_
  refine ze ?_
  exact zr ((bv true), []) ⟨_, rfl⟩
noncomputable def b16_l5 (x3 : Int) (x16 : List Srule_Rule) (x17 : Int) (x18 : Int) : Option (Bool) :=
 if ((decide (x18 < x17))) = true then
 (b16_r6 x3 x16 x17 x18)
 else
 (b16_r11)
theorem g16_l5_sim (x3 : Int) (x16 : List Srule_Rule) (x17 : Int) (x18 : Int) (ox16 : Own) : Sim (Q16) (b16_l5 x3 x16 x17 x18) (f16_l5 0 (iv x3) (.p (.lst ox16 (x16.map e_Srule_Rule))) (iv x17) (iv x18) []) := by
  unfold b16_l5
  refine zf (f16_l5_eq ..) ?_
  refine ze ?_
  refine zo (bv (decide (x18 < x17))) ?_
  refine za ((decide (x18 < x17))) ?_ ?_
  · exact zk (g16_r6_sim (x3) (x16) (x17) (x18) ox16)
  · exact zk (g16_r11_sim )
theorem g16_l5_of (x3 : Int) (x16 : List Srule_Rule) (x17 : Int) (x18 : Int) {r} (h : b16_l5 x3 x16 x17 x18 = some r) : g16_l5 x3 x16 x17 x18 = some r :=
  pick_of (fun _ _ ha hb => RRun.uniq (Q16_u) (ha .ex) (hb .ex)) (fun ox16 => g16_l5_sim x3 x16 x17 x18 ox16 r h)
/-! "(colander/rule.Set).numbered": g27 -/
noncomputable def b27 (x0 : Srule_Set) : Option (Bool) :=
 if ((decide (0 ≤ x0.Default))) = true then
 (if ((decide (x0.Default ≤ 255))) = true then
 (if ((decide (0 ≤ x0.Closed))) = true then
 (if ((decide (x0.Closed ≤ 255))) = true then
 (if ((decide (1 ≤ x0.Fuel))) = true then
 (if ((decide (x0.Fuel ≤ 1048576))) = true then
 (if ((decide (0 ≤ x0.Stack))) = true then
 (some ((decide (x0.Stack ≤ 4096))))
 else
 (some (false)))
 else
 (some (false)))
 else
 (some (false)))
 else
 (some (false)))
 else
 (some (false)))
 else
 (some (false)))
 else
 (some (false))
theorem g27_sim (x0 : Srule_Set) (ox0_Rules : Own) : Sim (Q27) (b27 x0) (EE 27 [(.p (.agg (k_Srule_Set x0 ox0_Rules)))] []) := by
  unfold b27
  refine zf (f27_eq ..) ?_
  refine ze ?_
  refine zx (.ptr 0 0) [(r_Srule_Set x0 ox0_Rules)] ?_
  refine ze ?_
  refine zo (.ptr 0 0) ?_
  refine zo (iv x0.Default) ?_
  refine zo (bv (decide (0 ≤ x0.Default))) ?_
  refine za ((decide (0 ≤ x0.Default))) ?_ ?_
  · refine zo (.ptr 0 0) ?_
    refine zo (iv x0.Default) ?_
    refine zo (bv (decide (x0.Default ≤ 255))) ?_
    refine za ((decide (x0.Default ≤ 255))) ?_ ?_
    · refine zo (.ptr 0 1) ?_
      refine zo (iv x0.Closed) ?_
      refine zo (bv (decide (0 ≤ x0.Closed))) ?_
      refine za ((decide (0 ≤ x0.Closed))) ?_ ?_
      · refine zo (.ptr 0 1) ?_
        refine zo (iv x0.Closed) ?_
        refine zo (bv (decide (x0.Closed ≤ 255))) ?_
        refine za ((decide (x0.Closed ≤ 255))) ?_ ?_
        · refine zo (.ptr 0 2) ?_
          refine zo (iv x0.Fuel) ?_
          refine zo (bv (decide (1 ≤ x0.Fuel))) ?_
          refine za ((decide (1 ≤ x0.Fuel))) ?_ ?_
          · refine zo (.ptr 0 2) ?_
            refine zo (iv x0.Fuel) ?_
            refine zo (bv (decide (x0.Fuel ≤ 1048576))) ?_
            refine za ((decide (x0.Fuel ≤ 1048576))) ?_ ?_
            · refine zo (.ptr 0 3) ?_
              refine zo (iv x0.Stack) ?_
              refine zo (bv (decide (0 ≤ x0.Stack))) ?_
              refine za ((decide (0 ≤ x0.Stack))) ?_ ?_
              · refine zo (.ptr 0 3) ?_
                refine zo (iv x0.Stack) ?_
                refine zo (bv (decide (x0.Stack ≤ 4096))) ?_
                exact zr ((bv (decide (x0.Stack ≤ 4096))), [(r_Srule_Set x0 ox0_Rules)]) ⟨_, rfl⟩
              · exact zr ((bv false), [(r_Srule_Set x0 ox0_Rules)]) ⟨_, rfl⟩
            · exact zr ((bv false), [(r_Srule_Set x0 ox0_Rules)]) ⟨_, rfl⟩
          · exact zr ((bv false), [(r_Srule_Set x0 ox0_Rules)]) ⟨_, rfl⟩
        · exact zr ((bv false), [(r_Srule_Set x0 ox0_Rules)]) ⟨_, rfl⟩
      · exact zr ((bv false), [(r_Srule_Set x0 ox0_Rules)]) ⟨_, rfl⟩
    · exact zr ((bv false), [(r_Srule_Set x0 ox0_Rules)]) ⟨_, rfl⟩
  · exact zr ((bv false), [(r_Srule_Set x0 ox0_Rules)]) ⟨_, rfl⟩
theorem g27_of (x0 : Srule_Set) {r} (h : b27 x0 = some r) : g27 x0 = some r :=
  pick_of (fun _ _ ha hb => RRun.uniq (Q27_u) (ha .ex) (hb .ex)) (fun ox0_Rules => g27_sim x0 ox0_Rules r h)
/-! "(colander/rule.Rule).Right": g21 -/
noncomputable def b21 (x0 : Srule_Rule) : Option (Bool) :=
 if ((decide (1 ≤ x0.ID))) = true then
 (if ((decide (x0.ID ≤ 1099511627776))) = true then
 (if ((decide (0 ≤ x0.Priority))) = true then
 (if ((decide (x0.Priority ≤ 1000))) = true then
 (if ((decide (0 ≤ x0.Action))) = true then
 (if ((decide (x0.Action ≤ 255))) = true then
 (if ((decide (1 ≤ x0.Scope))) = true then
 (if ((decide (x0.Scope ≤ 65535))) = true then
 (some ((decide ((x0.Pattern.size : Int) ≤ 256))))
 else
 (some (false)))
 else
 (some (false)))
 else
 (some (false)))
 else
 (some (false)))
 else
 (some (false)))
 else
 (some (false)))
 else
 (some (false)))
 else
 (some (false))
theorem g21_sim (x0 : Srule_Rule) : Sim (Q21) (b21 x0) (EE 21 [(.p (.agg (k_Srule_Rule x0)))] []) := by
  unfold b21
  refine zf (f21_eq ..) ?_
  refine ze ?_
  refine zx (.ptr 0 0) [(r_Srule_Rule x0)] ?_
  refine ze ?_
  refine zo (.ptr 0 0) ?_
  refine zo (iv x0.ID) ?_
  refine zo (bv (decide (1 ≤ x0.ID))) ?_
  refine za ((decide (1 ≤ x0.ID))) ?_ ?_
  · refine zo (.ptr 0 0) ?_
    refine zo (iv x0.ID) ?_
    refine zo (bv (decide (x0.ID ≤ 1099511627776))) ?_
    refine za ((decide (x0.ID ≤ 1099511627776))) ?_ ?_
    · refine zo (.ptr 0 1) ?_
      refine zo (iv x0.Priority) ?_
      refine zo (bv (decide (0 ≤ x0.Priority))) ?_
      refine za ((decide (0 ≤ x0.Priority))) ?_ ?_
      · refine zo (.ptr 0 1) ?_
        refine zo (iv x0.Priority) ?_
        refine zo (bv (decide (x0.Priority ≤ 1000))) ?_
        refine za ((decide (x0.Priority ≤ 1000))) ?_ ?_
        · refine zo (.ptr 0 2) ?_
          refine zo (iv x0.Action) ?_
          refine zo (bv (decide (0 ≤ x0.Action))) ?_
          refine za ((decide (0 ≤ x0.Action))) ?_ ?_
          · refine zo (.ptr 0 2) ?_
            refine zo (iv x0.Action) ?_
            refine zo (bv (decide (x0.Action ≤ 255))) ?_
            refine za ((decide (x0.Action ≤ 255))) ?_ ?_
            · refine zo (.ptr 0 3) ?_
              refine zo (iv x0.Scope) ?_
              refine zo (bv (decide (1 ≤ x0.Scope))) ?_
              refine za ((decide (1 ≤ x0.Scope))) ?_ ?_
              · refine zo (.ptr 0 3) ?_
                refine zo (iv x0.Scope) ?_
                refine zo (bv (decide (x0.Scope ≤ 65535))) ?_
                refine za ((decide (x0.Scope ≤ 65535))) ?_ ?_
                · refine zo (.ptr 0 4) ?_
                  refine zo (.p (.v (.string x0.Pattern))) ?_
                  refine zo (iv (x0.Pattern.size : Int)) ?_
                  refine zo (bv (decide ((x0.Pattern.size : Int) ≤ 256))) ?_
                  exact zr ((bv (decide ((x0.Pattern.size : Int) ≤ 256))), [(r_Srule_Rule x0)]) ⟨_, rfl⟩
                · exact zr ((bv false), [(r_Srule_Rule x0)]) ⟨_, rfl⟩
              · exact zr ((bv false), [(r_Srule_Rule x0)]) ⟨_, rfl⟩
            · exact zr ((bv false), [(r_Srule_Rule x0)]) ⟨_, rfl⟩
          · exact zr ((bv false), [(r_Srule_Rule x0)]) ⟨_, rfl⟩
        · exact zr ((bv false), [(r_Srule_Rule x0)]) ⟨_, rfl⟩
      · exact zr ((bv false), [(r_Srule_Rule x0)]) ⟨_, rfl⟩
    · exact zr ((bv false), [(r_Srule_Rule x0)]) ⟨_, rfl⟩
  · exact zr ((bv false), [(r_Srule_Rule x0)]) ⟨_, rfl⟩
theorem g21_of (x0 : Srule_Rule) {r} (h : b21 x0 = some r) : g21 x0 = some r :=
  pick_of (fun _ _ ha hb => RRun.uniq (Q21_u) (ha ) (hb )) (g21_sim x0 r h)
/-! "colander/rule.change": g26 -/
noncomputable def b26 (x1 : Int) (b0_Default : Int) : Option (Int) :=
 if ((x1 != (-1))) = true then
 (some (x1))
 else
 (some (b0_Default))
theorem g26_sim (x1 : Int) (b0_Default : Int) (b0_Closed : Int) (b0_Fuel : Int) (b0_Stack : Int) (b0_Rules : List Srule_Rule) (ob0_Rules : Own) : Sim (Q26 b0_Closed b0_Fuel b0_Stack b0_Rules ob0_Rules) (b26 x1 b0_Default) (EE 26 [(.ptr 0 0), (iv x1)] [(r_Srule_Set (Srule_Set.mk b0_Default b0_Closed b0_Fuel b0_Stack b0_Rules) ob0_Rules)]) := by
  unfold b26
  refine zf (f26_eq ..) ?_
  refine ze ?_
  refine zo (bv (x1 != (-1))) ?_
  refine za ((x1 != (-1))) ?_ ?_
  · refine ze ?_
    refine zo (.ptr 0 0) ?_
    refine zt [(r_Srule_Set (Srule_Set.mk x1 b0_Closed b0_Fuel b0_Stack b0_Rules) ob0_Rules)] ?_
    exact zr ((.p (.tup [])), [(r_Srule_Set (Srule_Set.mk x1 b0_Closed b0_Fuel b0_Stack b0_Rules) ob0_Rules)]) ⟨_, rfl⟩
  · exact zr ((.p (.tup [])), [(r_Srule_Set (Srule_Set.mk b0_Default b0_Closed b0_Fuel b0_Stack b0_Rules) ob0_Rules)]) ⟨_, rfl⟩
theorem g26_of (x1 : Int) (b0_Default : Int) {r} (h : b26 x1 b0_Default = some r) : g26 x1 b0_Default = some r :=
  pick_of (fun _ _ ha hb => RRun.uniq (Q26_u _ _ _ _ _) (ha default default default default .ex) (hb default default default default .ex)) (fun b0_Closed b0_Fuel b0_Stack b0_Rules ob0_Rules => g26_sim x1 b0_Default b0_Closed b0_Fuel b0_Stack b0_Rules ob0_Rules r h)
/-! "colander/rule.change": g26v1 -/
noncomputable def b26v1 (x1 : Int) (b0_Closed : Int) : Option (Int) :=
 if ((x1 != (-1))) = true then
 (some (x1))
 else
 (some (b0_Closed))
theorem g26v1_sim (x1 : Int) (b0_Default : Int) (b0_Closed : Int) (b0_Fuel : Int) (b0_Stack : Int) (b0_Rules : List Srule_Rule) (ob0_Rules : Own) : Sim (Q26v1 b0_Default b0_Fuel b0_Stack b0_Rules ob0_Rules) (b26v1 x1 b0_Closed) (EE 26 [(.ptr 0 1), (iv x1)] [(r_Srule_Set (Srule_Set.mk b0_Default b0_Closed b0_Fuel b0_Stack b0_Rules) ob0_Rules)]) := by
  unfold b26v1
  refine zf (f26_eq ..) ?_
  refine ze ?_
  refine zo (bv (x1 != (-1))) ?_
  refine za ((x1 != (-1))) ?_ ?_
  · refine ze ?_
    refine zo (.ptr 0 1) ?_
    refine zt [(r_Srule_Set (Srule_Set.mk b0_Default x1 b0_Fuel b0_Stack b0_Rules) ob0_Rules)] ?_
    exact zr ((.p (.tup [])), [(r_Srule_Set (Srule_Set.mk b0_Default x1 b0_Fuel b0_Stack b0_Rules) ob0_Rules)]) ⟨_, rfl⟩
  · exact zr ((.p (.tup [])), [(r_Srule_Set (Srule_Set.mk b0_Default b0_Closed b0_Fuel b0_Stack b0_Rules) ob0_Rules)]) ⟨_, rfl⟩
theorem g26v1_of (x1 : Int) (b0_Closed : Int) {r} (h : b26v1 x1 b0_Closed = some r) : g26v1 x1 b0_Closed = some r :=
  pick_of (fun _ _ ha hb => RRun.uniq (Q26v1_u _ _ _ _ _) (ha default default default default .ex) (hb default default default default .ex)) (fun b0_Default b0_Fuel b0_Stack b0_Rules ob0_Rules => g26v1_sim x1 b0_Default b0_Closed b0_Fuel b0_Stack b0_Rules ob0_Rules r h)
/-! "colander/rule.change": g26v2 -/
noncomputable def b26v2 (x1 : Int) (b0_Fuel : Int) : Option (Int) :=
 if ((x1 != (-1))) = true then
 (some (x1))
 else
 (some (b0_Fuel))
theorem g26v2_sim (x1 : Int) (b0_Default : Int) (b0_Closed : Int) (b0_Fuel : Int) (b0_Stack : Int) (b0_Rules : List Srule_Rule) (ob0_Rules : Own) : Sim (Q26v2 b0_Default b0_Closed b0_Stack b0_Rules ob0_Rules) (b26v2 x1 b0_Fuel) (EE 26 [(.ptr 0 2), (iv x1)] [(r_Srule_Set (Srule_Set.mk b0_Default b0_Closed b0_Fuel b0_Stack b0_Rules) ob0_Rules)]) := by
  unfold b26v2
  refine zf (f26_eq ..) ?_
  refine ze ?_
  refine zo (bv (x1 != (-1))) ?_
  refine za ((x1 != (-1))) ?_ ?_
  · refine ze ?_
    refine zo (.ptr 0 2) ?_
    refine zt [(r_Srule_Set (Srule_Set.mk b0_Default b0_Closed x1 b0_Stack b0_Rules) ob0_Rules)] ?_
    exact zr ((.p (.tup [])), [(r_Srule_Set (Srule_Set.mk b0_Default b0_Closed x1 b0_Stack b0_Rules) ob0_Rules)]) ⟨_, rfl⟩
  · exact zr ((.p (.tup [])), [(r_Srule_Set (Srule_Set.mk b0_Default b0_Closed b0_Fuel b0_Stack b0_Rules) ob0_Rules)]) ⟨_, rfl⟩
theorem g26v2_of (x1 : Int) (b0_Fuel : Int) {r} (h : b26v2 x1 b0_Fuel = some r) : g26v2 x1 b0_Fuel = some r :=
  pick_of (fun _ _ ha hb => RRun.uniq (Q26v2_u _ _ _ _ _) (ha default default default default .ex) (hb default default default default .ex)) (fun b0_Default b0_Closed b0_Stack b0_Rules ob0_Rules => g26v2_sim x1 b0_Default b0_Closed b0_Fuel b0_Stack b0_Rules ob0_Rules r h)
/-! "colander/rule.change": g26v3 -/
noncomputable def b26v3 (x1 : Int) (b0_Stack : Int) : Option (Int) :=
 if ((x1 != (-1))) = true then
 (some (x1))
 else
 (some (b0_Stack))
theorem g26v3_sim (x1 : Int) (b0_Default : Int) (b0_Closed : Int) (b0_Fuel : Int) (b0_Stack : Int) (b0_Rules : List Srule_Rule) (ob0_Rules : Own) : Sim (Q26v3 b0_Default b0_Closed b0_Fuel b0_Rules ob0_Rules) (b26v3 x1 b0_Stack) (EE 26 [(.ptr 0 3), (iv x1)] [(r_Srule_Set (Srule_Set.mk b0_Default b0_Closed b0_Fuel b0_Stack b0_Rules) ob0_Rules)]) := by
  unfold b26v3
  refine zf (f26_eq ..) ?_
  refine ze ?_
  refine zo (bv (x1 != (-1))) ?_
  refine za ((x1 != (-1))) ?_ ?_
  · refine ze ?_
    refine zo (.ptr 0 3) ?_
    refine zt [(r_Srule_Set (Srule_Set.mk b0_Default b0_Closed b0_Fuel x1 b0_Rules) ob0_Rules)] ?_
    exact zr ((.p (.tup [])), [(r_Srule_Set (Srule_Set.mk b0_Default b0_Closed b0_Fuel x1 b0_Rules) ob0_Rules)]) ⟨_, rfl⟩
  · exact zr ((.p (.tup [])), [(r_Srule_Set (Srule_Set.mk b0_Default b0_Closed b0_Fuel b0_Stack b0_Rules) ob0_Rules)]) ⟨_, rfl⟩
theorem g26v3_of (x1 : Int) (b0_Stack : Int) {r} (h : b26v3 x1 b0_Stack = some r) : g26v3 x1 b0_Stack = some r :=
  pick_of (fun _ _ ha hb => RRun.uniq (Q26v3_u _ _ _ _ _) (ha default default default default .ex) (hb default default default default .ex)) (fun b0_Default b0_Closed b0_Fuel b0_Rules ob0_Rules => g26v3_sim x1 b0_Default b0_Closed b0_Fuel b0_Stack b0_Rules ob0_Rules r h)
/-! "colander/rule.all[colander/rule.Rule]": g28 -/
noncomputable def b28 (x0 : List Srule_Rule) : Option (Bool) :=
 (g42 x0).bind fun r1 =>
 some ((!r1))
theorem g28_sim (x0 : List Srule_Rule) (ox0 : Own) : Sim (Q28) (b28 x0) (EE 28 [(.p (.lst ox0 (x0.map e_Srule_Rule))), (.clo 21 [] [])] []) := by
  unfold b28
  refine zf (f28_eq ..) ?_
  refine ze ?_
  refine zx (.ptr 0 0) [[(.clo 21 [] [])]] ?_
  refine ze ?_
  refine zi fun r1 hr1 => ?_
  obtain ⟨qr1, er1, exr1, rfl⟩ := g42_to (x0) .sh r1 hr1
  refine zc [0] (bv r1) [[(.clo 21 [] [])]] er1 ?_
  refine zo (bv (!r1)) ?_
  exact zr ((bv (!r1)), [[(.clo 21 [] [])]]) ⟨_, rfl⟩
theorem g28_of (x0 : List Srule_Rule) {r} (h : b28 x0 = some r) : g28 x0 = some r :=
  pick_of (fun _ _ ha hb => RRun.uniq (Q28_u) (ha .ex) (hb .ex)) (fun ox0 => g28_sim x0 ox0 r h)
/-! "slices.ContainsFunc[[]colander/rule.Rule,colander/rule.Rule]": g42 -/
noncomputable def b42 (x0 : List Srule_Rule) : Option (Bool) :=
 (g52 x0).bind fun r1 =>
 some ((decide (0 ≤ r1)))
theorem g42_sim (x0 : List Srule_Rule) (ox0 : Own) : Sim (Q42) (b42 x0) (EE 42 [(.p (.lst ox0 (x0.map e_Srule_Rule))), (.clo 43 [] [(.ptr 0 0)])] [[(.clo 21 [] [])]]) := by
  unfold b42
  refine zf (f42_eq ..) ?_
  refine ze ?_
  refine ze ?_
  refine zi fun r1 hr1 => ?_
  obtain ⟨qr1, er1, exr1, rfl⟩ := g52_to (x0) .sh r1 hr1
  refine zc [0] (iv r1) [[(.clo 21 [] [])]] er1 ?_
  refine zo (bv (decide (0 ≤ r1))) ?_
  exact zr ((bv (decide (0 ≤ r1))), [[(.clo 21 [] [])]]) ⟨_, rfl⟩
theorem g42_of (x0 : List Srule_Rule) {r} (h : b42 x0 = some r) : g42 x0 = some r :=
  pick_of (fun _ _ ha hb => RRun.uniq (Q42_u) (ha .ex) (hb .ex)) (fun ox0 => g42_sim x0 ox0 r h)
/-! "slices.IndexFunc[[]colander/rule.Rule,colander/rule.Rule]": g52 -/
noncomputable def b52 (x0 : List Srule_Rule) : Option (Int) :=
 g52_l2 x0 ((x0.length : Int)) 0
theorem g52_sim (x0 : List Srule_Rule) (ox0 : Own) : Sim (Q52) (b52 x0) (EE 52 [(.p (.lst ox0 (x0.map e_Srule_Rule))), (.clo 43 [] [(.ptr 0 0)])] [[(.clo 21 [] [])]]) := by
  unfold b52
  refine zf (f52_eq ..) ?_
  refine ze ?_
  refine ze ?_
  refine zo (iv (x0.length : Int)) ?_ (Eq.trans (by kernel_rfl) (xlen_of (P := PP) (t := 22) (d := 43) (by kernel_rfl) e_Srule_Rule (shrO ox0) x0))
  exact zk (g52_l2_to (x0) ((x0.length : Int)) (0) ox0)
theorem g52_of (x0 : List Srule_Rule) {r} (h : b52 x0 = some r) : g52 x0 = some r :=
  pick_of (fun _ _ ha hb => RRun.uniq (Q52_u) (ha .ex) (hb .ex)) (fun ox0 => g52_sim x0 ox0 r h)
noncomputable def b52_r6 (x0 : List Srule_Rule) (x7 : Int) (x8 : Int) : Option (Int) :=
 g52_l2 x0 x7 ((IntKind.i64.wrap (x8 + 1)))
theorem g52_r6_sim (x0 : List Srule_Rule) (x7 : Int) (x8 : Int) (ox0 : Own) : Sim (Q52) (b52_r6 x0 x7 x8) (f52_r6 1 (.p (.lst ox0 (x0.map e_Srule_Rule))) (.clo 43 [] [(.ptr 0 0)]) (iv x7) (iv x8) [[(.clo 21 [] [])]]) := by
  unfold b52_r6
  refine zf (f52_r6_eq ..) ?_
  refine ze ?_
  refine zo (iv (IntKind.i64.wrap (x8 + 1))) ?_
  exact zk (g52_l2_to (x0) (x7) ((IntKind.i64.wrap (x8 + 1))) ox0)
noncomputable def b52_r3 (x0 : List Srule_Rule) (x7 : Int) (x8 : Int) : Option (Int) :=
 (lget x0 x8).bind fun a1 =>
 (g43 a1).bind fun r2 =>
 if (r2) = true then
 (some (x8))
 else
 (b52_r6 x0 x7 x8)
theorem g52_r3_sim (x0 : List Srule_Rule) (x7 : Int) (x8 : Int) (ox0 : Own) : Sim (Q52) (b52_r3 x0 x7 x8) (f52_r3 1 (.p (.lst ox0 (x0.map e_Srule_Rule))) (.clo 43 [] [(.ptr 0 0)]) (iv x7) (iv x8) [[(.clo 21 [] [])]]) := by
  unfold b52_r3
  refine zf (f52_r3_eq ..) ?_
  refine ze ?_
  refine ze ?_
  refine zi fun a1 ha1 => ?_
  refine zo (.cptr (k_Srule_Rule a1)) ?_ (Eq.trans (by kernel_rfl) (xidx_of (o := (shrO ox0)) (k := .i64) (n := 5) (e := e_Srule_Rule) (cs := c_Srule_Rule) (fun _ => rfl) (fun _ => rfl) (by decide) ha1))
  refine zo (.p (.agg (k_Srule_Rule a1))) ?_
  refine zi fun r2 hr2 => ?_
  obtain ⟨qr2, er2, exr2, rfl⟩ := g43_to (a1) r2 hr2
  refine zv [0] (bv r2) [[(.clo 21 [] [])]] er2 ?_
  refine za (r2) ?_ ?_
  · refine ze ?_
    exact zr ((iv x8), [[(.clo 21 [] [])]]) ⟨_, rfl⟩
  · exact zk (g52_r6_sim (x0) (x7) (x8) ox0)
noncomputable def b52_r7  : Option (Int) :=
 some ((-1))
theorem g52_r7_sim  : Sim (Q52) (b52_r7) (f52_r7 1  [[(.clo 21 [] [])]]) := by
  unfold b52_r7
  refine zf (f52_r7_eq ..) ?_
  refine ze ?_
  exact zr ((iv (-1)), [[(.clo 21 [] [])]]) ⟨_, rfl⟩
noncomputable def b52_l2 (x0 : List Srule_Rule) (x7 : Int) (x8 : Int) : Option (Int) :=
 if ((decide (x8 < x7))) = true then
 (b52_r3 x0 x7 x8)
 else
 (b52_r7)
theorem g52_l2_sim (x0 : List Srule_Rule) (x7 : Int) (x8 : Int) (ox0 : Own) : Sim (Q52) (b52_l2 x0 x7 x8) (f52_l2 1 (.p (.lst ox0 (x0.map e_Srule_Rule))) (.clo 43 [] [(.ptr 0 0)]) (iv x7) (iv x8) [[(.clo 21 [] [])]]) := by
  unfold b52_l2
  refine zf (f52_l2_eq ..) ?_
  refine ze ?_
  refine zo (bv (decide (x8 < x7))) ?_
  refine za ((decide (x8 < x7))) ?_ ?_
  · exact zk (g52_r3_sim (x0) (x7) (x8) ox0)
  · exact zk (g52_r7_sim )
theorem g52_l2_of (x0 : List Srule_Rule) (x7 : Int) (x8 : Int) {r} (h : b52_l2 x0 x7 x8 = some r) : g52_l2 x0 x7 x8 = some r :=
  pick_of (fun _ _ ha hb => RRun.uniq (Q52_u) (ha .ex) (hb .ex)) (fun ox0 => g52_l2_sim x0 x7 x8 ox0 r h)
/-! "colander/rule.all[colander/rule.Rule]$1": g43 -/
noncomputable def b43 (x0 : Srule_Rule) : Option (Bool) :=
 (g21 x0).bind fun r1 =>
 some ((!r1))
theorem g43_sim (x0 : Srule_Rule) : Sim (Q43) (b43 x0) (EE 43 [(.p (.agg (k_Srule_Rule x0))), (.ptr 0 0)] [[(.clo 21 [] [])]]) := by
  unfold b43
  refine zf (f43_eq ..) ?_
  refine ze ?_
  refine zx (.ptr 1 0) [[(.clo 21 [] [])], (r_Srule_Rule x0)] ?_
  refine ze ?_
  refine zo (.clo 21 [] []) ?_
  refine zo (.p (.agg (k_Srule_Rule x0))) ?_
  refine zi fun r1 hr1 => ?_
  obtain ⟨qr1, er1, exr1, rfl⟩ := g21_to (x0) r1 hr1
  refine zv [] (bv r1) [[(.clo 21 [] [])], (r_Srule_Rule x0)] er1 ?_
  refine zo (bv (!r1)) ?_
  exact zr ((bv (!r1)), [[(.clo 21 [] [])], (r_Srule_Rule x0)]) ⟨_, rfl⟩
theorem g43_of (x0 : Srule_Rule) {r} (h : b43 x0 = some r) : g43 x0 = some r :=
  pick_of (fun _ _ ha hb => RRun.uniq (Q43_u) (ha ) (hb )) (g43_sim x0 r h)
/-! "(colander/rule.Delta).twice": g29 -/
noncomputable def b29 (x0 : Srule_Delta) : Option (Bool) :=
 (g42v1 x0.Put (([] : List (Int × Bool)))).bind fun r1 =>
 if (r1.1) = true then
 (some (true))
 else
 ((g46 x0.Drop r1.2).bind fun r2 =>
 some (r2.1))
theorem g29_sim (x0 : Srule_Delta) (ox0_Put : Own) (ox0_Drop : Own) : Sim (Q29) (b29 x0) (EE 29 [(.p (.agg (k_Srule_Delta x0 ox0_Put ox0_Drop)))] []) := by
  unfold b29
  refine zf (f29_eq ..) ?_
  refine ze ?_
  refine zx (.ptr 0 0) [(r_Srule_Delta x0 ox0_Put ox0_Drop)] ?_
  refine ze ?_
  refine zm (.mp 1) [(r_Srule_Delta x0 ox0_Put ox0_Drop), [(.md ((([] : List (Int × Bool))).map (encM eB)))]] ?_
  refine zz (.ptr 2 0) [(r_Srule_Delta x0 ox0_Put ox0_Drop), [(.md ((([] : List (Int × Bool))).map (encM eB)))], [(.p (.v (.map none)))]] ?_
  refine zt [(r_Srule_Delta x0 ox0_Put ox0_Drop), [(.md ((([] : List (Int × Bool))).map (encM eB)))], [(.mp 1)]] ?_
  refine ze ?_
  refine zz (.ptr 3 0) [(r_Srule_Delta x0 ox0_Put ox0_Drop), [(.md ((([] : List (Int × Bool))).map (encM eB)))], [(.mp 1)], [(.p (.v .nilFunc))]] ?_
  refine zt [(r_Srule_Delta x0 ox0_Put ox0_Drop), [(.md ((([] : List (Int × Bool))).map (encM eB)))], [(.mp 1)], [(.clo 44 [] [(.ptr 2 0)])]] ?_
  refine ze ?_
  refine zo (.ptr 0 4) ?_
  refine zo (.p (.lst (shrO ox0_Put) (x0.Put.map e_Srule_Rule))) ?_
  refine zi fun r1 hr1 => ?_
  obtain ⟨qr1, er1, exr1, rfl⟩ := g42v1_to (x0.Put) (([] : List (Int × Bool))) .sh r1 hr1
  refine zc [3, 2, 1] (bv r1.1) [(r_Srule_Delta x0 ox0_Put ox0_Drop), [(.md ((r1.2).map (encM eB)))], [(.mp 1)], [(.clo 44 [] [(.ptr 2 0)])]] er1 ?_
  refine za (r1.1) ?_ ?_
  · exact zr ((bv true), [(r_Srule_Delta x0 ox0_Put ox0_Drop), [(.md ((r1.2).map (encM eB)))], [(.mp 1)], [(.clo 44 [] [(.ptr 2 0)])]]) ⟨_, rfl⟩
  · refine zo (.ptr 0 5) ?_
    refine zo (.p (.lst (shrO ox0_Drop) (x0.Drop.map (eI .i64)))) ?_
    refine zo (.clo 44 [] [(.ptr 2 0)]) ?_
    refine zi fun r2 hr2 => ?_
    obtain ⟨qr2, er2, exr2, rfl⟩ := g46_to (x0.Drop) (r1.2) .sh r2 hr2
    refine zc [2, 1] (bv r2.1) [(r_Srule_Delta x0 ox0_Put ox0_Drop), [(.md ((r2.2).map (encM eB)))], [(.mp 1)], [(.clo 44 [] [(.ptr 2 0)])]] er2 ?_
    exact zr ((bv r2.1), [(r_Srule_Delta x0 ox0_Put ox0_Drop), [(.md ((r2.2).map (encM eB)))], [(.mp 1)], [(.clo 44 [] [(.ptr 2 0)])]]) ⟨_, rfl⟩
theorem g29_of (x0 : Srule_Delta) {r} (h : b29 x0 = some r) : g29 x0 = some r :=
  pick_of (fun _ _ ha hb => RRun.uniq (Q29_u) (ha .ex .ex) (hb .ex .ex)) (fun ox0_Put ox0_Drop => g29_sim x0 ox0_Put ox0_Drop r h)
end Go.Proofs.Ytbmmhbpalkepeaa.N2
end

section
set_option linter.unusedSimpArgs false
set_option linter.unusedVariables false
namespace Go.Proofs.Ytbmmhbpalkepeaa.N2
open Go Go.Abs
set_option linter.unusedVariables false
set_option maxRecDepth 100000
/-! "slices.ContainsFunc[[]colander/rule.Rule,colander/rule.Rule]": g42v1 -/
noncomputable def b42v1 (x0 : List Srule_Rule) (b2_0 : List (Int × Bool)) : Option (Bool × (List (Int × Bool))) :=
 (g52v1 x0 b2_0).bind fun r1 =>
 some ((decide (0 ≤ r1.1)), r1.2)
theorem g42v1_sim (x0 : List Srule_Rule) (b2_0 : List (Int × Bool)) (ox0 : Own) : Sim (Q42v1) (b42v1 x0 b2_0) (EE 42 [(.p (.lst ox0 (x0.map e_Srule_Rule))), (.clo 45 [] [(.ptr 0 0)])] [[(.clo 44 [] [(.ptr 1 0)])], [(.mp 2)], [(.md ((b2_0).map (encM eB)))]]) := by
  unfold b42v1
  refine zf (f42_eq ..) ?_
  refine ze ?_
  refine ze ?_
  refine zi fun r1 hr1 => ?_
  obtain ⟨qr1, er1, exr1, rfl⟩ := g52v1_to (x0) (b2_0) .sh r1 hr1
  refine zc [0, 1, 2] (iv r1.1) [[(.clo 44 [] [(.ptr 1 0)])], [(.mp 2)], [(.md ((r1.2).map (encM eB)))]] er1 ?_
  refine zo (bv (decide (0 ≤ r1.1))) ?_
  exact zr ((bv (decide (0 ≤ r1.1))), [[(.clo 44 [] [(.ptr 1 0)])], [(.mp 2)], [(.md ((r1.2).map (encM eB)))]]) ⟨_, rfl⟩
theorem g42v1_of (x0 : List Srule_Rule) (b2_0 : List (Int × Bool)) {r} (h : b42v1 x0 b2_0 = some r) : g42v1 x0 b2_0 = some r :=
  pick_of (fun _ _ ha hb => RRun.uniq (Q42v1_u) (ha .ex) (hb .ex)) (fun ox0 => g42v1_sim x0 b2_0 ox0 r h)
/-! "slices.IndexFunc[[]colander/rule.Rule,colander/rule.Rule]": g52v1 -/
noncomputable def b52v1 (x0 : List Srule_Rule) (b2_0 : List (Int × Bool)) : Option (Int × (List (Int × Bool))) :=
 g52v1_l2 x0 ((x0.length : Int)) 0 b2_0
theorem g52v1_sim (x0 : List Srule_Rule) (b2_0 : List (Int × Bool)) (ox0 : Own) : Sim (Q52v1) (b52v1 x0 b2_0) (EE 52 [(.p (.lst ox0 (x0.map e_Srule_Rule))), (.clo 45 [] [(.ptr 0 0)])] [[(.clo 44 [] [(.ptr 1 0)])], [(.mp 2)], [(.md ((b2_0).map (encM eB)))]]) := by
  unfold b52v1
  refine zf (f52_eq ..) ?_
  refine ze ?_
  refine ze ?_
  refine zo (iv (x0.length : Int)) ?_ (Eq.trans (by kernel_rfl) (xlen_of (P := PP) (t := 22) (d := 43) (by kernel_rfl) e_Srule_Rule (shrO ox0) x0))
  exact zk (g52v1_l2_to (x0) ((x0.length : Int)) (0) (b2_0) ox0)
theorem g52v1_of (x0 : List Srule_Rule) (b2_0 : List (Int × Bool)) {r} (h : b52v1 x0 b2_0 = some r) : g52v1 x0 b2_0 = some r :=
  pick_of (fun _ _ ha hb => RRun.uniq (Q52v1_u) (ha .ex) (hb .ex)) (fun ox0 => g52v1_sim x0 b2_0 ox0 r h)
noncomputable def b52v1_r6 (x0 : List Srule_Rule) (x7 : Int) (x8 : Int) (b2_0 : List (Int × Bool)) : Option (Int × (List (Int × Bool))) :=
 g52v1_l2 x0 x7 ((IntKind.i64.wrap (x8 + 1))) b2_0
theorem g52v1_r6_sim (x0 : List Srule_Rule) (x7 : Int) (x8 : Int) (b2_0 : List (Int × Bool)) (ox0 : Own) : Sim (Q52v1) (b52v1_r6 x0 x7 x8 b2_0) (f52_r6 3 (.p (.lst ox0 (x0.map e_Srule_Rule))) (.clo 45 [] [(.ptr 0 0)]) (iv x7) (iv x8) [[(.clo 44 [] [(.ptr 1 0)])], [(.mp 2)], [(.md ((b2_0).map (encM eB)))]]) := by
  unfold b52v1_r6
  refine zf (f52_r6_eq ..) ?_
  refine ze ?_
  refine zo (iv (IntKind.i64.wrap (x8 + 1))) ?_
  exact zk (g52v1_l2_to (x0) (x7) ((IntKind.i64.wrap (x8 + 1))) (b2_0) ox0)
noncomputable def b52v1_r3 (x0 : List Srule_Rule) (x7 : Int) (x8 : Int) (b2_0 : List (Int × Bool)) : Option (Int × (List (Int × Bool))) :=
 (lget x0 x8).bind fun a1 =>
 (g45 a1 b2_0).bind fun r2 =>
 if (r2.1) = true then
 (some (x8, r2.2))
 else
 (b52v1_r6 x0 x7 x8 r2.2)
theorem g52v1_r3_sim (x0 : List Srule_Rule) (x7 : Int) (x8 : Int) (b2_0 : List (Int × Bool)) (ox0 : Own) : Sim (Q52v1) (b52v1_r3 x0 x7 x8 b2_0) (f52_r3 3 (.p (.lst ox0 (x0.map e_Srule_Rule))) (.clo 45 [] [(.ptr 0 0)]) (iv x7) (iv x8) [[(.clo 44 [] [(.ptr 1 0)])], [(.mp 2)], [(.md ((b2_0).map (encM eB)))]]) := by
  unfold b52v1_r3
  refine zf (f52_r3_eq ..) ?_
  refine ze ?_
  refine ze ?_
  refine zi fun a1 ha1 => ?_
  refine zo (.cptr (k_Srule_Rule a1)) ?_ (Eq.trans (by kernel_rfl) (xidx_of (o := (shrO ox0)) (k := .i64) (n := 5) (e := e_Srule_Rule) (cs := c_Srule_Rule) (fun _ => rfl) (fun _ => rfl) (by decide) ha1))
  refine zo (.p (.agg (k_Srule_Rule a1))) ?_
  refine zi fun r2 hr2 => ?_
  obtain ⟨qr2, er2, exr2, rfl⟩ := g45_to (a1) (b2_0) r2 hr2
  refine zv [0, 1, 2] (bv r2.1) [[(.clo 44 [] [(.ptr 1 0)])], [(.mp 2)], [(.md ((r2.2).map (encM eB)))]] er2 ?_
  refine za (r2.1) ?_ ?_
  · refine ze ?_
    exact zr ((iv x8), [[(.clo 44 [] [(.ptr 1 0)])], [(.mp 2)], [(.md ((r2.2).map (encM eB)))]]) ⟨_, rfl⟩
  · exact zk (g52v1_r6_sim (x0) (x7) (x8) (r2.2) ox0)
noncomputable def b52v1_r7 (b2_0 : List (Int × Bool)) : Option (Int × (List (Int × Bool))) :=
 some ((-1), b2_0)
theorem g52v1_r7_sim (b2_0 : List (Int × Bool)) : Sim (Q52v1) (b52v1_r7 b2_0) (f52_r7 3  [[(.clo 44 [] [(.ptr 1 0)])], [(.mp 2)], [(.md ((b2_0).map (encM eB)))]]) := by
  unfold b52v1_r7
  refine zf (f52_r7_eq ..) ?_
  refine ze ?_
  exact zr ((iv (-1)), [[(.clo 44 [] [(.ptr 1 0)])], [(.mp 2)], [(.md ((b2_0).map (encM eB)))]]) ⟨_, rfl⟩
noncomputable def b52v1_l2 (x0 : List Srule_Rule) (x7 : Int) (x8 : Int) (b2_0 : List (Int × Bool)) : Option (Int × (List (Int × Bool))) :=
 if ((decide (x8 < x7))) = true then
 (b52v1_r3 x0 x7 x8 b2_0)
 else
 (b52v1_r7 b2_0)
theorem g52v1_l2_sim (x0 : List Srule_Rule) (x7 : Int) (x8 : Int) (b2_0 : List (Int × Bool)) (ox0 : Own) : Sim (Q52v1) (b52v1_l2 x0 x7 x8 b2_0) (f52_l2 3 (.p (.lst ox0 (x0.map e_Srule_Rule))) (.clo 45 [] [(.ptr 0 0)]) (iv x7) (iv x8) [[(.clo 44 [] [(.ptr 1 0)])], [(.mp 2)], [(.md ((b2_0).map (encM eB)))]]) := by
  unfold b52v1_l2
  refine zf (f52_l2_eq ..) ?_
  refine ze ?_
  refine zo (bv (decide (x8 < x7))) ?_
  refine za ((decide (x8 < x7))) ?_ ?_
  · exact zk (g52v1_r3_sim (x0) (x7) (x8) (b2_0) ox0)
  · exact zk (g52v1_r7_sim (b2_0))
theorem g52v1_l2_of (x0 : List Srule_Rule) (x7 : Int) (x8 : Int) (b2_0 : List (Int × Bool)) {r} (h : b52v1_l2 x0 x7 x8 b2_0 = some r) : g52v1_l2 x0 x7 x8 b2_0 = some r :=
  pick_of (fun _ _ ha hb => RRun.uniq (Q52v1_u) (ha .ex) (hb .ex)) (fun ox0 => g52v1_l2_sim x0 x7 x8 b2_0 ox0 r h)
/-! "(colander/rule.Delta).twice$2": g45 -/
noncomputable def b45 (x0 : Srule_Rule) (b2_0 : List (Int × Bool)) : Option (Bool × (List (Int × Bool))) :=
 (g44 x0.ID b2_0).bind fun r1 =>
 some (r1.1, r1.2)
theorem g45_sim (x0 : Srule_Rule) (b2_0 : List (Int × Bool)) : Sim (Q45) (b45 x0 b2_0) (EE 45 [(.p (.agg (k_Srule_Rule x0))), (.ptr 0 0)] [[(.clo 44 [] [(.ptr 1 0)])], [(.mp 2)], [(.md ((b2_0).map (encM eB)))]]) := by
  unfold b45
  refine zf (f45_eq ..) ?_
  refine ze ?_
  refine zx (.ptr 3 0) [[(.clo 44 [] [(.ptr 1 0)])], [(.mp 2)], [(.md ((b2_0).map (encM eB)))], (r_Srule_Rule x0)] ?_
  refine ze ?_
  refine zo (.clo 44 [] [(.ptr 1 0)]) ?_
  refine zo (.ptr 3 0) ?_
  refine zo (iv x0.ID) ?_
  refine zi fun r1 hr1 => ?_
  obtain ⟨qr1, er1, exr1, rfl⟩ := g44_to (x0.ID) (b2_0) r1 hr1
  refine zv [1, 2] (bv r1.1) [[(.clo 44 [] [(.ptr 1 0)])], [(.mp 2)], [(.md ((r1.2).map (encM eB)))], (r_Srule_Rule x0)] er1 ?_
  exact zr ((bv r1.1), [[(.clo 44 [] [(.ptr 1 0)])], [(.mp 2)], [(.md ((r1.2).map (encM eB)))], (r_Srule_Rule x0)]) ⟨_, rfl⟩
theorem g45_of (x0 : Srule_Rule) (b2_0 : List (Int × Bool)) {r} (h : b45 x0 b2_0 = some r) : g45 x0 b2_0 = some r :=
  pick_of (fun _ _ ha hb => RRun.uniq (Q45_u) (ha ) (hb )) (g45_sim x0 b2_0 r h)
/-! "(colander/rule.Delta).twice$1": g44 -/
noncomputable def b44 (x0 : Int) (b1_0 : List (Int × Bool)) : Option (Bool × (List (Int × Bool))) :=
 some (((getM b1_0 x0).getD false), (putM b1_0 x0 true))
theorem g44_sim (x0 : Int) (b1_0 : List (Int × Bool)) : Sim (Q44) (b44 x0 b1_0) (EE 44 [(iv x0), (.ptr 0 0)] [[(.mp 1)], [(.md ((b1_0).map (encM eB)))]]) := by
  unfold b44
  refine zf (f44_eq ..) ?_
  refine ze ?_
  refine ze ?_
  refine zo (.mp 1) ?_
  refine zo (bv ((getM b1_0 x0).getD false)) ?_ (Eq.trans (b := xlook PP 75 false (.mp 1) (iv x0) [[(.mp 1)], [(.md ((b1_0).map (encM eB)))]]) (by kernel_rfl) <| (xlook_of (e := eB) (z := false) (es := b1_0) (te := 4) (by kernel_rfl) (by kernel_rfl) (by kernel_rfl) false).trans (by kernel_rfl))
  refine ze ?_
  refine zo (.mp 1) ?_
  refine Sim.xupd (B2 := [[(.mp 1)], [(.md (((putM b1_0 x0 true)).map (encM eB)))]]) (fun K => Eq.trans (b := xupd PP 75 (.mp 1) (iv x0) (bv true) [[(.mp 1)], [(.md ((b1_0).map (encM eB)))]] K) (by kernel_rfl) <| xupd_of (P := PP) (t := 75) (K := K) (B2 := [[(.mp 1)], [(.md (((putM b1_0 x0 true)).map (encM eB)))]]) (e := eB) (a := true) (es := b1_0) (te := 4) (by kernel_rfl) (by kernel_rfl) (by kernel_rfl) (by kernel_rfl) (by kernel_rfl)) ?_
  refine ze ?_
  exact zr ((bv ((getM b1_0 x0).getD false)), [[(.mp 1)], [(.md (((putM b1_0 x0 true)).map (encM eB)))]]) ⟨_, rfl⟩
theorem g44_of (x0 : Int) (b1_0 : List (Int × Bool)) {r} (h : b44 x0 b1_0 = some r) : g44 x0 b1_0 = some r :=
  pick_of (fun _ _ ha hb => RRun.uniq (Q44_u) (ha ) (hb )) (g44_sim x0 b1_0 r h)
/-! "slices.ContainsFunc[[]int,int]": g46 -/
noncomputable def b46 (x0 : List Int) (b1_0 : List (Int × Bool)) : Option (Bool × (List (Int × Bool))) :=
 (g53 x0 b1_0).bind fun r1 =>
 some ((decide (0 ≤ r1.1)), r1.2)
theorem g46_sim (x0 : List Int) (b1_0 : List (Int × Bool)) (ox0 : Own) : Sim (Q46) (b46 x0 b1_0) (EE 46 [(.p (.lst ox0 (x0.map (eI .i64)))), (.clo 44 [] [(.ptr 0 0)])] [[(.mp 1)], [(.md ((b1_0).map (encM eB)))]]) := by
  unfold b46
  refine zf (f46_eq ..) ?_
  refine ze ?_
  refine ze ?_
  refine zi fun r1 hr1 => ?_
  obtain ⟨qr1, er1, exr1, rfl⟩ := g53_to (x0) (b1_0) .sh r1 hr1
  refine zc [0, 1] (iv r1.1) [[(.mp 1)], [(.md ((r1.2).map (encM eB)))]] er1 ?_
  refine zo (bv (decide (0 ≤ r1.1))) ?_
  exact zr ((bv (decide (0 ≤ r1.1))), [[(.mp 1)], [(.md ((r1.2).map (encM eB)))]]) ⟨_, rfl⟩
theorem g46_of (x0 : List Int) (b1_0 : List (Int × Bool)) {r} (h : b46 x0 b1_0 = some r) : g46 x0 b1_0 = some r :=
  pick_of (fun _ _ ha hb => RRun.uniq (Q46_u) (ha .ex) (hb .ex)) (fun ox0 => g46_sim x0 b1_0 ox0 r h)
/-! "slices.IndexFunc[[]int,int]": g53 -/
noncomputable def b53 (x0 : List Int) (b1_0 : List (Int × Bool)) : Option (Int × (List (Int × Bool))) :=
 g53_l2 x0 ((x0.length : Int)) 0 b1_0
theorem g53_sim (x0 : List Int) (b1_0 : List (Int × Bool)) (ox0 : Own) : Sim (Q53) (b53 x0 b1_0) (EE 53 [(.p (.lst ox0 (x0.map (eI .i64)))), (.clo 44 [] [(.ptr 0 0)])] [[(.mp 1)], [(.md ((b1_0).map (encM eB)))]]) := by
  unfold b53
  refine zf (f53_eq ..) ?_
  refine ze ?_
  refine ze ?_
  refine zo (iv (x0.length : Int)) ?_ (Eq.trans (by kernel_rfl) (xlen_of (P := PP) (t := 25) (d := 3) (by kernel_rfl) (eI .i64) (shrO ox0) x0))
  exact zk (g53_l2_to (x0) ((x0.length : Int)) (0) (b1_0) ox0)
theorem g53_of (x0 : List Int) (b1_0 : List (Int × Bool)) {r} (h : b53 x0 b1_0 = some r) : g53 x0 b1_0 = some r :=
  pick_of (fun _ _ ha hb => RRun.uniq (Q53_u) (ha .ex) (hb .ex)) (fun ox0 => g53_sim x0 b1_0 ox0 r h)
noncomputable def b53_r6 (x0 : List Int) (x7 : Int) (x8 : Int) (b1_0 : List (Int × Bool)) : Option (Int × (List (Int × Bool))) :=
 g53_l2 x0 x7 ((IntKind.i64.wrap (x8 + 1))) b1_0
theorem g53_r6_sim (x0 : List Int) (x7 : Int) (x8 : Int) (b1_0 : List (Int × Bool)) (ox0 : Own) : Sim (Q53) (b53_r6 x0 x7 x8 b1_0) (f53_r6 2 (.p (.lst ox0 (x0.map (eI .i64)))) (.clo 44 [] [(.ptr 0 0)]) (iv x7) (iv x8) [[(.mp 1)], [(.md ((b1_0).map (encM eB)))]]) := by
  unfold b53_r6
  refine zf (f53_r6_eq ..) ?_
  refine ze ?_
  refine zo (iv (IntKind.i64.wrap (x8 + 1))) ?_
  exact zk (g53_l2_to (x0) (x7) ((IntKind.i64.wrap (x8 + 1))) (b1_0) ox0)
noncomputable def b53_r3 (x0 : List Int) (x7 : Int) (x8 : Int) (b1_0 : List (Int × Bool)) : Option (Int × (List (Int × Bool))) :=
 (lget x0 x8).bind fun a1 =>
 (g44 a1 b1_0).bind fun r2 =>
 if (r2.1) = true then
 (some (x8, r2.2))
 else
 (b53_r6 x0 x7 x8 r2.2)
theorem g53_r3_sim (x0 : List Int) (x7 : Int) (x8 : Int) (b1_0 : List (Int × Bool)) (ox0 : Own) : Sim (Q53) (b53_r3 x0 x7 x8 b1_0) (f53_r3 2 (.p (.lst ox0 (x0.map (eI .i64)))) (.clo 44 [] [(.ptr 0 0)]) (iv x7) (iv x8) [[(.mp 1)], [(.md ((b1_0).map (encM eB)))]]) := by
  unfold b53_r3
  refine zf (f53_r3_eq ..) ?_
  refine ze ?_
  refine ze ?_
  refine zi fun a1 ha1 => ?_
  refine zo (.cptr [(.v (.int .i64 a1))]) ?_ (Eq.trans (by kernel_rfl) (xidx_of (o := (shrO ox0)) (k := .i64) (n := 1) (e := (eI .i64)) (cs := (fun a => [(eI .i64) a])) (fun _ => rfl) (fun _ => rfl) (by decide) ha1))
  refine zo (iv a1) ?_
  refine zi fun r2 hr2 => ?_
  obtain ⟨qr2, er2, exr2, rfl⟩ := g44_to (a1) (b1_0) r2 hr2
  refine zv [0, 1] (bv r2.1) [[(.mp 1)], [(.md ((r2.2).map (encM eB)))]] er2 ?_
  refine za (r2.1) ?_ ?_
  · refine ze ?_
    exact zr ((iv x8), [[(.mp 1)], [(.md ((r2.2).map (encM eB)))]]) ⟨_, rfl⟩
  · exact zk (g53_r6_sim (x0) (x7) (x8) (r2.2) ox0)
noncomputable def b53_r7 (b1_0 : List (Int × Bool)) : Option (Int × (List (Int × Bool))) :=
 some ((-1), b1_0)
theorem g53_r7_sim (b1_0 : List (Int × Bool)) : Sim (Q53) (b53_r7 b1_0) (f53_r7 2  [[(.mp 1)], [(.md ((b1_0).map (encM eB)))]]) := by
  unfold b53_r7
  refine zf (f53_r7_eq ..) ?_
  refine ze ?_
  exact zr ((iv (-1)), [[(.mp 1)], [(.md ((b1_0).map (encM eB)))]]) ⟨_, rfl⟩
noncomputable def b53_l2 (x0 : List Int) (x7 : Int) (x8 : Int) (b1_0 : List (Int × Bool)) : Option (Int × (List (Int × Bool))) :=
 if ((decide (x8 < x7))) = true then
 (b53_r3 x0 x7 x8 b1_0)
 else
 (b53_r7 b1_0)
theorem g53_l2_sim (x0 : List Int) (x7 : Int) (x8 : Int) (b1_0 : List (Int × Bool)) (ox0 : Own) : Sim (Q53) (b53_l2 x0 x7 x8 b1_0) (f53_l2 2 (.p (.lst ox0 (x0.map (eI .i64)))) (.clo 44 [] [(.ptr 0 0)]) (iv x7) (iv x8) [[(.mp 1)], [(.md ((b1_0).map (encM eB)))]]) := by
  unfold b53_l2
  refine zf (f53_l2_eq ..) ?_
  refine ze ?_
  refine zo (bv (decide (x8 < x7))) ?_
  refine za ((decide (x8 < x7))) ?_ ?_
  · exact zk (g53_r3_sim (x0) (x7) (x8) (b1_0) ox0)
  · exact zk (g53_r7_sim (b1_0))
theorem g53_l2_of (x0 : List Int) (x7 : Int) (x8 : Int) (b1_0 : List (Int × Bool)) {r} (h : b53_l2 x0 x7 x8 b1_0 = some r) : g53_l2 x0 x7 x8 b1_0 = some r :=
  pick_of (fun _ _ ha hb => RRun.uniq (Q53_u) (ha .ex) (hb .ex)) (fun ox0 => g53_l2_sim x0 x7 x8 b1_0 ox0 r h)
/-! "maps.Keys[map[int]colander/rule.Rule,int,colander/rule.Rule]": g31 -/
noncomputable def b31  : Option (Unit) :=
 some ()
theorem g31_sim (b0_0 : List (Int × Srule_Rule)) : Sim (Q31 b0_0) (b31) (EE 31 [(.mp 0)] [[(.md ((b0_0).map (encM e_Srule_Rule)))]]) := by
  unfold b31
  refine zf (f31_eq ..) ?_
  refine ze ?_
  refine zx (.ptr 1 0) [[(.md ((b0_0).map (encM e_Srule_Rule)))], [(.mp 0)]] ?_
  refine ze ?_
  exact zr ((.clo 49 [] [(.ptr 1 0)]), [[(.md ((b0_0).map (encM e_Srule_Rule)))], [(.mp 0)]]) ⟨[], rfl, rfl⟩
theorem g31_of  {r} (h : b31 = some r) : g31 = some r :=
  pick_of (fun _ _ ha hb => RRun.uniq (Q31_u _) (ha default) (hb default)) (fun b0_0 => g31_sim b0_0 r h)
/-! "colander/colandermade.Set": g14 -/
noncomputable def b14 (x0 : Srule_Set) : Option (Scolanderref07_Set) :=
 g14_l3 x0.Rules ((x0.Rules.length : Int)) 0 x0.Default x0.Closed x0.Fuel x0.Stack (([] : List Srule_Rule))
theorem g14_sim (x0 : Srule_Set) (ox0_Rules : Own) : Sim (Q14) (b14 x0) (EE 14 [(.p (.agg (k_Srule_Set x0 ox0_Rules)))] []) := by
  unfold b14
  refine zf (f14_eq ..) ?_
  refine ze ?_
  refine zx (.ptr 0 0) [(r_Srule_Set x0 ox0_Rules)] ?_
  refine zz (.ptr 1 0) [(r_Srule_Set x0 ox0_Rules), (r_Scolanderref07_Set (Scolanderref07_Set.mk 0 0 0 0 ([] : List Srule_Rule)) .nl)] ?_
  refine ze ?_
  refine zo (.ptr 0 0) ?_
  refine zo (iv x0.Default) ?_
  refine zo (.ptr 0 1) ?_
  refine zo (iv x0.Closed) ?_
  refine zo (.ptr 0 2) ?_
  refine zo (iv x0.Fuel) ?_
  refine zo (.ptr 0 3) ?_
  refine zo (iv x0.Stack) ?_
  refine zo (.p (.agg (k_Scolanderref07_Set (Scolanderref07_Set.mk x0.Default x0.Closed x0.Fuel x0.Stack ([] : List Srule_Rule)) .nl))) ?_
  refine zz (.ptr 2 0) [(r_Srule_Set x0 ox0_Rules), (r_Scolanderref07_Set (Scolanderref07_Set.mk 0 0 0 0 ([] : List Srule_Rule)) .nl), (r_Scolanderref07_Set (Scolanderref07_Set.mk 0 0 0 0 ([] : List Srule_Rule)) .nl)] ?_
  refine zt [(r_Srule_Set x0 ox0_Rules), (r_Scolanderref07_Set (Scolanderref07_Set.mk 0 0 0 0 ([] : List Srule_Rule)) .nl), (r_Scolanderref07_Set (Scolanderref07_Set.mk x0.Default x0.Closed x0.Fuel x0.Stack ([] : List Srule_Rule)) .nl)] ?_
  refine ze ?_
  refine zo (.ptr 0 4) ?_
  refine zo (.p (.lst (shrO ox0_Rules) (x0.Rules.map e_Srule_Rule))) ?_
  refine zo (iv (x0.Rules.length : Int)) ?_ (Eq.trans (by kernel_rfl) (xlen_of (P := PP) (t := 22) (d := 43) (by kernel_rfl) e_Srule_Rule (shrO ox0_Rules) x0.Rules))
  exact zk (g14_l3_to (x0.Rules) ((x0.Rules.length : Int)) (0) (x0) ((Scolanderref07_Set.mk 0 0 0 0 ([] : List Srule_Rule))) (x0.Default) (x0.Closed) (x0.Fuel) (x0.Stack) (([] : List Srule_Rule)) (shrO ox0_Rules) ox0_Rules .nl .nl rfl rfl)
theorem g14_of (x0 : Srule_Set) {r} (h : b14 x0 = some r) : g14 x0 = some r :=
  pick_of (fun _ _ ha hb => RRun.uniq (Q14_u) (ha .ex) (hb .ex)) (fun ox0_Rules => g14_sim x0 ox0_Rules r h)
noncomputable def b14_r4 (x16 : List Srule_Rule) (x17 : Int) (x18 : Int) (b2_Default : Int) (b2_Closed : Int) (b2_Fuel : Int) (b2_Stack : Int) (b2_Rules : List Srule_Rule) : Option (Scolanderref07_Set) :=
 (lget x16 x18).bind fun a1 =>
 (lapp b2_Rules ([a1] : List Srule_Rule)).bind fun a2 =>
 g14_l3 x16 x17 ((IntKind.i64.wrap (x18 + 1))) b2_Default b2_Closed b2_Fuel b2_Stack a2
theorem g14_r4_sim (x16 : List Srule_Rule) (x17 : Int) (x18 : Int) (b0 : Srule_Set) (b1 : Scolanderref07_Set) (b2_Default : Int) (b2_Closed : Int) (b2_Fuel : Int) (b2_Stack : Int) (b2_Rules : List Srule_Rule) (ox16 : Own) (ob0_Rules : Own) (ob1_Rules : Own) (ob2_Rules : Own) (hob1_Rules : okApp ob1_Rules = true) (hob2_Rules : okApp ob2_Rules = true) : Sim (Q14) (b14_r4 x16 x17 x18 b2_Default b2_Closed b2_Fuel b2_Stack b2_Rules) (f14_r4 0 (.ptr 1 0) (.ptr 2 0) (.p (.lst ox16 (x16.map e_Srule_Rule))) (iv x17) (iv x18) [(r_Srule_Set b0 ob0_Rules), (r_Scolanderref07_Set b1 ob1_Rules), (r_Scolanderref07_Set (Scolanderref07_Set.mk b2_Default b2_Closed b2_Fuel b2_Stack b2_Rules) ob2_Rules)]) := by
  unfold b14_r4
  refine zf (f14_r4_eq ..) ?_
  refine ze ?_
  refine zi fun a1 ha1 => ?_
  refine zo (.cptr (k_Srule_Rule a1)) ?_ (Eq.trans (by kernel_rfl) (xidx_of (o := ox16) (k := .i64) (n := 5) (e := e_Srule_Rule) (cs := c_Srule_Rule) (fun _ => rfl) (fun _ => rfl) (by decide) ha1))
  refine zo (.p (.agg (k_Srule_Rule a1))) ?_
  refine zz (.ptr 3 0) [(r_Srule_Set b0 ob0_Rules), (r_Scolanderref07_Set b1 ob1_Rules), (r_Scolanderref07_Set (Scolanderref07_Set.mk b2_Default b2_Closed b2_Fuel b2_Stack b2_Rules) ob2_Rules), (r_Srule_Rule (Srule_Rule.mk 0 0 0 0 (ByteArray.mk #[])))] ?_
  refine zt [(r_Srule_Set b0 ob0_Rules), (r_Scolanderref07_Set b1 ob1_Rules), (r_Scolanderref07_Set (Scolanderref07_Set.mk b2_Default b2_Closed b2_Fuel b2_Stack b2_Rules) ob2_Rules), (r_Srule_Rule a1)] ?_
  refine ze ?_
  refine zo (.ptr 2 4) ?_
  refine zw (.p (.lst ob2_Rules (b2_Rules.map e_Srule_Rule))) [(r_Srule_Set b0 ob0_Rules), (r_Scolanderref07_Set b1 ob1_Rules), (r_Scolanderref07_Set (Scolanderref07_Set.mk b2_Default b2_Closed b2_Fuel b2_Stack b2_Rules) (shrO ob2_Rules)), (r_Srule_Rule a1)] ?_
  refine zo (.p (.agg (k_Srule_Rule a1))) ?_
  refine zo (.p (.lst .ex (([a1] : List Srule_Rule).map e_Srule_Rule))) ?_
  refine zi fun a2 ha2 => ?_
  refine zo (.p (.lst .un (a2.map e_Srule_Rule))) ?_ (Eq.trans (by kernel_rfl) <| xapp_of (n := 5) (o := ob2_Rules) (o' := .ex) (e := e_Srule_Rule) (ys := ([a1] : List Srule_Rule)) (fun _ => rfl) (by decide) hob2_Rules ha2)
  refine zo (.ptr 2 4) ?_
  refine zt [(r_Srule_Set b0 ob0_Rules), (r_Scolanderref07_Set b1 ob1_Rules), (r_Scolanderref07_Set (Scolanderref07_Set.mk b2_Default b2_Closed b2_Fuel b2_Stack a2) .un), (r_Srule_Rule a1)] ?_
  refine ze ?_
  refine zo (iv (IntKind.i64.wrap (x18 + 1))) ?_
  exact zk (g14_l3_to (x16) (x17) ((IntKind.i64.wrap (x18 + 1))) (b0) (b1) (b2_Default) (b2_Closed) (b2_Fuel) (b2_Stack) (a2) ox16 ob0_Rules ob1_Rules .un hob1_Rules rfl)
noncomputable def b14_r7 (b2_Default : Int) (b2_Closed : Int) (b2_Fuel : Int) (b2_Stack : Int) (b2_Rules : List Srule_Rule) : Option (Scolanderref07_Set) :=
 some ((Scolanderref07_Set.mk b2_Default b2_Closed b2_Fuel b2_Stack b2_Rules))
theorem g14_r7_sim (b0 : Srule_Set) (b1 : Scolanderref07_Set) (b2_Default : Int) (b2_Closed : Int) (b2_Fuel : Int) (b2_Stack : Int) (b2_Rules : List Srule_Rule) (ob0_Rules : Own) (ob1_Rules : Own) (ob2_Rules : Own) (hob1_Rules : okApp ob1_Rules = true) (hob2_Rules : okApp ob2_Rules = true) : Sim (Q14) (b14_r7 b2_Default b2_Closed b2_Fuel b2_Stack b2_Rules) (f14_r7 0 (.ptr 1 0) (.ptr 2 0) [(r_Srule_Set b0 ob0_Rules), (r_Scolanderref07_Set b1 ob1_Rules), (r_Scolanderref07_Set (Scolanderref07_Set.mk b2_Default b2_Closed b2_Fuel b2_Stack b2_Rules) ob2_Rules)]) := by
  unfold b14_r7
  refine zf (f14_r7_eq ..) ?_
  refine ze ?_
  refine zo (.p (.agg (k_Scolanderref07_Set (Scolanderref07_Set.mk b2_Default b2_Closed b2_Fuel b2_Stack b2_Rules) (shrO ob2_Rules)))) ?_
  refine zt [(r_Srule_Set b0 ob0_Rules), (r_Scolanderref07_Set (Scolanderref07_Set.mk b2_Default b2_Closed b2_Fuel b2_Stack b2_Rules) (shrO ob2_Rules)), (r_Scolanderref07_Set (Scolanderref07_Set.mk b2_Default b2_Closed b2_Fuel b2_Stack b2_Rules) ob2_Rules)] ?_
  exact zr ((.p (.agg (k_Scolanderref07_Set (Scolanderref07_Set.mk b2_Default b2_Closed b2_Fuel b2_Stack b2_Rules) .sh))), [(r_Srule_Set b0 ob0_Rules), (r_Scolanderref07_Set (Scolanderref07_Set.mk b2_Default b2_Closed b2_Fuel b2_Stack b2_Rules) (shrO ob2_Rules)), (r_Scolanderref07_Set (Scolanderref07_Set.mk b2_Default b2_Closed b2_Fuel b2_Stack b2_Rules) ob2_Rules)]) ⟨_, rfl⟩
noncomputable def b14_l3 (x16 : List Srule_Rule) (x17 : Int) (x18 : Int) (b2_Default : Int) (b2_Closed : Int) (b2_Fuel : Int) (b2_Stack : Int) (b2_Rules : List Srule_Rule) : Option (Scolanderref07_Set) :=
 if ((decide (x18 < x17))) = true then
 (b14_r4 x16 x17 x18 b2_Default b2_Closed b2_Fuel b2_Stack b2_Rules)
 else
 (b14_r7 b2_Default b2_Closed b2_Fuel b2_Stack b2_Rules)
theorem g14_l3_sim (x16 : List Srule_Rule) (x17 : Int) (x18 : Int) (b0 : Srule_Set) (b1 : Scolanderref07_Set) (b2_Default : Int) (b2_Closed : Int) (b2_Fuel : Int) (b2_Stack : Int) (b2_Rules : List Srule_Rule) (ox16 : Own) (ob0_Rules : Own) (ob1_Rules : Own) (ob2_Rules : Own) (hob1_Rules : okApp ob1_Rules = true) (hob2_Rules : okApp ob2_Rules = true) : Sim (Q14) (b14_l3 x16 x17 x18 b2_Default b2_Closed b2_Fuel b2_Stack b2_Rules) (f14_l3 0 (.ptr 1 0) (.ptr 2 0) (.p (.lst ox16 (x16.map e_Srule_Rule))) (iv x17) (iv x18) [(r_Srule_Set b0 ob0_Rules), (r_Scolanderref07_Set b1 ob1_Rules), (r_Scolanderref07_Set (Scolanderref07_Set.mk b2_Default b2_Closed b2_Fuel b2_Stack b2_Rules) ob2_Rules)]) := by
  unfold b14_l3
  refine zf (f14_l3_eq ..) ?_
  refine ze ?_
  refine zo (bv (decide (x18 < x17))) ?_
  refine za ((decide (x18 < x17))) ?_ ?_
  · exact zk (g14_r4_sim (x16) (x17) (x18) (b0) (b1) (b2_Default) (b2_Closed) (b2_Fuel) (b2_Stack) (b2_Rules) ox16 ob0_Rules ob1_Rules ob2_Rules hob1_Rules hob2_Rules)
  · exact zk (g14_r7_sim (b0) (b1) (b2_Default) (b2_Closed) (b2_Fuel) (b2_Stack) (b2_Rules) ob0_Rules ob1_Rules ob2_Rules hob1_Rules hob2_Rules)
theorem g14_l3_of (x16 : List Srule_Rule) (x17 : Int) (x18 : Int) (b2_Default : Int) (b2_Closed : Int) (b2_Fuel : Int) (b2_Stack : Int) (b2_Rules : List Srule_Rule) {r} (h : b14_l3 x16 x17 x18 b2_Default b2_Closed b2_Fuel b2_Stack b2_Rules = some r) : g14_l3 x16 x17 x18 b2_Default b2_Closed b2_Fuel b2_Stack b2_Rules = some r :=
  pick_of (fun _ _ ha hb => RRun.uniq (Q14_u) (ha default default .ex .ex .ex .ex rfl rfl) (hb default default .ex .ex .ex .ex rfl rfl)) (fun b0 b1 ox16 ob0_Rules ob1_Rules ob2_Rules hob1_Rules hob2_Rules => g14_l3_sim x16 x17 x18 b0 b1 b2_Default b2_Closed b2_Fuel b2_Stack b2_Rules ox16 ob0_Rules ob1_Rules ob2_Rules hob1_Rules hob2_Rules r h)
/-! "colander/colanderref07.Same": g13 -/
noncomputable def b13_r2  : Option (Bool) :=
 some (false)
theorem g13_r2_sim  : Sim (Q13) (b13_r2) (f13_r2 0  []) := by
  unfold b13_r2
  refine zf (f13_r2_eq ..) ?_
  refine ze ?_
  exact zr ((bv false), []) ⟨_, rfl⟩
noncomputable def b13_r3 (b0 : Scolanderref07_Set) (b1 : Scolanderref07_Set) : Option (Bool) :=
 g13_l4 0 b0 b1
theorem g13_r3_sim (b0 : Scolanderref07_Set) (b1 : Scolanderref07_Set) (ob0_Rules : Own) (ob1_Rules : Own) : Sim (Q13) (b13_r3 b0 b1) (f13_r3 0 (.ptr 0 0) (.ptr 1 0) [(r_Scolanderref07_Set b0 ob0_Rules), (r_Scolanderref07_Set b1 ob1_Rules)]) := by
  unfold b13_r3
  refine zf (f13_r3_eq ..) ?_
  refine ze ?_
  exact zk (g13_l4_to (0) (b0) (b1) ob0_Rules ob1_Rules)
noncomputable def b13 (x0 : Scolanderref07_Set) (x1 : Scolanderref07_Set) : Option (Bool) :=
 if ((x0.Default != x1.Default)) = true then
 (b13_r2)
 else
 (if ((x0.Closed != x1.Closed)) = true then
 (b13_r2)
 else
 (if ((x0.Fuel != x1.Fuel)) = true then
 (b13_r2)
 else
 (if ((x0.Stack != x1.Stack)) = true then
 (b13_r2)
 else
 (if (((x0.Rules.length : Int) != (x1.Rules.length : Int))) = true then
 (b13_r2)
 else
 (b13_r3 x0 x1)))))
theorem g13_sim (x0 : Scolanderref07_Set) (x1 : Scolanderref07_Set) (ox0_Rules : Own) (ox1_Rules : Own) : Sim (Q13) (b13 x0 x1) (EE 13 [(.p (.agg (k_Scolanderref07_Set x0 ox0_Rules))), (.p (.agg (k_Scolanderref07_Set x1 ox1_Rules)))] []) := by
  unfold b13
  refine zf (f13_eq ..) ?_
  refine ze ?_
  refine zx (.ptr 0 0) [(r_Scolanderref07_Set x0 ox0_Rules)] ?_
  refine zx (.ptr 1 0) [(r_Scolanderref07_Set x0 ox0_Rules), (r_Scolanderref07_Set x1 ox1_Rules)] ?_
  refine ze ?_
  refine zo (.ptr 0 0) ?_
  refine zo (iv x0.Default) ?_
  refine zo (.ptr 1 0) ?_
  refine zo (iv x1.Default) ?_
  refine zo (bv (x0.Default != x1.Default)) ?_
  refine za ((x0.Default != x1.Default)) ?_ ?_
  · exact zk (g13_r2_sim )
  · refine zo (.ptr 0 1) ?_
    refine zo (iv x0.Closed) ?_
    refine zo (.ptr 1 1) ?_
    refine zo (iv x1.Closed) ?_
    refine zo (bv (x0.Closed != x1.Closed)) ?_
    refine za ((x0.Closed != x1.Closed)) ?_ ?_
    · exact zk (g13_r2_sim )
    · refine zo (.ptr 0 2) ?_
      refine zo (iv x0.Fuel) ?_
      refine zo (.ptr 1 2) ?_
      refine zo (iv x1.Fuel) ?_
      refine zo (bv (x0.Fuel != x1.Fuel)) ?_
      refine za ((x0.Fuel != x1.Fuel)) ?_ ?_
      · exact zk (g13_r2_sim )
      · refine zo (.ptr 0 3) ?_
        refine zo (iv x0.Stack) ?_
        refine zo (.ptr 1 3) ?_
        refine zo (iv x1.Stack) ?_
        refine zo (bv (x0.Stack != x1.Stack)) ?_
        refine za ((x0.Stack != x1.Stack)) ?_ ?_
        · exact zk (g13_r2_sim )
        · refine zo (.ptr 0 4) ?_
          refine zo (.p (.lst (shrO ox0_Rules) (x0.Rules.map e_Srule_Rule))) ?_
          refine zo (iv (x0.Rules.length : Int)) ?_ (Eq.trans (by kernel_rfl) (xlen_of (P := PP) (t := 34) (d := 69) (by kernel_rfl) e_Srule_Rule (shrO ox0_Rules) x0.Rules))
          refine zo (.ptr 1 4) ?_
          refine zo (.p (.lst (shrO ox1_Rules) (x1.Rules.map e_Srule_Rule))) ?_
          refine zo (iv (x1.Rules.length : Int)) ?_ (Eq.trans (by kernel_rfl) (xlen_of (P := PP) (t := 34) (d := 69) (by kernel_rfl) e_Srule_Rule (shrO ox1_Rules) x1.Rules))
          refine zo (bv ((x0.Rules.length : Int) != (x1.Rules.length : Int))) ?_
          refine za (((x0.Rules.length : Int) != (x1.Rules.length : Int))) ?_ ?_
          · exact zk (g13_r2_sim )
          · exact zk (g13_r3_sim (x0) (x1) ox0_Rules ox1_Rules)
theorem g13_of (x0 : Scolanderref07_Set) (x1 : Scolanderref07_Set) {r} (h : b13 x0 x1 = some r) : g13 x0 x1 = some r :=
  pick_of (fun _ _ ha hb => RRun.uniq (Q13_u) (ha .ex .ex) (hb .ex .ex)) (fun ox0_Rules ox1_Rules => g13_sim x0 x1 ox0_Rules ox1_Rules r h)
noncomputable def b13_r5 (x5 : Int) (b0 : Scolanderref07_Set) (b1 : Scolanderref07_Set) : Option (Bool) :=
 g13_l4 ((IntKind.i64.wrap (x5 + 1))) b0 b1
theorem g13_r5_sim (x5 : Int) (b0 : Scolanderref07_Set) (b1 : Scolanderref07_Set) (ob0_Rules : Own) (ob1_Rules : Own) : Sim (Q13) (b13_r5 x5 b0 b1) (f13_r5 0 (.ptr 0 0) (.ptr 1 0) (iv x5) [(r_Scolanderref07_Set b0 ob0_Rules), (r_Scolanderref07_Set b1 ob1_Rules)]) := by
  unfold b13_r5
  refine zf (f13_r5_eq ..) ?_
  refine ze ?_
  refine zo (iv (IntKind.i64.wrap (x5 + 1))) ?_
  exact zk (g13_l4_to ((IntKind.i64.wrap (x5 + 1))) (b0) (b1) ob0_Rules ob1_Rules)
noncomputable def b13_r6 (x5 : Int) (b0 : Scolanderref07_Set) (b1 : Scolanderref07_Set) : Option (Bool) :=
 (lget b0.Rules x5).bind fun a1 =>
 (lget b1.Rules x5).bind fun a2 =>
 if ((!((a1.ID == a2.ID) && ((a1.Priority == a2.Priority) && ((a1.Action == a2.Action) && ((a1.Scope == a2.Scope) && ((seq a1.Pattern a2.Pattern) && true))))))) = true then
 (some (false))
 else
 (b13_r5 x5 b0 b1)
theorem g13_r6_sim (x5 : Int) (b0 : Scolanderref07_Set) (b1 : Scolanderref07_Set) (ob0_Rules : Own) (ob1_Rules : Own) : Sim (Q13) (b13_r6 x5 b0 b1) (f13_r6 0 (.ptr 0 0) (.ptr 1 0) (iv x5) [(r_Scolanderref07_Set b0 ob0_Rules), (r_Scolanderref07_Set b1 ob1_Rules)]) := by
  unfold b13_r6
  refine zf (f13_r6_eq ..) ?_
  refine ze ?_
  refine zo (.ptr 0 4) ?_
  refine zo (.p (.lst (shrO ob0_Rules) (b0.Rules.map e_Srule_Rule))) ?_
  refine zi fun a1 ha1 => ?_
  refine zo (.cptr (k_Srule_Rule a1)) ?_ (Eq.trans (by kernel_rfl) (xidx_of (o := (shrO ob0_Rules)) (k := .i64) (n := 5) (e := e_Srule_Rule) (cs := c_Srule_Rule) (fun _ => rfl) (fun _ => rfl) (by decide) ha1))
  refine zo (.p (.agg (k_Srule_Rule a1))) ?_
  refine zo (.ptr 1 4) ?_
  refine zo (.p (.lst (shrO ob1_Rules) (b1.Rules.map e_Srule_Rule))) ?_
  refine zi fun a2 ha2 => ?_
  refine zo (.cptr (k_Srule_Rule a2)) ?_ (Eq.trans (by kernel_rfl) (xidx_of (o := (shrO ob1_Rules)) (k := .i64) (n := 5) (e := e_Srule_Rule) (cs := c_Srule_Rule) (fun _ => rfl) (fun _ => rfl) (by decide) ha2))
  refine zo (.p (.agg (k_Srule_Rule a2))) ?_
  refine zo (bv (!((a1.ID == a2.ID) && ((a1.Priority == a2.Priority) && ((a1.Action == a2.Action) && ((a1.Scope == a2.Scope) && ((seq a1.Pattern a2.Pattern) && true))))))) ?_ (Eq.trans (b := xbin PP .neq 69 (.p (.agg (k_Srule_Rule a1))) (.p (.agg (k_Srule_Rule a2)))) (by kernel_rfl) (xeq_neq (by kernel_rfl) (by kernel_rfl) (by kernel_rfl) (by kernel_rfl) (by kernel_rfl)))
  refine za ((!((a1.ID == a2.ID) && ((a1.Priority == a2.Priority) && ((a1.Action == a2.Action) && ((a1.Scope == a2.Scope) && ((seq a1.Pattern a2.Pattern) && true))))))) ?_ ?_
  · refine ze ?_
    exact zr ((bv false), [(r_Scolanderref07_Set b0 ob0_Rules), (r_Scolanderref07_Set b1 ob1_Rules)]) ⟨_, rfl⟩
  · exact zk (g13_r5_sim (x5) (b0) (b1) ob0_Rules ob1_Rules)
noncomputable def b13_r8  : Option (Bool) :=
 some (true)
theorem g13_r8_sim  : Sim (Q13) (b13_r8) (f13_r8 0  []) := by
  unfold b13_r8
  refine zf (f13_r8_eq ..) ?_
  refine ze ?_
  exact zr ((bv true), []) ⟨_, rfl⟩
noncomputable def b13_l4 (x5 : Int) (b0 : Scolanderref07_Set) (b1 : Scolanderref07_Set) : Option (Bool) :=
 if ((decide (x5 < (b0.Rules.length : Int)))) = true then
 (b13_r6 x5 b0 b1)
 else
 (b13_r8)
theorem g13_l4_sim (x5 : Int) (b0 : Scolanderref07_Set) (b1 : Scolanderref07_Set) (ob0_Rules : Own) (ob1_Rules : Own) : Sim (Q13) (b13_l4 x5 b0 b1) (f13_l4 0 (.ptr 0 0) (.ptr 1 0) (iv x5) [(r_Scolanderref07_Set b0 ob0_Rules), (r_Scolanderref07_Set b1 ob1_Rules)]) := by
  unfold b13_l4
  refine zf (f13_l4_eq ..) ?_
  refine ze ?_
  refine zo (.ptr 0 4) ?_
  refine zo (.p (.lst (shrO ob0_Rules) (b0.Rules.map e_Srule_Rule))) ?_
  refine zo (iv (b0.Rules.length : Int)) ?_ (Eq.trans (by kernel_rfl) (xlen_of (P := PP) (t := 34) (d := 69) (by kernel_rfl) e_Srule_Rule (shrO ob0_Rules) b0.Rules))
  refine zo (bv (decide (x5 < (b0.Rules.length : Int)))) ?_
  refine za ((decide (x5 < (b0.Rules.length : Int)))) ?_ ?_
  · exact zk (g13_r6_sim (x5) (b0) (b1) ob0_Rules ob1_Rules)
  · exact zk (g13_r8_sim )
theorem g13_l4_of (x5 : Int) (b0 : Scolanderref07_Set) (b1 : Scolanderref07_Set) {r} (h : b13_l4 x5 b0 b1 = some r) : g13_l4 x5 b0 b1 = some r :=
  pick_of (fun _ _ ha hb => RRun.uniq (Q13_u) (ha .ex .ex) (hb .ex .ex)) (fun ob0_Rules ob1_Rules => g13_l4_sim x5 b0 b1 ob0_Rules ob1_Rules r h)
/-! "colander/colanderlaw07.RuleApplies": g6 -/
noncomputable def b6_r8  : Option (Bool) :=
 some (false)
theorem g6_r8_sim  : Sim (Q6) (b6_r8) (f6_r8 0  []) := by
  unfold b6_r8
  refine zf (f6_r8_eq ..) ?_
  refine ze ?_
  exact zr ((bv false), []) ⟨_, rfl⟩
noncomputable def b6_r9 (x2 : Int) (x10 : Int) (b0 : Srule_Set) (b2 : Srule_Set) : Option (Bool) :=
 (g20 b0 x2).bind fun r1 =>
 g6_l11 x2 x10 r1.2 b0.Rules ((b0.Rules.length : Int)) 0 b2 r1.1
theorem g6_r9_sim (x2 : Int) (x10 : Int) (b0 : Srule_Set) (b1 : Srule_Delta) (b2 : Srule_Set) (ob0_Rules : Own) (ob1_Put : Own) (ob1_Drop : Own) (ob2_Rules : Own) : Sim (Q6) (b6_r9 x2 x10 b0 b2) (f6_r9 0 (iv x2) (.ptr 0 0) (.ptr 2 0) (iv x10) [(r_Srule_Set b0 ob0_Rules), (r_Srule_Delta b1 ob1_Put ob1_Drop), (r_Srule_Set b2 ob2_Rules)]) := by
  unfold b6_r9
  refine zf (f6_r9_eq ..) ?_
  refine ze ?_
  refine zo (.p (.agg (k_Srule_Set b0 (shrO ob0_Rules)))) ?_
  refine zi fun r1 hr1 => ?_
  obtain ⟨qr1, er1, exr1, rfl⟩ := g20_to (b0) (x2) .sh r1 hr1
  refine zc [] (.p (.tup [(.agg (k_Srule_Rule r1.1)), (.v (.bool r1.2))])) [(r_Srule_Set b0 ob0_Rules), (r_Srule_Delta b1 ob1_Put ob1_Drop), (r_Srule_Set b2 ob2_Rules)] er1 ?_
  refine zo (.p (.agg (k_Srule_Rule r1.1))) ?_
  refine zo (bv r1.2) ?_
  refine zz (.ptr 3 0) [(r_Srule_Set b0 ob0_Rules), (r_Srule_Delta b1 ob1_Put ob1_Drop), (r_Srule_Set b2 ob2_Rules), (r_Srule_Rule (Srule_Rule.mk 0 0 0 0 (ByteArray.mk #[])))] ?_
  refine zt [(r_Srule_Set b0 ob0_Rules), (r_Srule_Delta b1 ob1_Put ob1_Drop), (r_Srule_Set b2 ob2_Rules), (r_Srule_Rule r1.1)] ?_
  refine ze ?_
  refine zo (.ptr 0 4) ?_
  refine zo (.p (.lst (shrO ob0_Rules) (b0.Rules.map e_Srule_Rule))) ?_
  refine zo (iv (b0.Rules.length : Int)) ?_ (Eq.trans (by kernel_rfl) (xlen_of (P := PP) (t := 22) (d := 43) (by kernel_rfl) e_Srule_Rule (shrO ob0_Rules) b0.Rules))
  exact zk (g6_l11_to (x2) (x10) (r1.2) (b0.Rules) ((b0.Rules.length : Int)) (0) (b0) (b1) (b2) (r1.1) (shrO ob0_Rules) ob0_Rules ob1_Put ob1_Drop ob2_Rules)
noncomputable def b6_r5 (x2 : Int) (b0 : Srule_Set) (b1 : Srule_Delta) : Option (Bool) :=
 (g12 b0 b1).bind fun r1 =>
 (g14 b0).bind fun r2 =>
 (g18 b1).bind fun r3 =>
 (g17 r2 r3).bind fun r4 =>
 (g16 b0).bind fun r5 =>
 (g14 b0).bind fun r6 =>
 (g19 r6).bind fun r7 =>
 if ((!(r5 == r7))) = true then
 (b6_r8)
 else
 (if ((r1.2 != r4.2)) = true then
 (b6_r8)
 else
 ((g14 r1.1).bind fun r8 =>
 (g13 r8 r4.1).bind fun r9 =>
 if ((!r9)) = true then
 (b6_r8)
 else
 (b6_r9 x2 r4.2 b0 r1.1)))
theorem g6_r5_sim (x2 : Int) (b0 : Srule_Set) (b1 : Srule_Delta) (ob0_Rules : Own) (ob1_Put : Own) (ob1_Drop : Own) : Sim (Q6) (b6_r5 x2 b0 b1) (f6_r5 0 (iv x2) (.ptr 0 0) (.ptr 1 0) [(r_Srule_Set b0 ob0_Rules), (r_Srule_Delta b1 ob1_Put ob1_Drop)]) := by
  unfold b6_r5
  refine zf (f6_r5_eq ..) ?_
  refine ze ?_
  refine zo (.p (.agg (k_Srule_Set b0 (shrO ob0_Rules)))) ?_
  refine zo (.p (.agg (k_Srule_Delta b1 (shrO ob1_Put) (shrO ob1_Drop)))) ?_
  refine zi fun r1 hr1 => ?_
  obtain ⟨qr1, er1, exr1, rfl⟩ := g12_to (b0) (b1) .sh .sh .sh r1 hr1
  refine zc [] (.p (.tup [(.agg (k_Srule_Set r1.1 .sh)), (.v (.int .i64 r1.2))])) [(r_Srule_Set b0 ob0_Rules), (r_Srule_Delta b1 ob1_Put ob1_Drop)] er1 ?_
  refine zo (.p (.agg (k_Srule_Set r1.1 .sh))) ?_
  refine zo (iv r1.2) ?_
  refine zz (.ptr 2 0) [(r_Srule_Set b0 ob0_Rules), (r_Srule_Delta b1 ob1_Put ob1_Drop), (r_Srule_Set (Srule_Set.mk 0 0 0 0 ([] : List Srule_Rule)) .nl)] ?_
  refine zt [(r_Srule_Set b0 ob0_Rules), (r_Srule_Delta b1 ob1_Put ob1_Drop), (r_Srule_Set r1.1 .sh)] ?_
  refine ze ?_
  refine zo (.p (.agg (k_Srule_Set b0 (shrO ob0_Rules)))) ?_
  refine zi fun r2 hr2 => ?_
  obtain ⟨qr2, er2, exr2, rfl⟩ := g14_to (b0) .sh r2 hr2
  refine zc [] (.p (.agg (k_Scolanderref07_Set r2 .sh))) [(r_Srule_Set b0 ob0_Rules), (r_Srule_Delta b1 ob1_Put ob1_Drop), (r_Srule_Set r1.1 .sh)] er2 ?_
  refine zo (.p (.agg (k_Srule_Delta b1 (shrO ob1_Put) (shrO ob1_Drop)))) ?_
  refine zi fun r3 hr3 => ?_
  obtain ⟨qr3, er3, exr3, rfl⟩ := g18_to (b1) .sh .sh r3 hr3
  refine zc [] (.p (.agg (k_Scolanderref07_Delta r3 .sh .sh))) [(r_Srule_Set b0 ob0_Rules), (r_Srule_Delta b1 ob1_Put ob1_Drop), (r_Srule_Set r1.1 .sh)] er3 ?_
  refine zi fun r4 hr4 => ?_
  obtain ⟨qr4, er4, exr4, rfl⟩ := g17_to (r2) (r3) .sh .sh .sh r4 hr4
  refine zc [] (.p (.tup [(.agg (k_Scolanderref07_Set r4.1 .sh)), (.v (.int .i64 r4.2))])) [(r_Srule_Set b0 ob0_Rules), (r_Srule_Delta b1 ob1_Put ob1_Drop), (r_Srule_Set r1.1 .sh)] er4 ?_
  refine zo (.p (.agg (k_Scolanderref07_Set r4.1 .sh))) ?_
  refine zo (iv r4.2) ?_
  refine zz (.ptr 3 0) [(r_Srule_Set b0 ob0_Rules), (r_Srule_Delta b1 ob1_Put ob1_Drop), (r_Srule_Set r1.1 .sh), (r_Scolanderref07_Set (Scolanderref07_Set.mk 0 0 0 0 ([] : List Srule_Rule)) .nl)] ?_
  refine zt [(r_Srule_Set b0 ob0_Rules), (r_Srule_Delta b1 ob1_Put ob1_Drop), (r_Srule_Set r1.1 .sh), (r_Scolanderref07_Set r4.1 .sh)] ?_
  refine zg ?_
  refine zg ?_
  refine zg ?_
  refine zg ?_
  refine zg ?_
  refine zg ?_
  refine ze ?_
  refine zo (.p (.agg (k_Srule_Set b0 (shrO ob0_Rules)))) ?_
  refine zi fun r5 hr5 => ?_
  obtain ⟨qr5, er5, exr5, rfl⟩ := g16_to (b0) .sh r5 hr5
  refine zc [] (bv r5) [(r_Srule_Set b0 ob0_Rules), (r_Srule_Delta b1 ob1_Put ob1_Drop), (r_Srule_Set r1.1 .sh), (r_Scolanderref07_Set r4.1 .sh)] er5 ?_
  refine zo (.p (.agg (k_Srule_Set b0 (shrO ob0_Rules)))) ?_
  refine zi fun r6 hr6 => ?_
  obtain ⟨qr6, er6, exr6, rfl⟩ := g14_to (b0) .sh r6 hr6
  refine zc [] (.p (.agg (k_Scolanderref07_Set r6 .sh))) [(r_Srule_Set b0 ob0_Rules), (r_Srule_Delta b1 ob1_Put ob1_Drop), (r_Srule_Set r1.1 .sh), (r_Scolanderref07_Set r4.1 .sh)] er6 ?_
  refine zi fun r7 hr7 => ?_
  obtain ⟨qr7, er7, exr7, rfl⟩ := g19_to (r6) .sh r7 hr7
  refine zc [] (bv r7) [(r_Srule_Set b0 ob0_Rules), (r_Srule_Delta b1 ob1_Put ob1_Drop), (r_Srule_Set r1.1 .sh), (r_Scolanderref07_Set r4.1 .sh)] er7 ?_
  refine zo (bv (!(r5 == r7))) ?_
  refine za ((!(r5 == r7))) ?_ ?_
  · refine zg ?_
    refine zg ?_
    exact zk (g6_r8_sim )
  · refine zo (bv (r1.2 != r4.2)) ?_
    refine za ((r1.2 != r4.2)) ?_ ?_
    · refine zg ?_
      refine zg ?_
      exact zk (g6_r8_sim )
    · refine zo (.p (.agg (k_Srule_Set r1.1 .sh))) ?_
      refine zi fun r8 hr8 => ?_
      obtain ⟨qr8, er8, exr8, rfl⟩ := g14_to (r1.1) .sh r8 hr8
      refine zc [] (.p (.agg (k_Scolanderref07_Set r8 .sh))) [(r_Srule_Set b0 ob0_Rules), (r_Srule_Delta b1 ob1_Put ob1_Drop), (r_Srule_Set r1.1 .sh), (r_Scolanderref07_Set r4.1 .sh)] er8 ?_
      refine zo (.p (.agg (k_Scolanderref07_Set r4.1 .sh))) ?_
      refine zi fun r9 hr9 => ?_
      obtain ⟨qr9, er9, exr9, rfl⟩ := g13_to (r8) (r4.1) .sh .sh r9 hr9
      refine zc [] (bv r9) [(r_Srule_Set b0 ob0_Rules), (r_Srule_Delta b1 ob1_Put ob1_Drop), (r_Srule_Set r1.1 .sh), (r_Scolanderref07_Set r4.1 .sh)] er9 ?_
      refine zo (bv (!r9)) ?_
      refine zg ?_
      refine zg ?_
      refine za ((!r9)) ?_ ?_
      · exact zk (g6_r8_sim )
      · exact zk (g6_r9_sim (x2) (r4.2) (b0) (b1) (r1.1) ob0_Rules ob1_Put ob1_Drop .sh)
noncomputable def b6_r3 (x2 : Int) (b0 : Srule_Set) (b1 : Srule_Delta) : Option (Bool) :=
 (g11 b0 b1).bind fun r1 =>
 if ((!r1)) = true then
 (some (true))
 else
 (b6_r5 x2 b0 b1)
theorem g6_r3_sim (x2 : Int) (b0 : Srule_Set) (b1 : Srule_Delta) (ob0_Rules : Own) (ob1_Put : Own) (ob1_Drop : Own) : Sim (Q6) (b6_r3 x2 b0 b1) (f6_r3 0 (iv x2) (.ptr 0 0) (.ptr 1 0) [(r_Srule_Set b0 ob0_Rules), (r_Srule_Delta b1 ob1_Put ob1_Drop)]) := by
  unfold b6_r3
  refine zf (f6_r3_eq ..) ?_
  refine ze ?_
  refine zo (.p (.agg (k_Srule_Set b0 (shrO ob0_Rules)))) ?_
  refine zo (.p (.agg (k_Srule_Delta b1 (shrO ob1_Put) (shrO ob1_Drop)))) ?_
  refine zi fun r1 hr1 => ?_
  obtain ⟨qr1, er1, exr1, rfl⟩ := g11_to (b0) (b1) .sh .sh .sh r1 hr1
  refine zc [] (bv r1) [(r_Srule_Set b0 ob0_Rules), (r_Srule_Delta b1 ob1_Put ob1_Drop)] er1 ?_
  refine zo (bv (!r1)) ?_
  refine za ((!r1)) ?_ ?_
  · refine ze ?_
    exact zr ((bv true), [(r_Srule_Set b0 ob0_Rules), (r_Srule_Delta b1 ob1_Put ob1_Drop)]) ⟨_, rfl⟩
  · exact zk (g6_r5_sim (x2) (b0) (b1) ob0_Rules ob1_Put ob1_Drop)
noncomputable def b6 (x0 : Srule_Set) (x1 : Srule_Delta) (x2 : Int) : Option (Bool) :=
 (g10).bind fun r1 =>
 if ((!r1)) = true then
 (some (false))
 else
 (b6_r3 x2 x0 x1)
theorem g6_sim (x0 : Srule_Set) (x1 : Srule_Delta) (x2 : Int) (ox0_Rules : Own) (ox1_Put : Own) (ox1_Drop : Own) : Sim (Q6) (b6 x0 x1 x2) (EE 6 [(.p (.agg (k_Srule_Set x0 ox0_Rules))), (.p (.agg (k_Srule_Delta x1 ox1_Put ox1_Drop))), (iv x2)] []) := by
  unfold b6
  refine zf (f6_eq ..) ?_
  refine ze ?_
  refine zx (.ptr 0 0) [(r_Srule_Set x0 ox0_Rules)] ?_
  refine zx (.ptr 1 0) [(r_Srule_Set x0 ox0_Rules), (r_Srule_Delta x1 ox1_Put ox1_Drop)] ?_
  refine ze ?_
  refine zi fun r1 hr1 => ?_
  obtain ⟨qr1, er1, exr1, rfl⟩ := g10_to  r1 hr1
  refine zc [] (bv r1) [(r_Srule_Set x0 ox0_Rules), (r_Srule_Delta x1 ox1_Put ox1_Drop)] er1 ?_
  refine zo (bv (!r1)) ?_
  refine za ((!r1)) ?_ ?_
  · refine ze ?_
    exact zr ((bv false), [(r_Srule_Set x0 ox0_Rules), (r_Srule_Delta x1 ox1_Put ox1_Drop)]) ⟨_, rfl⟩
  · exact zk (g6_r3_sim (x2) (x0) (x1) ox0_Rules ox1_Put ox1_Drop)
theorem g6_of (x0 : Srule_Set) (x1 : Srule_Delta) (x2 : Int) {r} (h : b6 x0 x1 x2 = some r) : g6 x0 x1 x2 = some r :=
  pick_of (fun _ _ ha hb => RRun.uniq (Q6_u) (ha .ex .ex .ex) (hb .ex .ex .ex)) (fun ox0_Rules ox1_Put ox1_Drop => g6_sim x0 x1 x2 ox0_Rules ox1_Put ox1_Drop r h)
noncomputable def b6_r15 (x2 : Int) (x10 : Int) (x12 : Bool) (x60 : List Srule_Rule) (x61 : Int) (x62 : Int) (b2 : Srule_Set) (b3 : Srule_Rule) : Option (Bool) :=
 g6_l11 x2 x10 x12 x60 x61 ((IntKind.i64.wrap (x62 + 1))) b2 b3
theorem g6_r15_sim (x2 : Int) (x10 : Int) (x12 : Bool) (x60 : List Srule_Rule) (x61 : Int) (x62 : Int) (b0 : Srule_Set) (b1 : Srule_Delta) (b2 : Srule_Set) (b3 : Srule_Rule) (ox60 : Own) (ob0_Rules : Own) (ob1_Put : Own) (ob1_Drop : Own) (ob2_Rules : Own) : Sim (Q6) (b6_r15 x2 x10 x12 x60 x61 x62 b2 b3) (f6_r15 0 (iv x2) (.ptr 2 0) (iv x10) (.ptr 3 0) (bv x12) (.p (.lst ox60 (x60.map e_Srule_Rule))) (iv x61) (iv x62) [(r_Srule_Set b0 ob0_Rules), (r_Srule_Delta b1 ob1_Put ob1_Drop), (r_Srule_Set b2 ob2_Rules), (r_Srule_Rule b3)]) := by
  unfold b6_r15
  refine zf (f6_r15_eq ..) ?_
  refine ze ?_
  refine zo (iv (IntKind.i64.wrap (x62 + 1))) ?_
  exact zk (g6_l11_to (x2) (x10) (x12) (x60) (x61) ((IntKind.i64.wrap (x62 + 1))) (b0) (b1) (b2) (b3) ox60 ob0_Rules ob1_Put ob1_Drop ob2_Rules)
noncomputable def b6_r12 (x2 : Int) (x10 : Int) (x12 : Bool) (x60 : List Srule_Rule) (x61 : Int) (x62 : Int) (b2 : Srule_Set) (b3 : Srule_Rule) : Option (Bool) :=
 (lget x60 x62).bind fun a1 =>
 if ((a1.ID == x2)) = true then
 (if (x12) = true then
 (if (((b3.ID == a1.ID) && ((b3.Priority == a1.Priority) && ((b3.Action == a1.Action) && ((b3.Scope == a1.Scope) && ((seq b3.Pattern a1.Pattern) && true)))))) = true then
 (if ((x10 != 0)) = true then
 (some (true))
 else
 ((g16 b2).bind fun r2 =>
 some (r2)))
 else
 (some (false)))
 else
 (some (false)))
 else
 (b6_r15 x2 x10 x12 x60 x61 x62 b2 b3)
theorem g6_r12_sim (x2 : Int) (x10 : Int) (x12 : Bool) (x60 : List Srule_Rule) (x61 : Int) (x62 : Int) (b0 : Srule_Set) (b1 : Srule_Delta) (b2 : Srule_Set) (b3 : Srule_Rule) (ox60 : Own) (ob0_Rules : Own) (ob1_Put : Own) (ob1_Drop : Own) (ob2_Rules : Own) : Sim (Q6) (b6_r12 x2 x10 x12 x60 x61 x62 b2 b3) (f6_r12 0 (iv x2) (.ptr 2 0) (iv x10) (.ptr 3 0) (bv x12) (.p (.lst ox60 (x60.map e_Srule_Rule))) (iv x61) (iv x62) [(r_Srule_Set b0 ob0_Rules), (r_Srule_Delta b1 ob1_Put ob1_Drop), (r_Srule_Set b2 ob2_Rules), (r_Srule_Rule b3)]) := by
  unfold b6_r12
  refine zf (f6_r12_eq ..) ?_
  refine ze ?_
  refine zi fun a1 ha1 => ?_
  refine zo (.cptr (k_Srule_Rule a1)) ?_ (Eq.trans (by kernel_rfl) (xidx_of (o := ox60) (k := .i64) (n := 5) (e := e_Srule_Rule) (cs := c_Srule_Rule) (fun _ => rfl) (fun _ => rfl) (by decide) ha1))
  refine zo (.p (.agg (k_Srule_Rule a1))) ?_
  refine zz (.ptr 4 0) [(r_Srule_Set b0 ob0_Rules), (r_Srule_Delta b1 ob1_Put ob1_Drop), (r_Srule_Set b2 ob2_Rules), (r_Srule_Rule b3), (r_Srule_Rule (Srule_Rule.mk 0 0 0 0 (ByteArray.mk #[])))] ?_
  refine zt [(r_Srule_Set b0 ob0_Rules), (r_Srule_Delta b1 ob1_Put ob1_Drop), (r_Srule_Set b2 ob2_Rules), (r_Srule_Rule b3), (r_Srule_Rule a1)] ?_
  refine ze ?_
  refine zo (.ptr 4 0) ?_
  refine zo (iv a1.ID) ?_
  refine zo (bv (a1.ID == x2)) ?_
  refine za ((a1.ID == x2)) ?_ ?_
  · refine ze ?_
    refine za (x12) ?_ ?_
    · refine zo (.p (.agg (k_Srule_Rule b3))) ?_
      refine zo (.p (.agg (k_Srule_Rule a1))) ?_
      refine zo (bv ((b3.ID == a1.ID) && ((b3.Priority == a1.Priority) && ((b3.Action == a1.Action) && ((b3.Scope == a1.Scope) && ((seq b3.Pattern a1.Pattern) && true)))))) ?_ (Eq.trans (b := xbin PP .eql 43 (.p (.agg (k_Srule_Rule b3))) (.p (.agg (k_Srule_Rule a1)))) (by kernel_rfl) (xeq_eql (by kernel_rfl) (by kernel_rfl) (by kernel_rfl) (by kernel_rfl) (by kernel_rfl)))
      refine za (((b3.ID == a1.ID) && ((b3.Priority == a1.Priority) && ((b3.Action == a1.Action) && ((b3.Scope == a1.Scope) && ((seq b3.Pattern a1.Pattern) && true)))))) ?_ ?_
      · refine zo (bv (x10 != 0)) ?_
        refine za ((x10 != 0)) ?_ ?_
        · exact zr ((bv true), [(r_Srule_Set b0 ob0_Rules), (r_Srule_Delta b1 ob1_Put ob1_Drop), (r_Srule_Set b2 ob2_Rules), (r_Srule_Rule b3), (r_Srule_Rule a1)]) ⟨_, rfl⟩
        · refine zo (.p (.agg (k_Srule_Set b2 (shrO ob2_Rules)))) ?_
          refine zi fun r2 hr2 => ?_
          obtain ⟨qr2, er2, exr2, rfl⟩ := g16_to (b2) .sh r2 hr2
          refine zc [] (bv r2) [(r_Srule_Set b0 ob0_Rules), (r_Srule_Delta b1 ob1_Put ob1_Drop), (r_Srule_Set b2 ob2_Rules), (r_Srule_Rule b3), (r_Srule_Rule a1)] er2 ?_
          exact zr ((bv r2), [(r_Srule_Set b0 ob0_Rules), (r_Srule_Delta b1 ob1_Put ob1_Drop), (r_Srule_Set b2 ob2_Rules), (r_Srule_Rule b3), (r_Srule_Rule a1)]) ⟨_, rfl⟩
      · exact zr ((bv false), [(r_Srule_Set b0 ob0_Rules), (r_Srule_Delta b1 ob1_Put ob1_Drop), (r_Srule_Set b2 ob2_Rules), (r_Srule_Rule b3), (r_Srule_Rule a1)]) ⟨_, rfl⟩
    · exact zr ((bv false), [(r_Srule_Set b0 ob0_Rules), (r_Srule_Delta b1 ob1_Put ob1_Drop), (r_Srule_Set b2 ob2_Rules), (r_Srule_Rule b3), (r_Srule_Rule a1)]) ⟨_, rfl⟩
  · exact zk (g6_r15_sim (x2) (x10) (x12) (x60) (x61) (x62) (b0) (b1) (b2) (b3) ox60 ob0_Rules ob1_Put ob1_Drop ob2_Rules)
noncomputable def b6_r16 (x10 : Int) (x12 : Bool) (b2 : Srule_Set) (b3 : Srule_Rule) : Option (Bool) :=
 if ((!x12)) = true then
 (if (((b3.ID == 0) && ((b3.Priority == 0) && ((b3.Action == 0) && ((b3.Scope == 0) && ((seq b3.Pattern (ByteArray.mk #[])) && true)))))) = true then
 (if ((x10 != 0)) = true then
 (some (true))
 else
 ((g16 b2).bind fun r1 =>
 some (r1)))
 else
 (some (false)))
 else
 (some (false))
theorem g6_r16_sim (x10 : Int) (x12 : Bool) (b0 : Srule_Set) (b1 : Srule_Delta) (b2 : Srule_Set) (b3 : Srule_Rule) (ob0_Rules : Own) (ob1_Put : Own) (ob1_Drop : Own) (ob2_Rules : Own) : Sim (Q6) (b6_r16 x10 x12 b2 b3) (f6_r16 0 (.ptr 2 0) (iv x10) (.ptr 3 0) (bv x12) [(r_Srule_Set b0 ob0_Rules), (r_Srule_Delta b1 ob1_Put ob1_Drop), (r_Srule_Set b2 ob2_Rules), (r_Srule_Rule b3)]) := by
  unfold b6_r16
  refine zf (f6_r16_eq ..) ?_
  refine ze ?_
  refine zo (bv (!x12)) ?_
  refine za ((!x12)) ?_ ?_
  · refine zo (.p (.agg (k_Srule_Rule b3))) ?_
    refine zo (.p (.agg (k_Srule_Rule (Srule_Rule.mk 0 0 0 0 (ByteArray.mk #[]))))) ?_
    refine zo (bv ((b3.ID == 0) && ((b3.Priority == 0) && ((b3.Action == 0) && ((b3.Scope == 0) && ((seq b3.Pattern (ByteArray.mk #[])) && true)))))) ?_ (Eq.trans (b := xbin PP .eql 43 (.p (.agg (k_Srule_Rule b3))) (.p (.agg (k_Srule_Rule (Srule_Rule.mk 0 0 0 0 (ByteArray.mk #[])))))) (by kernel_rfl) (xeq_eql (by kernel_rfl) (by kernel_rfl) (by kernel_rfl) (by kernel_rfl) (by kernel_rfl)))
    refine za (((b3.ID == 0) && ((b3.Priority == 0) && ((b3.Action == 0) && ((b3.Scope == 0) && ((seq b3.Pattern (ByteArray.mk #[])) && true)))))) ?_ ?_
    · refine zo (bv (x10 != 0)) ?_
      refine za ((x10 != 0)) ?_ ?_
      · exact zr ((bv true), [(r_Srule_Set b0 ob0_Rules), (r_Srule_Delta b1 ob1_Put ob1_Drop), (r_Srule_Set b2 ob2_Rules), (r_Srule_Rule b3)]) ⟨_, rfl⟩
      · refine zo (.p (.agg (k_Srule_Set b2 (shrO ob2_Rules)))) ?_
        refine zi fun r1 hr1 => ?_
        obtain ⟨qr1, er1, exr1, rfl⟩ := g16_to (b2) .sh r1 hr1
        refine zc [] (bv r1) [(r_Srule_Set b0 ob0_Rules), (r_Srule_Delta b1 ob1_Put ob1_Drop), (r_Srule_Set b2 ob2_Rules), (r_Srule_Rule b3)] er1 ?_
        exact zr ((bv r1), [(r_Srule_Set b0 ob0_Rules), (r_Srule_Delta b1 ob1_Put ob1_Drop), (r_Srule_Set b2 ob2_Rules), (r_Srule_Rule b3)]) ⟨_, rfl⟩
    · exact zr ((bv false), [(r_Srule_Set b0 ob0_Rules), (r_Srule_Delta b1 ob1_Put ob1_Drop), (r_Srule_Set b2 ob2_Rules), (r_Srule_Rule b3)]) ⟨_, rfl⟩
  · exact zr ((bv false), [(r_Srule_Set b0 ob0_Rules), (r_Srule_Delta b1 ob1_Put ob1_Drop), (r_Srule_Set b2 ob2_Rules), (r_Srule_Rule b3)]) ⟨_, rfl⟩
noncomputable def b6_l11 (x2 : Int) (x10 : Int) (x12 : Bool) (x60 : List Srule_Rule) (x61 : Int) (x62 : Int) (b2 : Srule_Set) (b3 : Srule_Rule) : Option (Bool) :=
 if ((decide (x62 < x61))) = true then
 (b6_r12 x2 x10 x12 x60 x61 x62 b2 b3)
 else
 (b6_r16 x10 x12 b2 b3)
theorem g6_l11_sim (x2 : Int) (x10 : Int) (x12 : Bool) (x60 : List Srule_Rule) (x61 : Int) (x62 : Int) (b0 : Srule_Set) (b1 : Srule_Delta) (b2 : Srule_Set) (b3 : Srule_Rule) (ox60 : Own) (ob0_Rules : Own) (ob1_Put : Own) (ob1_Drop : Own) (ob2_Rules : Own) : Sim (Q6) (b6_l11 x2 x10 x12 x60 x61 x62 b2 b3) (f6_l11 0 (iv x2) (.ptr 2 0) (iv x10) (.ptr 3 0) (bv x12) (.p (.lst ox60 (x60.map e_Srule_Rule))) (iv x61) (iv x62) [(r_Srule_Set b0 ob0_Rules), (r_Srule_Delta b1 ob1_Put ob1_Drop), (r_Srule_Set b2 ob2_Rules), (r_Srule_Rule b3)]) := by
  unfold b6_l11
  refine zf (f6_l11_eq ..) ?_
  refine ze ?_
  refine zo (bv (decide (x62 < x61))) ?_
  refine za ((decide (x62 < x61))) ?_ ?_
  · exact zk (g6_r12_sim (x2) (x10) (x12) (x60) (x61) (x62) (b0) (b1) (b2) (b3) ox60 ob0_Rules ob1_Put ob1_Drop ob2_Rules)
  · exact zk (g6_r16_sim (x10) (x12) (b0) (b1) (b2) (b3) ob0_Rules ob1_Put ob1_Drop ob2_Rules)
theorem g6_l11_of (x2 : Int) (x10 : Int) (x12 : Bool) (x60 : List Srule_Rule) (x61 : Int) (x62 : Int) (b2 : Srule_Set) (b3 : Srule_Rule) {r} (h : b6_l11 x2 x10 x12 x60 x61 x62 b2 b3 = some r) : g6_l11 x2 x10 x12 x60 x61 x62 b2 b3 = some r :=
  pick_of (fun _ _ ha hb => RRun.uniq (Q6_u) (ha default default .ex .ex .ex .ex .ex) (hb default default .ex .ex .ex .ex .ex)) (fun b0 b1 ox60 ob0_Rules ob1_Put ob1_Drop ob2_Rules => g6_l11_sim x2 x10 x12 x60 x61 x62 b0 b1 b2 b3 ox60 ob0_Rules ob1_Put ob1_Drop ob2_Rules r h)
/-! "colander/colanderlaw07.small": g11 -/
noncomputable def b11 (x0 : Srule_Set) (x1 : Srule_Delta) : Option (Bool) :=
 if ((decide ((x0.Rules.length : Int) ≤ 40))) = true then
 (if ((decide ((x1.Put.length : Int) ≤ 40))) = true then
 (some ((decide ((x1.Drop.length : Int) ≤ 40))))
 else
 (some (false)))
 else
 (some (false))
theorem g11_sim (x0 : Srule_Set) (x1 : Srule_Delta) (ox0_Rules : Own) (ox1_Put : Own) (ox1_Drop : Own) : Sim (Q11) (b11 x0 x1) (EE 11 [(.p (.agg (k_Srule_Set x0 ox0_Rules))), (.p (.agg (k_Srule_Delta x1 ox1_Put ox1_Drop)))] []) := by
  unfold b11
  refine zf (f11_eq ..) ?_
  refine ze ?_
  refine zx (.ptr 0 0) [(r_Srule_Set x0 ox0_Rules)] ?_
  refine zx (.ptr 1 0) [(r_Srule_Set x0 ox0_Rules), (r_Srule_Delta x1 ox1_Put ox1_Drop)] ?_
  refine ze ?_
  refine zo (.ptr 0 4) ?_
  refine zo (.p (.lst (shrO ox0_Rules) (x0.Rules.map e_Srule_Rule))) ?_
  refine zo (iv (x0.Rules.length : Int)) ?_ (Eq.trans (by kernel_rfl) (xlen_of (P := PP) (t := 22) (d := 43) (by kernel_rfl) e_Srule_Rule (shrO ox0_Rules) x0.Rules))
  refine zo (bv (decide ((x0.Rules.length : Int) ≤ 40))) ?_
  refine za ((decide ((x0.Rules.length : Int) ≤ 40))) ?_ ?_
  · refine zo (.ptr 1 4) ?_
    refine zo (.p (.lst (shrO ox1_Put) (x1.Put.map e_Srule_Rule))) ?_
    refine zo (iv (x1.Put.length : Int)) ?_ (Eq.trans (by kernel_rfl) (xlen_of (P := PP) (t := 22) (d := 43) (by kernel_rfl) e_Srule_Rule (shrO ox1_Put) x1.Put))
    refine zo (bv (decide ((x1.Put.length : Int) ≤ 40))) ?_
    refine za ((decide ((x1.Put.length : Int) ≤ 40))) ?_ ?_
    · refine zo (.ptr 1 5) ?_
      refine zo (.p (.lst (shrO ox1_Drop) (x1.Drop.map (eI .i64)))) ?_
      refine zo (iv (x1.Drop.length : Int)) ?_ (Eq.trans (by kernel_rfl) (xlen_of (P := PP) (t := 25) (d := 3) (by kernel_rfl) (eI .i64) (shrO ox1_Drop) x1.Drop))
      refine zo (bv (decide ((x1.Drop.length : Int) ≤ 40))) ?_
      exact zr ((bv (decide ((x1.Drop.length : Int) ≤ 40))), [(r_Srule_Set x0 ox0_Rules), (r_Srule_Delta x1 ox1_Put ox1_Drop)]) ⟨_, rfl⟩
    · exact zr ((bv false), [(r_Srule_Set x0 ox0_Rules), (r_Srule_Delta x1 ox1_Put ox1_Drop)]) ⟨_, rfl⟩
  · exact zr ((bv false), [(r_Srule_Set x0 ox0_Rules), (r_Srule_Delta x1 ox1_Put ox1_Drop)]) ⟨_, rfl⟩
theorem g11_of (x0 : Srule_Set) (x1 : Srule_Delta) {r} (h : b11 x0 x1 = some r) : g11 x0 x1 = some r :=
  pick_of (fun _ _ ha hb => RRun.uniq (Q11_u) (ha .ex .ex .ex) (hb .ex .ex .ex)) (fun ox0_Rules ox1_Put ox1_Drop => g11_sim x0 x1 ox0_Rules ox1_Put ox1_Drop r h)
/-! "colander/colandermade.Delta": g18 -/
noncomputable def b18 (x0 : Srule_Delta) : Option (Scolanderref07_Delta) :=
 g18_l3 x0.Put ((x0.Put.length : Int)) 0 x0.Default x0.Closed x0.Fuel x0.Stack (([] : List Srule_Rule)) x0.Drop
theorem g18_sim (x0 : Srule_Delta) (ox0_Put : Own) (ox0_Drop : Own) : Sim (Q18) (b18 x0) (EE 18 [(.p (.agg (k_Srule_Delta x0 ox0_Put ox0_Drop)))] []) := by
  unfold b18
  refine zf (f18_eq ..) ?_
  refine ze ?_
  refine zx (.ptr 0 0) [(r_Srule_Delta x0 ox0_Put ox0_Drop)] ?_
  refine zz (.ptr 1 0) [(r_Srule_Delta x0 ox0_Put ox0_Drop), (r_Scolanderref07_Delta (Scolanderref07_Delta.mk 0 0 0 0 ([] : List Srule_Rule) ([] : List Int)) .nl .nl)] ?_
  refine ze ?_
  refine zo (.ptr 0 0) ?_
  refine zo (iv x0.Default) ?_
  refine zo (.ptr 0 1) ?_
  refine zo (iv x0.Closed) ?_
  refine zo (.ptr 0 2) ?_
  refine zo (iv x0.Fuel) ?_
  refine zo (.ptr 0 3) ?_
  refine zo (iv x0.Stack) ?_
  refine zo (.ptr 0 5) ?_
  refine zo (.p (.lst (shrO ox0_Drop) (x0.Drop.map (eI .i64)))) ?_
  refine zo (.p (.agg (k_Scolanderref07_Delta (Scolanderref07_Delta.mk x0.Default x0.Closed x0.Fuel x0.Stack ([] : List Srule_Rule) x0.Drop) .nl (shrO (shrO ox0_Drop))))) ?_
  refine zz (.ptr 2 0) [(r_Srule_Delta x0 ox0_Put ox0_Drop), (r_Scolanderref07_Delta (Scolanderref07_Delta.mk 0 0 0 0 ([] : List Srule_Rule) ([] : List Int)) .nl .nl), (r_Scolanderref07_Delta (Scolanderref07_Delta.mk 0 0 0 0 ([] : List Srule_Rule) ([] : List Int)) .nl .nl)] ?_
  refine zt [(r_Srule_Delta x0 ox0_Put ox0_Drop), (r_Scolanderref07_Delta (Scolanderref07_Delta.mk 0 0 0 0 ([] : List Srule_Rule) ([] : List Int)) .nl .nl), (r_Scolanderref07_Delta (Scolanderref07_Delta.mk x0.Default x0.Closed x0.Fuel x0.Stack ([] : List Srule_Rule) x0.Drop) .nl (shrO (shrO ox0_Drop)))] ?_
  refine ze ?_
  refine zo (.ptr 0 4) ?_
  refine zo (.p (.lst (shrO ox0_Put) (x0.Put.map e_Srule_Rule))) ?_
  refine zo (iv (x0.Put.length : Int)) ?_ (Eq.trans (by kernel_rfl) (xlen_of (P := PP) (t := 22) (d := 43) (by kernel_rfl) e_Srule_Rule (shrO ox0_Put) x0.Put))
  exact zk (g18_l3_to (x0.Put) ((x0.Put.length : Int)) (0) (x0) ((Scolanderref07_Delta.mk 0 0 0 0 ([] : List Srule_Rule) ([] : List Int))) (x0.Default) (x0.Closed) (x0.Fuel) (x0.Stack) (([] : List Srule_Rule)) (x0.Drop) (shrO ox0_Put) ox0_Put ox0_Drop .nl .nl .nl (shrO (shrO ox0_Drop)) rfl rfl rfl)
theorem g18_of (x0 : Srule_Delta) {r} (h : b18 x0 = some r) : g18 x0 = some r :=
  pick_of (fun _ _ ha hb => RRun.uniq (Q18_u) (ha .ex .ex) (hb .ex .ex)) (fun ox0_Put ox0_Drop => g18_sim x0 ox0_Put ox0_Drop r h)
noncomputable def b18_r4 (x18 : List Srule_Rule) (x19 : Int) (x20 : Int) (b2_Default : Int) (b2_Closed : Int) (b2_Fuel : Int) (b2_Stack : Int) (b2_Put : List Srule_Rule) (b2_Drop : List Int) : Option (Scolanderref07_Delta) :=
 (lget x18 x20).bind fun a1 =>
 (lapp b2_Put ([a1] : List Srule_Rule)).bind fun a2 =>
 g18_l3 x18 x19 ((IntKind.i64.wrap (x20 + 1))) b2_Default b2_Closed b2_Fuel b2_Stack a2 b2_Drop
theorem g18_r4_sim (x18 : List Srule_Rule) (x19 : Int) (x20 : Int) (b0 : Srule_Delta) (b1 : Scolanderref07_Delta) (b2_Default : Int) (b2_Closed : Int) (b2_Fuel : Int) (b2_Stack : Int) (b2_Put : List Srule_Rule) (b2_Drop : List Int) (ox18 : Own) (ob0_Put : Own) (ob0_Drop : Own) (ob1_Put : Own) (ob1_Drop : Own) (ob2_Put : Own) (ob2_Drop : Own) (hob1_Put : okApp ob1_Put = true) (hob1_Drop : okApp ob1_Drop = true) (hob2_Put : okApp ob2_Put = true) : Sim (Q18) (b18_r4 x18 x19 x20 b2_Default b2_Closed b2_Fuel b2_Stack b2_Put b2_Drop) (f18_r4 0 (.ptr 1 0) (.ptr 2 0) (.p (.lst ox18 (x18.map e_Srule_Rule))) (iv x19) (iv x20) [(r_Srule_Delta b0 ob0_Put ob0_Drop), (r_Scolanderref07_Delta b1 ob1_Put ob1_Drop), (r_Scolanderref07_Delta (Scolanderref07_Delta.mk b2_Default b2_Closed b2_Fuel b2_Stack b2_Put b2_Drop) ob2_Put ob2_Drop)]) := by
  unfold b18_r4
  refine zf (f18_r4_eq ..) ?_
  refine ze ?_
  refine zi fun a1 ha1 => ?_
  refine zo (.cptr (k_Srule_Rule a1)) ?_ (Eq.trans (by kernel_rfl) (xidx_of (o := ox18) (k := .i64) (n := 5) (e := e_Srule_Rule) (cs := c_Srule_Rule) (fun _ => rfl) (fun _ => rfl) (by decide) ha1))
  refine zo (.p (.agg (k_Srule_Rule a1))) ?_
  refine zz (.ptr 3 0) [(r_Srule_Delta b0 ob0_Put ob0_Drop), (r_Scolanderref07_Delta b1 ob1_Put ob1_Drop), (r_Scolanderref07_Delta (Scolanderref07_Delta.mk b2_Default b2_Closed b2_Fuel b2_Stack b2_Put b2_Drop) ob2_Put ob2_Drop), (r_Srule_Rule (Srule_Rule.mk 0 0 0 0 (ByteArray.mk #[])))] ?_
  refine zt [(r_Srule_Delta b0 ob0_Put ob0_Drop), (r_Scolanderref07_Delta b1 ob1_Put ob1_Drop), (r_Scolanderref07_Delta (Scolanderref07_Delta.mk b2_Default b2_Closed b2_Fuel b2_Stack b2_Put b2_Drop) ob2_Put ob2_Drop), (r_Srule_Rule a1)] ?_
  refine ze ?_
  refine zo (.ptr 2 4) ?_
  refine zw (.p (.lst ob2_Put (b2_Put.map e_Srule_Rule))) [(r_Srule_Delta b0 ob0_Put ob0_Drop), (r_Scolanderref07_Delta b1 ob1_Put ob1_Drop), (r_Scolanderref07_Delta (Scolanderref07_Delta.mk b2_Default b2_Closed b2_Fuel b2_Stack b2_Put b2_Drop) (shrO ob2_Put) ob2_Drop), (r_Srule_Rule a1)] ?_
  refine zo (.p (.agg (k_Srule_Rule a1))) ?_
  refine zo (.p (.lst .ex (([a1] : List Srule_Rule).map e_Srule_Rule))) ?_
  refine zi fun a2 ha2 => ?_
  refine zo (.p (.lst .un (a2.map e_Srule_Rule))) ?_ (Eq.trans (by kernel_rfl) <| xapp_of (n := 5) (o := ob2_Put) (o' := .ex) (e := e_Srule_Rule) (ys := ([a1] : List Srule_Rule)) (fun _ => rfl) (by decide) hob2_Put ha2)
  refine zo (.ptr 2 4) ?_
  refine zt [(r_Srule_Delta b0 ob0_Put ob0_Drop), (r_Scolanderref07_Delta b1 ob1_Put ob1_Drop), (r_Scolanderref07_Delta (Scolanderref07_Delta.mk b2_Default b2_Closed b2_Fuel b2_Stack a2 b2_Drop) .un ob2_Drop), (r_Srule_Rule a1)] ?_
  refine ze ?_
  refine zo (iv (IntKind.i64.wrap (x20 + 1))) ?_
  exact zk (g18_l3_to (x18) (x19) ((IntKind.i64.wrap (x20 + 1))) (b0) (b1) (b2_Default) (b2_Closed) (b2_Fuel) (b2_Stack) (a2) (b2_Drop) ox18 ob0_Put ob0_Drop ob1_Put ob1_Drop .un ob2_Drop hob1_Put hob1_Drop rfl)
noncomputable def b18_r7 (b2_Default : Int) (b2_Closed : Int) (b2_Fuel : Int) (b2_Stack : Int) (b2_Put : List Srule_Rule) (b2_Drop : List Int) : Option (Scolanderref07_Delta) :=
 some ((Scolanderref07_Delta.mk b2_Default b2_Closed b2_Fuel b2_Stack b2_Put b2_Drop))
theorem g18_r7_sim (b0 : Srule_Delta) (b1 : Scolanderref07_Delta) (b2_Default : Int) (b2_Closed : Int) (b2_Fuel : Int) (b2_Stack : Int) (b2_Put : List Srule_Rule) (b2_Drop : List Int) (ob0_Put : Own) (ob0_Drop : Own) (ob1_Put : Own) (ob1_Drop : Own) (ob2_Put : Own) (ob2_Drop : Own) (hob1_Put : okApp ob1_Put = true) (hob1_Drop : okApp ob1_Drop = true) (hob2_Put : okApp ob2_Put = true) : Sim (Q18) (b18_r7 b2_Default b2_Closed b2_Fuel b2_Stack b2_Put b2_Drop) (f18_r7 0 (.ptr 1 0) (.ptr 2 0) [(r_Srule_Delta b0 ob0_Put ob0_Drop), (r_Scolanderref07_Delta b1 ob1_Put ob1_Drop), (r_Scolanderref07_Delta (Scolanderref07_Delta.mk b2_Default b2_Closed b2_Fuel b2_Stack b2_Put b2_Drop) ob2_Put ob2_Drop)]) := by
  unfold b18_r7
  refine zf (f18_r7_eq ..) ?_
  refine ze ?_
  refine zo (.p (.agg (k_Scolanderref07_Delta (Scolanderref07_Delta.mk b2_Default b2_Closed b2_Fuel b2_Stack b2_Put b2_Drop) (shrO ob2_Put) (shrO ob2_Drop)))) ?_
  refine zt [(r_Srule_Delta b0 ob0_Put ob0_Drop), (r_Scolanderref07_Delta (Scolanderref07_Delta.mk b2_Default b2_Closed b2_Fuel b2_Stack b2_Put b2_Drop) (shrO ob2_Put) (shrO ob2_Drop)), (r_Scolanderref07_Delta (Scolanderref07_Delta.mk b2_Default b2_Closed b2_Fuel b2_Stack b2_Put b2_Drop) ob2_Put ob2_Drop)] ?_
  exact zr ((.p (.agg (k_Scolanderref07_Delta (Scolanderref07_Delta.mk b2_Default b2_Closed b2_Fuel b2_Stack b2_Put b2_Drop) .sh .sh))), [(r_Srule_Delta b0 ob0_Put ob0_Drop), (r_Scolanderref07_Delta (Scolanderref07_Delta.mk b2_Default b2_Closed b2_Fuel b2_Stack b2_Put b2_Drop) (shrO ob2_Put) (shrO ob2_Drop)), (r_Scolanderref07_Delta (Scolanderref07_Delta.mk b2_Default b2_Closed b2_Fuel b2_Stack b2_Put b2_Drop) ob2_Put ob2_Drop)]) ⟨_, rfl⟩
noncomputable def b18_l3 (x18 : List Srule_Rule) (x19 : Int) (x20 : Int) (b2_Default : Int) (b2_Closed : Int) (b2_Fuel : Int) (b2_Stack : Int) (b2_Put : List Srule_Rule) (b2_Drop : List Int) : Option (Scolanderref07_Delta) :=
 if ((decide (x20 < x19))) = true then
 (b18_r4 x18 x19 x20 b2_Default b2_Closed b2_Fuel b2_Stack b2_Put b2_Drop)
 else
 (b18_r7 b2_Default b2_Closed b2_Fuel b2_Stack b2_Put b2_Drop)
theorem g18_l3_sim (x18 : List Srule_Rule) (x19 : Int) (x20 : Int) (b0 : Srule_Delta) (b1 : Scolanderref07_Delta) (b2_Default : Int) (b2_Closed : Int) (b2_Fuel : Int) (b2_Stack : Int) (b2_Put : List Srule_Rule) (b2_Drop : List Int) (ox18 : Own) (ob0_Put : Own) (ob0_Drop : Own) (ob1_Put : Own) (ob1_Drop : Own) (ob2_Put : Own) (ob2_Drop : Own) (hob1_Put : okApp ob1_Put = true) (hob1_Drop : okApp ob1_Drop = true) (hob2_Put : okApp ob2_Put = true) : Sim (Q18) (b18_l3 x18 x19 x20 b2_Default b2_Closed b2_Fuel b2_Stack b2_Put b2_Drop) (f18_l3 0 (.ptr 1 0) (.ptr 2 0) (.p (.lst ox18 (x18.map e_Srule_Rule))) (iv x19) (iv x20) [(r_Srule_Delta b0 ob0_Put ob0_Drop), (r_Scolanderref07_Delta b1 ob1_Put ob1_Drop), (r_Scolanderref07_Delta (Scolanderref07_Delta.mk b2_Default b2_Closed b2_Fuel b2_Stack b2_Put b2_Drop) ob2_Put ob2_Drop)]) := by
  unfold b18_l3
  refine zf (f18_l3_eq ..) ?_
  refine ze ?_
  refine zo (bv (decide (x20 < x19))) ?_
  refine za ((decide (x20 < x19))) ?_ ?_
  · exact zk (g18_r4_sim (x18) (x19) (x20) (b0) (b1) (b2_Default) (b2_Closed) (b2_Fuel) (b2_Stack) (b2_Put) (b2_Drop) ox18 ob0_Put ob0_Drop ob1_Put ob1_Drop ob2_Put ob2_Drop hob1_Put hob1_Drop hob2_Put)
  · exact zk (g18_r7_sim (b0) (b1) (b2_Default) (b2_Closed) (b2_Fuel) (b2_Stack) (b2_Put) (b2_Drop) ob0_Put ob0_Drop ob1_Put ob1_Drop ob2_Put ob2_Drop hob1_Put hob1_Drop hob2_Put)
theorem g18_l3_of (x18 : List Srule_Rule) (x19 : Int) (x20 : Int) (b2_Default : Int) (b2_Closed : Int) (b2_Fuel : Int) (b2_Stack : Int) (b2_Put : List Srule_Rule) (b2_Drop : List Int) {r} (h : b18_l3 x18 x19 x20 b2_Default b2_Closed b2_Fuel b2_Stack b2_Put b2_Drop = some r) : g18_l3 x18 x19 x20 b2_Default b2_Closed b2_Fuel b2_Stack b2_Put b2_Drop = some r :=
  pick_of (fun _ _ ha hb => RRun.uniq (Q18_u) (ha default default .ex .ex .ex .ex .ex .ex .ex rfl rfl rfl) (hb default default .ex .ex .ex .ex .ex .ex .ex rfl rfl rfl)) (fun b0 b1 ox18 ob0_Put ob0_Drop ob1_Put ob1_Drop ob2_Put ob2_Drop hob1_Put hob1_Drop hob2_Put => g18_l3_sim x18 x19 x20 b0 b1 b2_Default b2_Closed b2_Fuel b2_Stack b2_Put b2_Drop ox18 ob0_Put ob0_Drop ob1_Put ob1_Drop ob2_Put ob2_Drop hob1_Put hob1_Drop hob2_Put r h)
/-! "colander/colanderref07.Apply": g17 -/
noncomputable def b17_r6 (b0 : Scolanderref07_Set) (b1 : Scolanderref07_Delta) (b3_Default : Int) (b3_Closed : Int) (b3_Fuel : Int) (b3_Stack : Int) (b3_Rules : List Srule_Rule) : Option (Scolanderref07_Set × Int) :=
 g17_l7 0 b0 b1 b3_Default b3_Closed b3_Fuel b3_Stack b3_Rules
theorem g17_r6_sim (b0 : Scolanderref07_Set) (b1 : Scolanderref07_Delta) (b2 : Scolanderref07_Set) (b3_Default : Int) (b3_Closed : Int) (b3_Fuel : Int) (b3_Stack : Int) (b3_Rules : List Srule_Rule) (ob0_Rules : Own) (ob1_Put : Own) (ob1_Drop : Own) (ob2_Rules : Own) (ob3_Rules : Own) (hob2_Rules : okApp ob2_Rules = true) (hob3_Rules : okApp ob3_Rules = true) : Sim (Q17) (b17_r6 b0 b1 b3_Default b3_Closed b3_Fuel b3_Stack b3_Rules) (f17_r6 0 (.ptr 0 0) (.ptr 1 0) (.ptr 2 0) (.ptr 3 0) [(r_Scolanderref07_Set b0 ob0_Rules), (r_Scolanderref07_Delta b1 ob1_Put ob1_Drop), (r_Scolanderref07_Set b2 ob2_Rules), (r_Scolanderref07_Set (Scolanderref07_Set.mk b3_Default b3_Closed b3_Fuel b3_Stack b3_Rules) ob3_Rules)]) := by
  unfold b17_r6
  refine zf (f17_r6_eq ..) ?_
  refine ze ?_
  exact zk (g17_l7_to (0) (b0) (b1) (b2) (b3_Default) (b3_Closed) (b3_Fuel) (b3_Stack) (b3_Rules) ob0_Rules ob1_Put ob1_Drop ob2_Rules ob3_Rules hob2_Rules hob3_Rules)
noncomputable def b17_r3 (b0 : Scolanderref07_Set) (b1 : Scolanderref07_Delta) : Option (Scolanderref07_Set × Int) :=
 (g32 b1.Default b0.Default).bind fun r1 =>
 (g32 b1.Closed b0.Closed).bind fun r2 =>
 (g32 b1.Fuel b0.Fuel).bind fun r3 =>
 (g32 b1.Stack b0.Stack).bind fun r4 =>
 (g33 ((Scolanderref07_Set.mk r1 r2 r3 r4 ([] : List Srule_Rule)))).bind fun r5 =>
 if ((!r5)) = true then
 (some ((Scolanderref07_Set.mk 0 0 0 0 ([] : List Srule_Rule)), 30))
 else
 (b17_r6 b0 b1 r1 r2 r3 r4 (([] : List Srule_Rule)))
theorem g17_r3_sim (b0 : Scolanderref07_Set) (b1 : Scolanderref07_Delta) (b2 : Scolanderref07_Set) (ob0_Rules : Own) (ob1_Put : Own) (ob1_Drop : Own) (ob2_Rules : Own) (hob2_Rules : okApp ob2_Rules = true) : Sim (Q17) (b17_r3 b0 b1) (f17_r3 0 (.ptr 0 0) (.ptr 1 0) (.ptr 2 0) [(r_Scolanderref07_Set b0 ob0_Rules), (r_Scolanderref07_Delta b1 ob1_Put ob1_Drop), (r_Scolanderref07_Set b2 ob2_Rules)]) := by
  unfold b17_r3
  refine zf (f17_r3_eq ..) ?_
  refine ze ?_
  refine zo (.ptr 1 0) ?_
  refine zo (iv b1.Default) ?_
  refine zo (.ptr 0 0) ?_
  refine zo (iv b0.Default) ?_
  refine zi fun r1 hr1 => ?_
  obtain ⟨qr1, er1, exr1, rfl⟩ := g32_to (b1.Default) (b0.Default) r1 hr1
  refine zc [] (iv r1) [(r_Scolanderref07_Set b0 ob0_Rules), (r_Scolanderref07_Delta b1 ob1_Put ob1_Drop), (r_Scolanderref07_Set b2 ob2_Rules)] er1 ?_
  refine zo (.ptr 1 1) ?_
  refine zo (iv b1.Closed) ?_
  refine zo (.ptr 0 1) ?_
  refine zo (iv b0.Closed) ?_
  refine zi fun r2 hr2 => ?_
  obtain ⟨qr2, er2, exr2, rfl⟩ := g32_to (b1.Closed) (b0.Closed) r2 hr2
  refine zc [] (iv r2) [(r_Scolanderref07_Set b0 ob0_Rules), (r_Scolanderref07_Delta b1 ob1_Put ob1_Drop), (r_Scolanderref07_Set b2 ob2_Rules)] er2 ?_
  refine zo (.ptr 1 2) ?_
  refine zo (iv b1.Fuel) ?_
  refine zo (.ptr 0 2) ?_
  refine zo (iv b0.Fuel) ?_
  refine zi fun r3 hr3 => ?_
  obtain ⟨qr3, er3, exr3, rfl⟩ := g32_to (b1.Fuel) (b0.Fuel) r3 hr3
  refine zc [] (iv r3) [(r_Scolanderref07_Set b0 ob0_Rules), (r_Scolanderref07_Delta b1 ob1_Put ob1_Drop), (r_Scolanderref07_Set b2 ob2_Rules)] er3 ?_
  refine zo (.ptr 1 3) ?_
  refine zo (iv b1.Stack) ?_
  refine zo (.ptr 0 3) ?_
  refine zo (iv b0.Stack) ?_
  refine zi fun r4 hr4 => ?_
  obtain ⟨qr4, er4, exr4, rfl⟩ := g32_to (b1.Stack) (b0.Stack) r4 hr4
  refine zc [] (iv r4) [(r_Scolanderref07_Set b0 ob0_Rules), (r_Scolanderref07_Delta b1 ob1_Put ob1_Drop), (r_Scolanderref07_Set b2 ob2_Rules)] er4 ?_
  refine zo (.p (.agg (k_Scolanderref07_Set (Scolanderref07_Set.mk r1 r2 r3 r4 ([] : List Srule_Rule)) .nl))) ?_
  refine zz (.ptr 3 0) [(r_Scolanderref07_Set b0 ob0_Rules), (r_Scolanderref07_Delta b1 ob1_Put ob1_Drop), (r_Scolanderref07_Set b2 ob2_Rules), (r_Scolanderref07_Set (Scolanderref07_Set.mk 0 0 0 0 ([] : List Srule_Rule)) .nl)] ?_
  refine zt [(r_Scolanderref07_Set b0 ob0_Rules), (r_Scolanderref07_Delta b1 ob1_Put ob1_Drop), (r_Scolanderref07_Set b2 ob2_Rules), (r_Scolanderref07_Set (Scolanderref07_Set.mk r1 r2 r3 r4 ([] : List Srule_Rule)) .nl)] ?_
  refine zg ?_
  refine zg ?_
  refine zg ?_
  refine zg ?_
  refine zg ?_
  refine zg ?_
  refine zg ?_
  refine zg ?_
  refine zg ?_
  refine zg ?_
  refine zg ?_
  refine zg ?_
  refine zg ?_
  refine zg ?_
  refine zg ?_
  refine zg ?_
  refine zg ?_
  refine zg ?_
  refine zg ?_
  refine zg ?_
  refine zg ?_
  refine zg ?_
  refine zg ?_
  refine zg ?_
  refine ze ?_
  refine zo (.p (.agg (k_Scolanderref07_Set (Scolanderref07_Set.mk r1 r2 r3 r4 ([] : List Srule_Rule)) .nl))) ?_
  refine zi fun r5 hr5 => ?_
  obtain ⟨qr5, er5, exr5, rfl⟩ := g33_to ((Scolanderref07_Set.mk r1 r2 r3 r4 ([] : List Srule_Rule))) .sh r5 hr5
  refine zc [] (bv r5) [(r_Scolanderref07_Set b0 ob0_Rules), (r_Scolanderref07_Delta b1 ob1_Put ob1_Drop), (r_Scolanderref07_Set b2 ob2_Rules), (r_Scolanderref07_Set (Scolanderref07_Set.mk r1 r2 r3 r4 ([] : List Srule_Rule)) .nl)] er5 ?_
  refine zo (bv (!r5)) ?_
  refine za ((!r5)) ?_ ?_
  · refine ze ?_
    refine zo (.p (.agg (k_Scolanderref07_Set (Scolanderref07_Set.mk 0 0 0 0 ([] : List Srule_Rule)) .nl))) ?_
    refine zt [(r_Scolanderref07_Set b0 ob0_Rules), (r_Scolanderref07_Delta b1 ob1_Put ob1_Drop), (r_Scolanderref07_Set (Scolanderref07_Set.mk 0 0 0 0 ([] : List Srule_Rule)) .nl), (r_Scolanderref07_Set (Scolanderref07_Set.mk r1 r2 r3 r4 ([] : List Srule_Rule)) .nl)] ?_
    exact zr ((.p (.tup [(.agg (k_Scolanderref07_Set (Scolanderref07_Set.mk 0 0 0 0 ([] : List Srule_Rule)) .sh)), (.v (.int .i64 30))])), [(r_Scolanderref07_Set b0 ob0_Rules), (r_Scolanderref07_Delta b1 ob1_Put ob1_Drop), (r_Scolanderref07_Set (Scolanderref07_Set.mk 0 0 0 0 ([] : List Srule_Rule)) .nl), (r_Scolanderref07_Set (Scolanderref07_Set.mk r1 r2 r3 r4 ([] : List Srule_Rule)) .nl)]) ⟨_, rfl⟩
  · exact zk (g17_r6_sim (b0) (b1) (b2) (r1) (r2) (r3) (r4) (([] : List Srule_Rule)) ob0_Rules ob1_Put ob1_Drop ob2_Rules .nl hob2_Rules rfl)
noncomputable def b17 (x0 : Scolanderref07_Set) (x1 : Scolanderref07_Delta) : Option (Scolanderref07_Set × Int) :=
 (g19 x0).bind fun r1 =>
 if ((!r1)) = true then
 (some ((Scolanderref07_Set.mk 0 0 0 0 ([] : List Srule_Rule)), 10))
 else
 (b17_r3 x0 x1)
theorem g17_sim (x0 : Scolanderref07_Set) (x1 : Scolanderref07_Delta) (ox0_Rules : Own) (ox1_Put : Own) (ox1_Drop : Own) : Sim (Q17) (b17 x0 x1) (EE 17 [(.p (.agg (k_Scolanderref07_Set x0 ox0_Rules))), (.p (.agg (k_Scolanderref07_Delta x1 ox1_Put ox1_Drop)))] []) := by
  unfold b17
  refine zf (f17_eq ..) ?_
  refine ze ?_
  refine zx (.ptr 0 0) [(r_Scolanderref07_Set x0 ox0_Rules)] ?_
  refine zx (.ptr 1 0) [(r_Scolanderref07_Set x0 ox0_Rules), (r_Scolanderref07_Delta x1 ox1_Put ox1_Drop)] ?_
  refine zz (.ptr 2 0) [(r_Scolanderref07_Set x0 ox0_Rules), (r_Scolanderref07_Delta x1 ox1_Put ox1_Drop), (r_Scolanderref07_Set (Scolanderref07_Set.mk 0 0 0 0 ([] : List Srule_Rule)) .nl)] ?_
  refine ze ?_
  refine zo (.p (.agg (k_Scolanderref07_Set x0 (shrO ox0_Rules)))) ?_
  refine zi fun r1 hr1 => ?_
  obtain ⟨qr1, er1, exr1, rfl⟩ := g19_to (x0) .sh r1 hr1
  refine zc [] (bv r1) [(r_Scolanderref07_Set x0 ox0_Rules), (r_Scolanderref07_Delta x1 ox1_Put ox1_Drop), (r_Scolanderref07_Set (Scolanderref07_Set.mk 0 0 0 0 ([] : List Srule_Rule)) .nl)] er1 ?_
  refine zo (bv (!r1)) ?_
  refine za ((!r1)) ?_ ?_
  · refine ze ?_
    refine zo (.p (.agg (k_Scolanderref07_Set (Scolanderref07_Set.mk 0 0 0 0 ([] : List Srule_Rule)) .nl))) ?_
    refine zt [(r_Scolanderref07_Set x0 ox0_Rules), (r_Scolanderref07_Delta x1 ox1_Put ox1_Drop), (r_Scolanderref07_Set (Scolanderref07_Set.mk 0 0 0 0 ([] : List Srule_Rule)) .nl)] ?_
    exact zr ((.p (.tup [(.agg (k_Scolanderref07_Set (Scolanderref07_Set.mk 0 0 0 0 ([] : List Srule_Rule)) .sh)), (.v (.int .i64 10))])), [(r_Scolanderref07_Set x0 ox0_Rules), (r_Scolanderref07_Delta x1 ox1_Put ox1_Drop), (r_Scolanderref07_Set (Scolanderref07_Set.mk 0 0 0 0 ([] : List Srule_Rule)) .nl)]) ⟨_, rfl⟩
  · exact zk (g17_r3_sim (x0) (x1) ((Scolanderref07_Set.mk 0 0 0 0 ([] : List Srule_Rule))) ox0_Rules ox1_Put ox1_Drop .nl rfl)
theorem g17_of (x0 : Scolanderref07_Set) (x1 : Scolanderref07_Delta) {r} (h : b17 x0 x1 = some r) : g17 x0 x1 = some r :=
  pick_of (fun _ _ ha hb => RRun.uniq (Q17_u) (ha .ex .ex .ex) (hb .ex .ex .ex)) (fun ox0_Rules ox1_Put ox1_Drop => g17_sim x0 x1 ox0_Rules ox1_Put ox1_Drop r h)
noncomputable def b17_r8 (x7 : Int) (b0 : Scolanderref07_Set) (b1 : Scolanderref07_Delta) (b3_Default : Int) (b3_Closed : Int) (b3_Fuel : Int) (b3_Stack : Int) (b3_Rules : List Srule_Rule) : Option (Scolanderref07_Set × Int) :=
 g17_l7 ((IntKind.i64.wrap (x7 + 1))) b0 b1 b3_Default b3_Closed b3_Fuel b3_Stack b3_Rules
theorem g17_r8_sim (x7 : Int) (b0 : Scolanderref07_Set) (b1 : Scolanderref07_Delta) (b2 : Scolanderref07_Set) (b3_Default : Int) (b3_Closed : Int) (b3_Fuel : Int) (b3_Stack : Int) (b3_Rules : List Srule_Rule) (ob0_Rules : Own) (ob1_Put : Own) (ob1_Drop : Own) (ob2_Rules : Own) (ob3_Rules : Own) (hob2_Rules : okApp ob2_Rules = true) (hob3_Rules : okApp ob3_Rules = true) : Sim (Q17) (b17_r8 x7 b0 b1 b3_Default b3_Closed b3_Fuel b3_Stack b3_Rules) (f17_r8 0 (.ptr 0 0) (.ptr 1 0) (.ptr 2 0) (.ptr 3 0) (iv x7) [(r_Scolanderref07_Set b0 ob0_Rules), (r_Scolanderref07_Delta b1 ob1_Put ob1_Drop), (r_Scolanderref07_Set b2 ob2_Rules), (r_Scolanderref07_Set (Scolanderref07_Set.mk b3_Default b3_Closed b3_Fuel b3_Stack b3_Rules) ob3_Rules)]) := by
  unfold b17_r8
  refine zf (f17_r8_eq ..) ?_
  refine ze ?_
  refine zo (iv (IntKind.i64.wrap (x7 + 1))) ?_
  exact zk (g17_l7_to ((IntKind.i64.wrap (x7 + 1))) (b0) (b1) (b2) (b3_Default) (b3_Closed) (b3_Fuel) (b3_Stack) (b3_Rules) ob0_Rules ob1_Put ob1_Drop ob2_Rules ob3_Rules hob2_Rules hob3_Rules)
noncomputable def b17_r9 (x7 : Int) (b0 : Scolanderref07_Set) (b1 : Scolanderref07_Delta) (b3_Default : Int) (b3_Closed : Int) (b3_Fuel : Int) (b3_Stack : Int) (b3_Rules : List Srule_Rule) : Option (Scolanderref07_Set × Int) :=
 (lget b1.Put x7).bind fun a1 =>
 (g34 a1).bind fun r2 =>
 if ((!r2)) = true then
 (some ((Scolanderref07_Set.mk 0 0 0 0 ([] : List Srule_Rule)), 30))
 else
 (b17_r8 x7 b0 b1 b3_Default b3_Closed b3_Fuel b3_Stack b3_Rules)
theorem g17_r9_sim (x7 : Int) (b0 : Scolanderref07_Set) (b1 : Scolanderref07_Delta) (b2 : Scolanderref07_Set) (b3_Default : Int) (b3_Closed : Int) (b3_Fuel : Int) (b3_Stack : Int) (b3_Rules : List Srule_Rule) (ob0_Rules : Own) (ob1_Put : Own) (ob1_Drop : Own) (ob2_Rules : Own) (ob3_Rules : Own) (hob2_Rules : okApp ob2_Rules = true) (hob3_Rules : okApp ob3_Rules = true) : Sim (Q17) (b17_r9 x7 b0 b1 b3_Default b3_Closed b3_Fuel b3_Stack b3_Rules) (f17_r9 0 (.ptr 0 0) (.ptr 1 0) (.ptr 2 0) (.ptr 3 0) (iv x7) [(r_Scolanderref07_Set b0 ob0_Rules), (r_Scolanderref07_Delta b1 ob1_Put ob1_Drop), (r_Scolanderref07_Set b2 ob2_Rules), (r_Scolanderref07_Set (Scolanderref07_Set.mk b3_Default b3_Closed b3_Fuel b3_Stack b3_Rules) ob3_Rules)]) := by
  unfold b17_r9
  refine zf (f17_r9_eq ..) ?_
  refine ze ?_
  refine zo (.ptr 1 4) ?_
  refine zo (.p (.lst (shrO ob1_Put) (b1.Put.map e_Srule_Rule))) ?_
  refine zi fun a1 ha1 => ?_
  refine zo (.cptr (k_Srule_Rule a1)) ?_ (Eq.trans (by kernel_rfl) (xidx_of (o := (shrO ob1_Put)) (k := .i64) (n := 5) (e := e_Srule_Rule) (cs := c_Srule_Rule) (fun _ => rfl) (fun _ => rfl) (by decide) ha1))
  refine zo (.p (.agg (k_Srule_Rule a1))) ?_
  refine zi fun r2 hr2 => ?_
  obtain ⟨qr2, er2, exr2, rfl⟩ := g34_to (a1) r2 hr2
  refine zc [] (bv r2) [(r_Scolanderref07_Set b0 ob0_Rules), (r_Scolanderref07_Delta b1 ob1_Put ob1_Drop), (r_Scolanderref07_Set b2 ob2_Rules), (r_Scolanderref07_Set (Scolanderref07_Set.mk b3_Default b3_Closed b3_Fuel b3_Stack b3_Rules) ob3_Rules)] er2 ?_
  refine zo (bv (!r2)) ?_
  refine za ((!r2)) ?_ ?_
  · refine ze ?_
    refine zo (.p (.agg (k_Scolanderref07_Set (Scolanderref07_Set.mk 0 0 0 0 ([] : List Srule_Rule)) .nl))) ?_
    refine zt [(r_Scolanderref07_Set b0 ob0_Rules), (r_Scolanderref07_Delta b1 ob1_Put ob1_Drop), (r_Scolanderref07_Set (Scolanderref07_Set.mk 0 0 0 0 ([] : List Srule_Rule)) .nl), (r_Scolanderref07_Set (Scolanderref07_Set.mk b3_Default b3_Closed b3_Fuel b3_Stack b3_Rules) ob3_Rules)] ?_
    exact zr ((.p (.tup [(.agg (k_Scolanderref07_Set (Scolanderref07_Set.mk 0 0 0 0 ([] : List Srule_Rule)) .sh)), (.v (.int .i64 30))])), [(r_Scolanderref07_Set b0 ob0_Rules), (r_Scolanderref07_Delta b1 ob1_Put ob1_Drop), (r_Scolanderref07_Set (Scolanderref07_Set.mk 0 0 0 0 ([] : List Srule_Rule)) .nl), (r_Scolanderref07_Set (Scolanderref07_Set.mk b3_Default b3_Closed b3_Fuel b3_Stack b3_Rules) ob3_Rules)]) ⟨_, rfl⟩
  · exact zk (g17_r8_sim (x7) (b0) (b1) (b2) (b3_Default) (b3_Closed) (b3_Fuel) (b3_Stack) (b3_Rules) ob0_Rules ob1_Put ob1_Drop ob2_Rules ob3_Rules hob2_Rules hob3_Rules)
noncomputable def b17_r13 (b0 : Scolanderref07_Set) (b1 : Scolanderref07_Delta) (b3_Default : Int) (b3_Closed : Int) (b3_Fuel : Int) (b3_Stack : Int) (b3_Rules : List Srule_Rule) : Option (Scolanderref07_Set × Int) :=
 g17_l14 0 b0 b1 b3_Default b3_Closed b3_Fuel b3_Stack b3_Rules
theorem g17_r13_sim (b0 : Scolanderref07_Set) (b1 : Scolanderref07_Delta) (b2 : Scolanderref07_Set) (b3_Default : Int) (b3_Closed : Int) (b3_Fuel : Int) (b3_Stack : Int) (b3_Rules : List Srule_Rule) (ob0_Rules : Own) (ob1_Put : Own) (ob1_Drop : Own) (ob2_Rules : Own) (ob3_Rules : Own) (hob2_Rules : okApp ob2_Rules = true) (hob3_Rules : okApp ob3_Rules = true) : Sim (Q17) (b17_r13 b0 b1 b3_Default b3_Closed b3_Fuel b3_Stack b3_Rules) (f17_r13 0 (.ptr 0 0) (.ptr 1 0) (.ptr 2 0) (.ptr 3 0) [(r_Scolanderref07_Set b0 ob0_Rules), (r_Scolanderref07_Delta b1 ob1_Put ob1_Drop), (r_Scolanderref07_Set b2 ob2_Rules), (r_Scolanderref07_Set (Scolanderref07_Set.mk b3_Default b3_Closed b3_Fuel b3_Stack b3_Rules) ob3_Rules)]) := by
  unfold b17_r13
  refine zf (f17_r13_eq ..) ?_
  refine ze ?_
  exact zk (g17_l14_to (0) (b0) (b1) (b2) (b3_Default) (b3_Closed) (b3_Fuel) (b3_Stack) (b3_Rules) ob0_Rules ob1_Put ob1_Drop ob2_Rules ob3_Rules hob2_Rules hob3_Rules)
noncomputable def b17_r11 (b0 : Scolanderref07_Set) (b1 : Scolanderref07_Delta) (b3_Default : Int) (b3_Closed : Int) (b3_Fuel : Int) (b3_Stack : Int) (b3_Rules : List Srule_Rule) : Option (Scolanderref07_Set × Int) :=
 (g35 b1).bind fun r1 =>
 if (r1) = true then
 (some ((Scolanderref07_Set.mk 0 0 0 0 ([] : List Srule_Rule)), 31))
 else
 (b17_r13 b0 b1 b3_Default b3_Closed b3_Fuel b3_Stack b3_Rules)
theorem g17_r11_sim (b0 : Scolanderref07_Set) (b1 : Scolanderref07_Delta) (b2 : Scolanderref07_Set) (b3_Default : Int) (b3_Closed : Int) (b3_Fuel : Int) (b3_Stack : Int) (b3_Rules : List Srule_Rule) (ob0_Rules : Own) (ob1_Put : Own) (ob1_Drop : Own) (ob2_Rules : Own) (ob3_Rules : Own) (hob2_Rules : okApp ob2_Rules = true) (hob3_Rules : okApp ob3_Rules = true) : Sim (Q17) (b17_r11 b0 b1 b3_Default b3_Closed b3_Fuel b3_Stack b3_Rules) (f17_r11 0 (.ptr 0 0) (.ptr 1 0) (.ptr 2 0) (.ptr 3 0) [(r_Scolanderref07_Set b0 ob0_Rules), (r_Scolanderref07_Delta b1 ob1_Put ob1_Drop), (r_Scolanderref07_Set b2 ob2_Rules), (r_Scolanderref07_Set (Scolanderref07_Set.mk b3_Default b3_Closed b3_Fuel b3_Stack b3_Rules) ob3_Rules)]) := by
  unfold b17_r11
  refine zf (f17_r11_eq ..) ?_
  refine ze ?_
  refine zo (.p (.agg (k_Scolanderref07_Delta b1 (shrO ob1_Put) (shrO ob1_Drop)))) ?_
  refine zi fun r1 hr1 => ?_
  obtain ⟨qr1, er1, exr1, rfl⟩ := g35_to (b1) .sh .sh r1 hr1
  refine zc [] (bv r1) [(r_Scolanderref07_Set b0 ob0_Rules), (r_Scolanderref07_Delta b1 ob1_Put ob1_Drop), (r_Scolanderref07_Set b2 ob2_Rules), (r_Scolanderref07_Set (Scolanderref07_Set.mk b3_Default b3_Closed b3_Fuel b3_Stack b3_Rules) ob3_Rules)] er1 ?_
  refine za (r1) ?_ ?_
  · refine ze ?_
    refine zo (.p (.agg (k_Scolanderref07_Set (Scolanderref07_Set.mk 0 0 0 0 ([] : List Srule_Rule)) .nl))) ?_
    refine zt [(r_Scolanderref07_Set b0 ob0_Rules), (r_Scolanderref07_Delta b1 ob1_Put ob1_Drop), (r_Scolanderref07_Set (Scolanderref07_Set.mk 0 0 0 0 ([] : List Srule_Rule)) .nl), (r_Scolanderref07_Set (Scolanderref07_Set.mk b3_Default b3_Closed b3_Fuel b3_Stack b3_Rules) ob3_Rules)] ?_
    exact zr ((.p (.tup [(.agg (k_Scolanderref07_Set (Scolanderref07_Set.mk 0 0 0 0 ([] : List Srule_Rule)) .sh)), (.v (.int .i64 31))])), [(r_Scolanderref07_Set b0 ob0_Rules), (r_Scolanderref07_Delta b1 ob1_Put ob1_Drop), (r_Scolanderref07_Set (Scolanderref07_Set.mk 0 0 0 0 ([] : List Srule_Rule)) .nl), (r_Scolanderref07_Set (Scolanderref07_Set.mk b3_Default b3_Closed b3_Fuel b3_Stack b3_Rules) ob3_Rules)]) ⟨_, rfl⟩
  · exact zk (g17_r13_sim (b0) (b1) (b2) (b3_Default) (b3_Closed) (b3_Fuel) (b3_Stack) (b3_Rules) ob0_Rules ob1_Put ob1_Drop ob2_Rules ob3_Rules hob2_Rules hob3_Rules)
noncomputable def b17_l7 (x7 : Int) (b0 : Scolanderref07_Set) (b1 : Scolanderref07_Delta) (b3_Default : Int) (b3_Closed : Int) (b3_Fuel : Int) (b3_Stack : Int) (b3_Rules : List Srule_Rule) : Option (Scolanderref07_Set × Int) :=
 if ((decide (x7 < (b1.Put.length : Int)))) = true then
 (b17_r9 x7 b0 b1 b3_Default b3_Closed b3_Fuel b3_Stack b3_Rules)
 else
 (b17_r11 b0 b1 b3_Default b3_Closed b3_Fuel b3_Stack b3_Rules)
theorem g17_l7_sim (x7 : Int) (b0 : Scolanderref07_Set) (b1 : Scolanderref07_Delta) (b2 : Scolanderref07_Set) (b3_Default : Int) (b3_Closed : Int) (b3_Fuel : Int) (b3_Stack : Int) (b3_Rules : List Srule_Rule) (ob0_Rules : Own) (ob1_Put : Own) (ob1_Drop : Own) (ob2_Rules : Own) (ob3_Rules : Own) (hob2_Rules : okApp ob2_Rules = true) (hob3_Rules : okApp ob3_Rules = true) : Sim (Q17) (b17_l7 x7 b0 b1 b3_Default b3_Closed b3_Fuel b3_Stack b3_Rules) (f17_l7 0 (.ptr 0 0) (.ptr 1 0) (.ptr 2 0) (.ptr 3 0) (iv x7) [(r_Scolanderref07_Set b0 ob0_Rules), (r_Scolanderref07_Delta b1 ob1_Put ob1_Drop), (r_Scolanderref07_Set b2 ob2_Rules), (r_Scolanderref07_Set (Scolanderref07_Set.mk b3_Default b3_Closed b3_Fuel b3_Stack b3_Rules) ob3_Rules)]) := by
  unfold b17_l7
  refine zf (f17_l7_eq ..) ?_
  refine ze ?_
  refine zo (.ptr 1 4) ?_
  refine zo (.p (.lst (shrO ob1_Put) (b1.Put.map e_Srule_Rule))) ?_
  refine zo (iv (b1.Put.length : Int)) ?_ (Eq.trans (by kernel_rfl) (xlen_of (P := PP) (t := 34) (d := 69) (by kernel_rfl) e_Srule_Rule (shrO ob1_Put) b1.Put))
  refine zo (bv (decide (x7 < (b1.Put.length : Int)))) ?_
  refine za ((decide (x7 < (b1.Put.length : Int)))) ?_ ?_
  · exact zk (g17_r9_sim (x7) (b0) (b1) (b2) (b3_Default) (b3_Closed) (b3_Fuel) (b3_Stack) (b3_Rules) ob0_Rules ob1_Put ob1_Drop ob2_Rules ob3_Rules hob2_Rules hob3_Rules)
  · exact zk (g17_r11_sim (b0) (b1) (b2) (b3_Default) (b3_Closed) (b3_Fuel) (b3_Stack) (b3_Rules) ob0_Rules ob1_Put ob1_Drop ob2_Rules ob3_Rules hob2_Rules hob3_Rules)
theorem g17_l7_of (x7 : Int) (b0 : Scolanderref07_Set) (b1 : Scolanderref07_Delta) (b3_Default : Int) (b3_Closed : Int) (b3_Fuel : Int) (b3_Stack : Int) (b3_Rules : List Srule_Rule) {r} (h : b17_l7 x7 b0 b1 b3_Default b3_Closed b3_Fuel b3_Stack b3_Rules = some r) : g17_l7 x7 b0 b1 b3_Default b3_Closed b3_Fuel b3_Stack b3_Rules = some r :=
  pick_of (fun _ _ ha hb => RRun.uniq (Q17_u) (ha default .ex .ex .ex .ex .ex rfl rfl) (hb default .ex .ex .ex .ex .ex rfl rfl)) (fun b2 ob0_Rules ob1_Put ob1_Drop ob2_Rules ob3_Rules hob2_Rules hob3_Rules => g17_l7_sim x7 b0 b1 b2 b3_Default b3_Closed b3_Fuel b3_Stack b3_Rules ob0_Rules ob1_Put ob1_Drop ob2_Rules ob3_Rules hob2_Rules hob3_Rules r h)
noncomputable def b17_r15 (x8 : Int) (b0 : Scolanderref07_Set) (b1 : Scolanderref07_Delta) (b3_Default : Int) (b3_Closed : Int) (b3_Fuel : Int) (b3_Stack : Int) (b3_Rules : List Srule_Rule) : Option (Scolanderref07_Set × Int) :=
 g17_l14 ((IntKind.i64.wrap (x8 + 1))) b0 b1 b3_Default b3_Closed b3_Fuel b3_Stack b3_Rules
theorem g17_r15_sim (x8 : Int) (b0 : Scolanderref07_Set) (b1 : Scolanderref07_Delta) (b2 : Scolanderref07_Set) (b3_Default : Int) (b3_Closed : Int) (b3_Fuel : Int) (b3_Stack : Int) (b3_Rules : List Srule_Rule) (ob0_Rules : Own) (ob1_Put : Own) (ob1_Drop : Own) (ob2_Rules : Own) (ob3_Rules : Own) (hob2_Rules : okApp ob2_Rules = true) (hob3_Rules : okApp ob3_Rules = true) : Sim (Q17) (b17_r15 x8 b0 b1 b3_Default b3_Closed b3_Fuel b3_Stack b3_Rules) (f17_r15 0 (.ptr 0 0) (.ptr 1 0) (.ptr 2 0) (.ptr 3 0) (iv x8) [(r_Scolanderref07_Set b0 ob0_Rules), (r_Scolanderref07_Delta b1 ob1_Put ob1_Drop), (r_Scolanderref07_Set b2 ob2_Rules), (r_Scolanderref07_Set (Scolanderref07_Set.mk b3_Default b3_Closed b3_Fuel b3_Stack b3_Rules) ob3_Rules)]) := by
  unfold b17_r15
  refine zf (f17_r15_eq ..) ?_
  refine ze ?_
  refine zo (iv (IntKind.i64.wrap (x8 + 1))) ?_
  exact zk (g17_l14_to ((IntKind.i64.wrap (x8 + 1))) (b0) (b1) (b2) (b3_Default) (b3_Closed) (b3_Fuel) (b3_Stack) (b3_Rules) ob0_Rules ob1_Put ob1_Drop ob2_Rules ob3_Rules hob2_Rules hob3_Rules)
noncomputable def b17_r16 (x8 : Int) (b0 : Scolanderref07_Set) (b1 : Scolanderref07_Delta) (b3_Default : Int) (b3_Closed : Int) (b3_Fuel : Int) (b3_Stack : Int) (b3_Rules : List Srule_Rule) : Option (Scolanderref07_Set × Int) :=
 (lget b1.Drop x8).bind fun a1 =>
 (g36 b0.Rules a1).bind fun r2 =>
 if ((decide (r2 < 0))) = true then
 (some ((Scolanderref07_Set.mk 0 0 0 0 ([] : List Srule_Rule)), 32))
 else
 (b17_r15 x8 b0 b1 b3_Default b3_Closed b3_Fuel b3_Stack b3_Rules)
theorem g17_r16_sim (x8 : Int) (b0 : Scolanderref07_Set) (b1 : Scolanderref07_Delta) (b2 : Scolanderref07_Set) (b3_Default : Int) (b3_Closed : Int) (b3_Fuel : Int) (b3_Stack : Int) (b3_Rules : List Srule_Rule) (ob0_Rules : Own) (ob1_Put : Own) (ob1_Drop : Own) (ob2_Rules : Own) (ob3_Rules : Own) (hob2_Rules : okApp ob2_Rules = true) (hob3_Rules : okApp ob3_Rules = true) : Sim (Q17) (b17_r16 x8 b0 b1 b3_Default b3_Closed b3_Fuel b3_Stack b3_Rules) (f17_r16 0 (.ptr 0 0) (.ptr 1 0) (.ptr 2 0) (.ptr 3 0) (iv x8) [(r_Scolanderref07_Set b0 ob0_Rules), (r_Scolanderref07_Delta b1 ob1_Put ob1_Drop), (r_Scolanderref07_Set b2 ob2_Rules), (r_Scolanderref07_Set (Scolanderref07_Set.mk b3_Default b3_Closed b3_Fuel b3_Stack b3_Rules) ob3_Rules)]) := by
  unfold b17_r16
  refine zf (f17_r16_eq ..) ?_
  refine ze ?_
  refine zo (.ptr 0 4) ?_
  refine zo (.p (.lst (shrO ob0_Rules) (b0.Rules.map e_Srule_Rule))) ?_
  refine zo (.ptr 1 5) ?_
  refine zo (.p (.lst (shrO ob1_Drop) (b1.Drop.map (eI .i64)))) ?_
  refine zi fun a1 ha1 => ?_
  refine zo (.cptr [(.v (.int .i64 a1))]) ?_ (Eq.trans (by kernel_rfl) (xidx_of (o := (shrO ob1_Drop)) (k := .i64) (n := 1) (e := (eI .i64)) (cs := (fun a => [(eI .i64) a])) (fun _ => rfl) (fun _ => rfl) (by decide) ha1))
  refine zo (iv a1) ?_
  refine zi fun r2 hr2 => ?_
  obtain ⟨qr2, er2, exr2, rfl⟩ := g36_to (b0.Rules) (a1) .sh r2 hr2
  refine zc [] (iv r2) [(r_Scolanderref07_Set b0 ob0_Rules), (r_Scolanderref07_Delta b1 ob1_Put ob1_Drop), (r_Scolanderref07_Set b2 ob2_Rules), (r_Scolanderref07_Set (Scolanderref07_Set.mk b3_Default b3_Closed b3_Fuel b3_Stack b3_Rules) ob3_Rules)] er2 ?_
  refine zo (bv (decide (r2 < 0))) ?_
  refine za ((decide (r2 < 0))) ?_ ?_
  · refine ze ?_
    refine zo (.p (.agg (k_Scolanderref07_Set (Scolanderref07_Set.mk 0 0 0 0 ([] : List Srule_Rule)) .nl))) ?_
    refine zt [(r_Scolanderref07_Set b0 ob0_Rules), (r_Scolanderref07_Delta b1 ob1_Put ob1_Drop), (r_Scolanderref07_Set (Scolanderref07_Set.mk 0 0 0 0 ([] : List Srule_Rule)) .nl), (r_Scolanderref07_Set (Scolanderref07_Set.mk b3_Default b3_Closed b3_Fuel b3_Stack b3_Rules) ob3_Rules)] ?_
    exact zr ((.p (.tup [(.agg (k_Scolanderref07_Set (Scolanderref07_Set.mk 0 0 0 0 ([] : List Srule_Rule)) .sh)), (.v (.int .i64 32))])), [(r_Scolanderref07_Set b0 ob0_Rules), (r_Scolanderref07_Delta b1 ob1_Put ob1_Drop), (r_Scolanderref07_Set (Scolanderref07_Set.mk 0 0 0 0 ([] : List Srule_Rule)) .nl), (r_Scolanderref07_Set (Scolanderref07_Set.mk b3_Default b3_Closed b3_Fuel b3_Stack b3_Rules) ob3_Rules)]) ⟨_, rfl⟩
  · exact zk (g17_r15_sim (x8) (b0) (b1) (b2) (b3_Default) (b3_Closed) (b3_Fuel) (b3_Stack) (b3_Rules) ob0_Rules ob1_Put ob1_Drop ob2_Rules ob3_Rules hob2_Rules hob3_Rules)
noncomputable def b17_r18 (b0 : Scolanderref07_Set) (b1 : Scolanderref07_Delta) (b3_Default : Int) (b3_Closed : Int) (b3_Fuel : Int) (b3_Stack : Int) (b3_Rules : List Srule_Rule) : Option (Scolanderref07_Set × Int) :=
 g17_l19 0 b0 b1 b3_Default b3_Closed b3_Fuel b3_Stack b3_Rules
theorem g17_r18_sim (b0 : Scolanderref07_Set) (b1 : Scolanderref07_Delta) (b2 : Scolanderref07_Set) (b3_Default : Int) (b3_Closed : Int) (b3_Fuel : Int) (b3_Stack : Int) (b3_Rules : List Srule_Rule) (ob0_Rules : Own) (ob1_Put : Own) (ob1_Drop : Own) (ob2_Rules : Own) (ob3_Rules : Own) (hob2_Rules : okApp ob2_Rules = true) (hob3_Rules : okApp ob3_Rules = true) : Sim (Q17) (b17_r18 b0 b1 b3_Default b3_Closed b3_Fuel b3_Stack b3_Rules) (f17_r18 0 (.ptr 0 0) (.ptr 1 0) (.ptr 2 0) (.ptr 3 0) [(r_Scolanderref07_Set b0 ob0_Rules), (r_Scolanderref07_Delta b1 ob1_Put ob1_Drop), (r_Scolanderref07_Set b2 ob2_Rules), (r_Scolanderref07_Set (Scolanderref07_Set.mk b3_Default b3_Closed b3_Fuel b3_Stack b3_Rules) ob3_Rules)]) := by
  unfold b17_r18
  refine zf (f17_r18_eq ..) ?_
  refine ze ?_
  exact zk (g17_l19_to (0) (b0) (b1) (b2) (b3_Default) (b3_Closed) (b3_Fuel) (b3_Stack) (b3_Rules) ob0_Rules ob1_Put ob1_Drop ob2_Rules ob3_Rules hob2_Rules hob3_Rules)
noncomputable def b17_l14 (x8 : Int) (b0 : Scolanderref07_Set) (b1 : Scolanderref07_Delta) (b3_Default : Int) (b3_Closed : Int) (b3_Fuel : Int) (b3_Stack : Int) (b3_Rules : List Srule_Rule) : Option (Scolanderref07_Set × Int) :=
 if ((decide (x8 < (b1.Drop.length : Int)))) = true then
 (b17_r16 x8 b0 b1 b3_Default b3_Closed b3_Fuel b3_Stack b3_Rules)
 else
 (b17_r18 b0 b1 b3_Default b3_Closed b3_Fuel b3_Stack b3_Rules)
theorem g17_l14_sim (x8 : Int) (b0 : Scolanderref07_Set) (b1 : Scolanderref07_Delta) (b2 : Scolanderref07_Set) (b3_Default : Int) (b3_Closed : Int) (b3_Fuel : Int) (b3_Stack : Int) (b3_Rules : List Srule_Rule) (ob0_Rules : Own) (ob1_Put : Own) (ob1_Drop : Own) (ob2_Rules : Own) (ob3_Rules : Own) (hob2_Rules : okApp ob2_Rules = true) (hob3_Rules : okApp ob3_Rules = true) : Sim (Q17) (b17_l14 x8 b0 b1 b3_Default b3_Closed b3_Fuel b3_Stack b3_Rules) (f17_l14 0 (.ptr 0 0) (.ptr 1 0) (.ptr 2 0) (.ptr 3 0) (iv x8) [(r_Scolanderref07_Set b0 ob0_Rules), (r_Scolanderref07_Delta b1 ob1_Put ob1_Drop), (r_Scolanderref07_Set b2 ob2_Rules), (r_Scolanderref07_Set (Scolanderref07_Set.mk b3_Default b3_Closed b3_Fuel b3_Stack b3_Rules) ob3_Rules)]) := by
  unfold b17_l14
  refine zf (f17_l14_eq ..) ?_
  refine ze ?_
  refine zo (.ptr 1 5) ?_
  refine zo (.p (.lst (shrO ob1_Drop) (b1.Drop.map (eI .i64)))) ?_
  refine zo (iv (b1.Drop.length : Int)) ?_ (Eq.trans (by kernel_rfl) (xlen_of (P := PP) (t := 25) (d := 3) (by kernel_rfl) (eI .i64) (shrO ob1_Drop) b1.Drop))
  refine zo (bv (decide (x8 < (b1.Drop.length : Int)))) ?_
  refine za ((decide (x8 < (b1.Drop.length : Int)))) ?_ ?_
  · exact zk (g17_r16_sim (x8) (b0) (b1) (b2) (b3_Default) (b3_Closed) (b3_Fuel) (b3_Stack) (b3_Rules) ob0_Rules ob1_Put ob1_Drop ob2_Rules ob3_Rules hob2_Rules hob3_Rules)
  · exact zk (g17_r18_sim (b0) (b1) (b2) (b3_Default) (b3_Closed) (b3_Fuel) (b3_Stack) (b3_Rules) ob0_Rules ob1_Put ob1_Drop ob2_Rules ob3_Rules hob2_Rules hob3_Rules)
theorem g17_l14_of (x8 : Int) (b0 : Scolanderref07_Set) (b1 : Scolanderref07_Delta) (b3_Default : Int) (b3_Closed : Int) (b3_Fuel : Int) (b3_Stack : Int) (b3_Rules : List Srule_Rule) {r} (h : b17_l14 x8 b0 b1 b3_Default b3_Closed b3_Fuel b3_Stack b3_Rules = some r) : g17_l14 x8 b0 b1 b3_Default b3_Closed b3_Fuel b3_Stack b3_Rules = some r :=
  pick_of (fun _ _ ha hb => RRun.uniq (Q17_u) (ha default .ex .ex .ex .ex .ex rfl rfl) (hb default .ex .ex .ex .ex .ex rfl rfl)) (fun b2 ob0_Rules ob1_Put ob1_Drop ob2_Rules ob3_Rules hob2_Rules hob3_Rules => g17_l14_sim x8 b0 b1 b2 b3_Default b3_Closed b3_Fuel b3_Stack b3_Rules ob0_Rules ob1_Put ob1_Drop ob2_Rules ob3_Rules hob2_Rules hob3_Rules r h)
noncomputable def b17_r21 (x9 : Int) (b0 : Scolanderref07_Set) (b1 : Scolanderref07_Delta) (b3_Default : Int) (b3_Closed : Int) (b3_Fuel : Int) (b3_Stack : Int) (b3_Rules : List Srule_Rule) : Option (Scolanderref07_Set × Int) :=
 g17_l23 x9 false 0 b0 b1 b3_Default b3_Closed b3_Fuel b3_Stack b3_Rules
theorem g17_r21_sim (x9 : Int) (b0 : Scolanderref07_Set) (b1 : Scolanderref07_Delta) (b2 : Scolanderref07_Set) (b3_Default : Int) (b3_Closed : Int) (b3_Fuel : Int) (b3_Stack : Int) (b3_Rules : List Srule_Rule) (ob0_Rules : Own) (ob1_Put : Own) (ob1_Drop : Own) (ob2_Rules : Own) (ob3_Rules : Own) (hob2_Rules : okApp ob2_Rules = true) (hob3_Rules : okApp ob3_Rules = true) : Sim (Q17) (b17_r21 x9 b0 b1 b3_Default b3_Closed b3_Fuel b3_Stack b3_Rules) (f17_r21 0 (.ptr 0 0) (.ptr 1 0) (.ptr 2 0) (.ptr 3 0) (iv x9) [(r_Scolanderref07_Set b0 ob0_Rules), (r_Scolanderref07_Delta b1 ob1_Put ob1_Drop), (r_Scolanderref07_Set b2 ob2_Rules), (r_Scolanderref07_Set (Scolanderref07_Set.mk b3_Default b3_Closed b3_Fuel b3_Stack b3_Rules) ob3_Rules)]) := by
  unfold b17_r21
  refine zf (f17_r21_eq ..) ?_
  refine ze ?_
  refine ze ?_
  exact zk (g17_l23_to (x9) (false) (0) (b0) (b1) (b2) (b3_Default) (b3_Closed) (b3_Fuel) (b3_Stack) (b3_Rules) ob0_Rules ob1_Put ob1_Drop ob2_Rules ob3_Rules hob2_Rules hob3_Rules)
noncomputable def b17_r28 (b1 : Scolanderref07_Delta) (b3_Default : Int) (b3_Closed : Int) (b3_Fuel : Int) (b3_Stack : Int) (b3_Rules : List Srule_Rule) : Option (Scolanderref07_Set × Int) :=
 g17_l29 0 b1 b3_Default b3_Closed b3_Fuel b3_Stack b3_Rules
theorem g17_r28_sim (b0 : Scolanderref07_Set) (b1 : Scolanderref07_Delta) (b2 : Scolanderref07_Set) (b3_Default : Int) (b3_Closed : Int) (b3_Fuel : Int) (b3_Stack : Int) (b3_Rules : List Srule_Rule) (ob0_Rules : Own) (ob1_Put : Own) (ob1_Drop : Own) (ob2_Rules : Own) (ob3_Rules : Own) (hob2_Rules : okApp ob2_Rules = true) (hob3_Rules : okApp ob3_Rules = true) : Sim (Q17) (b17_r28 b1 b3_Default b3_Closed b3_Fuel b3_Stack b3_Rules) (f17_r28 0 (.ptr 1 0) (.ptr 2 0) (.ptr 3 0) [(r_Scolanderref07_Set b0 ob0_Rules), (r_Scolanderref07_Delta b1 ob1_Put ob1_Drop), (r_Scolanderref07_Set b2 ob2_Rules), (r_Scolanderref07_Set (Scolanderref07_Set.mk b3_Default b3_Closed b3_Fuel b3_Stack b3_Rules) ob3_Rules)]) := by
  unfold b17_r28
  refine zf (f17_r28_eq ..) ?_
  refine ze ?_
  exact zk (g17_l29_to (0) (b0) (b1) (b2) (b3_Default) (b3_Closed) (b3_Fuel) (b3_Stack) (b3_Rules) ob0_Rules ob1_Put ob1_Drop ob2_Rules ob3_Rules hob2_Rules hob3_Rules)
noncomputable def b17_l19 (x9 : Int) (b0 : Scolanderref07_Set) (b1 : Scolanderref07_Delta) (b3_Default : Int) (b3_Closed : Int) (b3_Fuel : Int) (b3_Stack : Int) (b3_Rules : List Srule_Rule) : Option (Scolanderref07_Set × Int) :=
 if ((decide (x9 < (b0.Rules.length : Int)))) = true then
 (b17_r21 x9 b0 b1 b3_Default b3_Closed b3_Fuel b3_Stack b3_Rules)
 else
 (b17_r28 b1 b3_Default b3_Closed b3_Fuel b3_Stack b3_Rules)
theorem g17_l19_sim (x9 : Int) (b0 : Scolanderref07_Set) (b1 : Scolanderref07_Delta) (b2 : Scolanderref07_Set) (b3_Default : Int) (b3_Closed : Int) (b3_Fuel : Int) (b3_Stack : Int) (b3_Rules : List Srule_Rule) (ob0_Rules : Own) (ob1_Put : Own) (ob1_Drop : Own) (ob2_Rules : Own) (ob3_Rules : Own) (hob2_Rules : okApp ob2_Rules = true) (hob3_Rules : okApp ob3_Rules = true) : Sim (Q17) (b17_l19 x9 b0 b1 b3_Default b3_Closed b3_Fuel b3_Stack b3_Rules) (f17_l19 0 (.ptr 0 0) (.ptr 1 0) (.ptr 2 0) (.ptr 3 0) (iv x9) [(r_Scolanderref07_Set b0 ob0_Rules), (r_Scolanderref07_Delta b1 ob1_Put ob1_Drop), (r_Scolanderref07_Set b2 ob2_Rules), (r_Scolanderref07_Set (Scolanderref07_Set.mk b3_Default b3_Closed b3_Fuel b3_Stack b3_Rules) ob3_Rules)]) := by
  unfold b17_l19
  refine zf (f17_l19_eq ..) ?_
  refine ze ?_
  refine zo (.ptr 0 4) ?_
  refine zo (.p (.lst (shrO ob0_Rules) (b0.Rules.map e_Srule_Rule))) ?_
  refine zo (iv (b0.Rules.length : Int)) ?_ (Eq.trans (by kernel_rfl) (xlen_of (P := PP) (t := 34) (d := 69) (by kernel_rfl) e_Srule_Rule (shrO ob0_Rules) b0.Rules))
  refine zo (bv (decide (x9 < (b0.Rules.length : Int)))) ?_
  refine za ((decide (x9 < (b0.Rules.length : Int)))) ?_ ?_
  · exact zk (g17_r21_sim (x9) (b0) (b1) (b2) (b3_Default) (b3_Closed) (b3_Fuel) (b3_Stack) (b3_Rules) ob0_Rules ob1_Put ob1_Drop ob2_Rules ob3_Rules hob2_Rules hob3_Rules)
  · exact zk (g17_r28_sim (b0) (b1) (b2) (b3_Default) (b3_Closed) (b3_Fuel) (b3_Stack) (b3_Rules) ob0_Rules ob1_Put ob1_Drop ob2_Rules ob3_Rules hob2_Rules hob3_Rules)
theorem g17_l19_of (x9 : Int) (b0 : Scolanderref07_Set) (b1 : Scolanderref07_Delta) (b3_Default : Int) (b3_Closed : Int) (b3_Fuel : Int) (b3_Stack : Int) (b3_Rules : List Srule_Rule) {r} (h : b17_l19 x9 b0 b1 b3_Default b3_Closed b3_Fuel b3_Stack b3_Rules = some r) : g17_l19 x9 b0 b1 b3_Default b3_Closed b3_Fuel b3_Stack b3_Rules = some r :=
  pick_of (fun _ _ ha hb => RRun.uniq (Q17_u) (ha default .ex .ex .ex .ex .ex rfl rfl) (hb default .ex .ex .ex .ex .ex rfl rfl)) (fun b2 ob0_Rules ob1_Put ob1_Drop ob2_Rules ob3_Rules hob2_Rules hob3_Rules => g17_l19_sim x9 b0 b1 b2 b3_Default b3_Closed b3_Fuel b3_Stack b3_Rules ob0_Rules ob1_Put ob1_Drop ob2_Rules ob3_Rules hob2_Rules hob3_Rules r h)
noncomputable def b17_r25 (x9 : Int) (x10 : Bool) (x11 : Int) (b0 : Scolanderref07_Set) (b1 : Scolanderref07_Delta) (b3_Default : Int) (b3_Closed : Int) (b3_Fuel : Int) (b3_Stack : Int) (b3_Rules : List Srule_Rule) : Option (Scolanderref07_Set × Int) :=
 if (x10) = true then
 (g17_l23 x9 true ((IntKind.i64.wrap (x11 + 1))) b0 b1 b3_Default b3_Closed b3_Fuel b3_Stack b3_Rules)
 else
 ((lget b1.Drop x11).bind fun a1 =>
 (lget b0.Rules x9).bind fun a2 =>
 g17_l23 x9 ((a1 == a2.ID)) ((IntKind.i64.wrap (x11 + 1))) b0 b1 b3_Default b3_Closed b3_Fuel b3_Stack b3_Rules)
theorem g17_r25_sim (x9 : Int) (x10 : Bool) (x11 : Int) (b0 : Scolanderref07_Set) (b1 : Scolanderref07_Delta) (b2 : Scolanderref07_Set) (b3_Default : Int) (b3_Closed : Int) (b3_Fuel : Int) (b3_Stack : Int) (b3_Rules : List Srule_Rule) (ob0_Rules : Own) (ob1_Put : Own) (ob1_Drop : Own) (ob2_Rules : Own) (ob3_Rules : Own) (hob2_Rules : okApp ob2_Rules = true) (hob3_Rules : okApp ob3_Rules = true) : Sim (Q17) (b17_r25 x9 x10 x11 b0 b1 b3_Default b3_Closed b3_Fuel b3_Stack b3_Rules) (f17_r25 0 (.ptr 0 0) (.ptr 1 0) (.ptr 2 0) (.ptr 3 0) (iv x9) (bv x10) (iv x11) [(r_Scolanderref07_Set b0 ob0_Rules), (r_Scolanderref07_Delta b1 ob1_Put ob1_Drop), (r_Scolanderref07_Set b2 ob2_Rules), (r_Scolanderref07_Set (Scolanderref07_Set.mk b3_Default b3_Closed b3_Fuel b3_Stack b3_Rules) ob3_Rules)]) := by
  unfold b17_r25
  refine zf (f17_r25_eq ..) ?_
  refine ze ?_
  refine za (x10) ?_ ?_
  · refine ze ?_
    refine zo (iv (IntKind.i64.wrap (x11 + 1))) ?_
    exact zk (g17_l23_to (x9) (true) ((IntKind.i64.wrap (x11 + 1))) (b0) (b1) (b2) (b3_Default) (b3_Closed) (b3_Fuel) (b3_Stack) (b3_Rules) ob0_Rules ob1_Put ob1_Drop ob2_Rules ob3_Rules hob2_Rules hob3_Rules)
  · refine zo (.ptr 1 5) ?_
    refine zo (.p (.lst (shrO ob1_Drop) (b1.Drop.map (eI .i64)))) ?_
    refine zi fun a1 ha1 => ?_
    refine zo (.cptr [(.v (.int .i64 a1))]) ?_ (Eq.trans (by kernel_rfl) (xidx_of (o := (shrO ob1_Drop)) (k := .i64) (n := 1) (e := (eI .i64)) (cs := (fun a => [(eI .i64) a])) (fun _ => rfl) (fun _ => rfl) (by decide) ha1))
    refine zo (iv a1) ?_
    refine zo (.ptr 0 4) ?_
    refine zo (.p (.lst (shrO ob0_Rules) (b0.Rules.map e_Srule_Rule))) ?_
    refine zi fun a2 ha2 => ?_
    refine zo (.cptr (k_Srule_Rule a2)) ?_ (Eq.trans (by kernel_rfl) (xidx_of (o := (shrO ob0_Rules)) (k := .i64) (n := 5) (e := e_Srule_Rule) (cs := c_Srule_Rule) (fun _ => rfl) (fun _ => rfl) (by decide) ha2))
    refine zo (.cptr [(.v (.int .i64 a2.ID)), (.v (.int .i64 a2.Priority)), (.v (.int .i64 a2.Action)), (.v (.int .i64 a2.Scope)), (.v (.string a2.Pattern))]) ?_
    refine zo (iv a2.ID) ?_
    refine zo (bv (a1 == a2.ID)) ?_
    refine ze ?_
    refine zo (iv (IntKind.i64.wrap (x11 + 1))) ?_
    exact zk (g17_l23_to (x9) ((a1 == a2.ID)) ((IntKind.i64.wrap (x11 + 1))) (b0) (b1) (b2) (b3_Default) (b3_Closed) (b3_Fuel) (b3_Stack) (b3_Rules) ob0_Rules ob1_Put ob1_Drop ob2_Rules ob3_Rules hob2_Rules hob3_Rules)
noncomputable def b17_r20 (x9 : Int) (b0 : Scolanderref07_Set) (b1 : Scolanderref07_Delta) (b3_Default : Int) (b3_Closed : Int) (b3_Fuel : Int) (b3_Stack : Int) (b3_Rules : List Srule_Rule) : Option (Scolanderref07_Set × Int) :=
 g17_l19 ((IntKind.i64.wrap (x9 + 1))) b0 b1 b3_Default b3_Closed b3_Fuel b3_Stack b3_Rules
theorem g17_r20_sim (x9 : Int) (b0 : Scolanderref07_Set) (b1 : Scolanderref07_Delta) (b2 : Scolanderref07_Set) (b3_Default : Int) (b3_Closed : Int) (b3_Fuel : Int) (b3_Stack : Int) (b3_Rules : List Srule_Rule) (ob0_Rules : Own) (ob1_Put : Own) (ob1_Drop : Own) (ob2_Rules : Own) (ob3_Rules : Own) (hob2_Rules : okApp ob2_Rules = true) (hob3_Rules : okApp ob3_Rules = true) : Sim (Q17) (b17_r20 x9 b0 b1 b3_Default b3_Closed b3_Fuel b3_Stack b3_Rules) (f17_r20 0 (.ptr 0 0) (.ptr 1 0) (.ptr 2 0) (.ptr 3 0) (iv x9) [(r_Scolanderref07_Set b0 ob0_Rules), (r_Scolanderref07_Delta b1 ob1_Put ob1_Drop), (r_Scolanderref07_Set b2 ob2_Rules), (r_Scolanderref07_Set (Scolanderref07_Set.mk b3_Default b3_Closed b3_Fuel b3_Stack b3_Rules) ob3_Rules)]) := by
  unfold b17_r20
  refine zf (f17_r20_eq ..) ?_
  refine ze ?_
  refine zo (iv (IntKind.i64.wrap (x9 + 1))) ?_
  exact zk (g17_l19_to ((IntKind.i64.wrap (x9 + 1))) (b0) (b1) (b2) (b3_Default) (b3_Closed) (b3_Fuel) (b3_Stack) (b3_Rules) ob0_Rules ob1_Put ob1_Drop ob2_Rules ob3_Rules hob2_Rules hob3_Rules)
noncomputable def b17_r26 (x9 : Int) (x10 : Bool) (b0 : Scolanderref07_Set) (b1 : Scolanderref07_Delta) (b3_Default : Int) (b3_Closed : Int) (b3_Fuel : Int) (b3_Stack : Int) (b3_Rules : List Srule_Rule) : Option (Scolanderref07_Set × Int) :=
 if ((!x10)) = true then
 ((lget b0.Rules x9).bind fun a1 =>
 (lapp b3_Rules ([a1] : List Srule_Rule)).bind fun a2 =>
 b17_r20 x9 b0 b1 b3_Default b3_Closed b3_Fuel b3_Stack a2)
 else
 (b17_r20 x9 b0 b1 b3_Default b3_Closed b3_Fuel b3_Stack b3_Rules)
theorem g17_r26_sim (x9 : Int) (x10 : Bool) (b0 : Scolanderref07_Set) (b1 : Scolanderref07_Delta) (b2 : Scolanderref07_Set) (b3_Default : Int) (b3_Closed : Int) (b3_Fuel : Int) (b3_Stack : Int) (b3_Rules : List Srule_Rule) (ob0_Rules : Own) (ob1_Put : Own) (ob1_Drop : Own) (ob2_Rules : Own) (ob3_Rules : Own) (hob2_Rules : okApp ob2_Rules = true) (hob3_Rules : okApp ob3_Rules = true) : Sim (Q17) (b17_r26 x9 x10 b0 b1 b3_Default b3_Closed b3_Fuel b3_Stack b3_Rules) (f17_r26 0 (.ptr 0 0) (.ptr 1 0) (.ptr 2 0) (.ptr 3 0) (iv x9) (bv x10) [(r_Scolanderref07_Set b0 ob0_Rules), (r_Scolanderref07_Delta b1 ob1_Put ob1_Drop), (r_Scolanderref07_Set b2 ob2_Rules), (r_Scolanderref07_Set (Scolanderref07_Set.mk b3_Default b3_Closed b3_Fuel b3_Stack b3_Rules) ob3_Rules)]) := by
  unfold b17_r26
  refine zf (f17_r26_eq ..) ?_
  refine ze ?_
  refine zo (bv (!x10)) ?_
  refine za ((!x10)) ?_ ?_
  · refine ze ?_
    refine zo (.ptr 3 4) ?_
    refine zw (.p (.lst ob3_Rules (b3_Rules.map e_Srule_Rule))) [(r_Scolanderref07_Set b0 ob0_Rules), (r_Scolanderref07_Delta b1 ob1_Put ob1_Drop), (r_Scolanderref07_Set b2 ob2_Rules), (r_Scolanderref07_Set (Scolanderref07_Set.mk b3_Default b3_Closed b3_Fuel b3_Stack b3_Rules) (shrO ob3_Rules))] ?_
    refine zo (.ptr 0 4) ?_
    refine zo (.p (.lst (shrO ob0_Rules) (b0.Rules.map e_Srule_Rule))) ?_
    refine zi fun a1 ha1 => ?_
    refine zo (.cptr (k_Srule_Rule a1)) ?_ (Eq.trans (by kernel_rfl) (xidx_of (o := (shrO ob0_Rules)) (k := .i64) (n := 5) (e := e_Srule_Rule) (cs := c_Srule_Rule) (fun _ => rfl) (fun _ => rfl) (by decide) ha1))
    refine zo (.p (.agg (k_Srule_Rule a1))) ?_
    refine zo (.p (.lst .ex (([a1] : List Srule_Rule).map e_Srule_Rule))) ?_
    refine zi fun a2 ha2 => ?_
    refine zo (.p (.lst .un (a2.map e_Srule_Rule))) ?_ (Eq.trans (by kernel_rfl) <| xapp_of (n := 5) (o := ob3_Rules) (o' := .ex) (e := e_Srule_Rule) (ys := ([a1] : List Srule_Rule)) (fun _ => rfl) (by decide) hob3_Rules ha2)
    refine zo (.ptr 3 4) ?_
    refine zt [(r_Scolanderref07_Set b0 ob0_Rules), (r_Scolanderref07_Delta b1 ob1_Put ob1_Drop), (r_Scolanderref07_Set b2 ob2_Rules), (r_Scolanderref07_Set (Scolanderref07_Set.mk b3_Default b3_Closed b3_Fuel b3_Stack a2) .un)] ?_
    refine zg ?_
    refine zg ?_
    exact zk (g17_r20_sim (x9) (b0) (b1) (b2) (b3_Default) (b3_Closed) (b3_Fuel) (b3_Stack) (a2) ob0_Rules ob1_Put ob1_Drop ob2_Rules .un hob2_Rules rfl)
  · exact zk (g17_r20_sim (x9) (b0) (b1) (b2) (b3_Default) (b3_Closed) (b3_Fuel) (b3_Stack) (b3_Rules) ob0_Rules ob1_Put ob1_Drop ob2_Rules ob3_Rules hob2_Rules hob3_Rules)
noncomputable def b17_l23 (x9 : Int) (x10 : Bool) (x11 : Int) (b0 : Scolanderref07_Set) (b1 : Scolanderref07_Delta) (b3_Default : Int) (b3_Closed : Int) (b3_Fuel : Int) (b3_Stack : Int) (b3_Rules : List Srule_Rule) : Option (Scolanderref07_Set × Int) :=
 if ((decide (x11 < (b1.Drop.length : Int)))) = true then
 (b17_r25 x9 x10 x11 b0 b1 b3_Default b3_Closed b3_Fuel b3_Stack b3_Rules)
 else
 (b17_r26 x9 x10 b0 b1 b3_Default b3_Closed b3_Fuel b3_Stack b3_Rules)
theorem g17_l23_sim (x9 : Int) (x10 : Bool) (x11 : Int) (b0 : Scolanderref07_Set) (b1 : Scolanderref07_Delta) (b2 : Scolanderref07_Set) (b3_Default : Int) (b3_Closed : Int) (b3_Fuel : Int) (b3_Stack : Int) (b3_Rules : List Srule_Rule) (ob0_Rules : Own) (ob1_Put : Own) (ob1_Drop : Own) (ob2_Rules : Own) (ob3_Rules : Own) (hob2_Rules : okApp ob2_Rules = true) (hob3_Rules : okApp ob3_Rules = true) : Sim (Q17) (b17_l23 x9 x10 x11 b0 b1 b3_Default b3_Closed b3_Fuel b3_Stack b3_Rules) (f17_l23 0 (.ptr 0 0) (.ptr 1 0) (.ptr 2 0) (.ptr 3 0) (iv x9) (bv x10) (iv x11) [(r_Scolanderref07_Set b0 ob0_Rules), (r_Scolanderref07_Delta b1 ob1_Put ob1_Drop), (r_Scolanderref07_Set b2 ob2_Rules), (r_Scolanderref07_Set (Scolanderref07_Set.mk b3_Default b3_Closed b3_Fuel b3_Stack b3_Rules) ob3_Rules)]) := by
  unfold b17_l23
  refine zf (f17_l23_eq ..) ?_
  refine ze ?_
  refine zo (.ptr 1 5) ?_
  refine zo (.p (.lst (shrO ob1_Drop) (b1.Drop.map (eI .i64)))) ?_
  refine zo (iv (b1.Drop.length : Int)) ?_ (Eq.trans (by kernel_rfl) (xlen_of (P := PP) (t := 25) (d := 3) (by kernel_rfl) (eI .i64) (shrO ob1_Drop) b1.Drop))
  refine zo (bv (decide (x11 < (b1.Drop.length : Int)))) ?_
  refine za ((decide (x11 < (b1.Drop.length : Int)))) ?_ ?_
  · exact zk (g17_r25_sim (x9) (x10) (x11) (b0) (b1) (b2) (b3_Default) (b3_Closed) (b3_Fuel) (b3_Stack) (b3_Rules) ob0_Rules ob1_Put ob1_Drop ob2_Rules ob3_Rules hob2_Rules hob3_Rules)
  · exact zk (g17_r26_sim (x9) (x10) (b0) (b1) (b2) (b3_Default) (b3_Closed) (b3_Fuel) (b3_Stack) (b3_Rules) ob0_Rules ob1_Put ob1_Drop ob2_Rules ob3_Rules hob2_Rules hob3_Rules)
theorem g17_l23_of (x9 : Int) (x10 : Bool) (x11 : Int) (b0 : Scolanderref07_Set) (b1 : Scolanderref07_Delta) (b3_Default : Int) (b3_Closed : Int) (b3_Fuel : Int) (b3_Stack : Int) (b3_Rules : List Srule_Rule) {r} (h : b17_l23 x9 x10 x11 b0 b1 b3_Default b3_Closed b3_Fuel b3_Stack b3_Rules = some r) : g17_l23 x9 x10 x11 b0 b1 b3_Default b3_Closed b3_Fuel b3_Stack b3_Rules = some r :=
  pick_of (fun _ _ ha hb => RRun.uniq (Q17_u) (ha default .ex .ex .ex .ex .ex rfl rfl) (hb default .ex .ex .ex .ex .ex rfl rfl)) (fun b2 ob0_Rules ob1_Put ob1_Drop ob2_Rules ob3_Rules hob2_Rules hob3_Rules => g17_l23_sim x9 x10 x11 b0 b1 b2 b3_Default b3_Closed b3_Fuel b3_Stack b3_Rules ob0_Rules ob1_Put ob1_Drop ob2_Rules ob3_Rules hob2_Rules hob3_Rules r h)
noncomputable def b17_r31 (x12 : Int) (b1 : Scolanderref07_Delta) (b3_Default : Int) (b3_Closed : Int) (b3_Fuel : Int) (b3_Stack : Int) (b3_Rules : List Srule_Rule) : Option (Scolanderref07_Set × Int) :=
 (lget b1.Put x12).bind fun a1 =>
 (g37 b3_Rules a1).bind fun r2 =>
 g17_l29v1 ((IntKind.i64.wrap (x12 + 1))) b1 b3_Default b3_Closed b3_Fuel b3_Stack r2
theorem g17_r31_sim (x12 : Int) (b0 : Scolanderref07_Set) (b1 : Scolanderref07_Delta) (b2 : Scolanderref07_Set) (b3_Default : Int) (b3_Closed : Int) (b3_Fuel : Int) (b3_Stack : Int) (b3_Rules : List Srule_Rule) (ob0_Rules : Own) (ob1_Put : Own) (ob1_Drop : Own) (ob2_Rules : Own) (ob3_Rules : Own) (hob2_Rules : okApp ob2_Rules = true) (hob3_Rules : okApp ob3_Rules = true) : Sim (Q17) (b17_r31 x12 b1 b3_Default b3_Closed b3_Fuel b3_Stack b3_Rules) (f17_r31 0 (.ptr 1 0) (.ptr 2 0) (.ptr 3 0) (iv x12) [(r_Scolanderref07_Set b0 ob0_Rules), (r_Scolanderref07_Delta b1 ob1_Put ob1_Drop), (r_Scolanderref07_Set b2 ob2_Rules), (r_Scolanderref07_Set (Scolanderref07_Set.mk b3_Default b3_Closed b3_Fuel b3_Stack b3_Rules) ob3_Rules)]) := by
  unfold b17_r31
  refine zf (f17_r31_eq ..) ?_
  refine ze ?_
  refine zo (.ptr 3 4) ?_
  refine zo (.p (.lst (shrO ob3_Rules) (b3_Rules.map e_Srule_Rule))) ?_
  refine zo (.ptr 1 4) ?_
  refine zo (.p (.lst (shrO ob1_Put) (b1.Put.map e_Srule_Rule))) ?_
  refine zi fun a1 ha1 => ?_
  refine zo (.cptr (k_Srule_Rule a1)) ?_ (Eq.trans (by kernel_rfl) (xidx_of (o := (shrO ob1_Put)) (k := .i64) (n := 5) (e := e_Srule_Rule) (cs := c_Srule_Rule) (fun _ => rfl) (fun _ => rfl) (by decide) ha1))
  refine zo (.p (.agg (k_Srule_Rule a1))) ?_
  refine zi fun r2 hr2 => ?_
  obtain ⟨qr2, er2, exr2, rfl⟩ := g37_to (b3_Rules) (a1) .sh r2 hr2
  refine zc [] (.p (.lst .sh (r2.map e_Srule_Rule))) [(r_Scolanderref07_Set b0 ob0_Rules), (r_Scolanderref07_Delta b1 ob1_Put ob1_Drop), (r_Scolanderref07_Set b2 ob2_Rules), (r_Scolanderref07_Set (Scolanderref07_Set.mk b3_Default b3_Closed b3_Fuel b3_Stack b3_Rules) ob3_Rules)] er2 ?_
  refine zo (.ptr 3 4) ?_
  refine zt [(r_Scolanderref07_Set b0 ob0_Rules), (r_Scolanderref07_Delta b1 ob1_Put ob1_Drop), (r_Scolanderref07_Set b2 ob2_Rules), (r_Scolanderref07_Set (Scolanderref07_Set.mk b3_Default b3_Closed b3_Fuel b3_Stack r2) .sh)] ?_
  refine ze ?_
  refine zo (iv (IntKind.i64.wrap (x12 + 1))) ?_
  exact zk (g17_l29v1_to ((IntKind.i64.wrap (x12 + 1))) (b0) (b1) (b2) (b3_Default) (b3_Closed) (b3_Fuel) (b3_Stack) (r2) ob0_Rules ob1_Put ob1_Drop ob2_Rules .sh hob2_Rules)
noncomputable def b17_r34 (b3_Default : Int) (b3_Closed : Int) (b3_Fuel : Int) (b3_Stack : Int) (b3_Rules : List Srule_Rule) : Option (Scolanderref07_Set × Int) :=
 some ((Scolanderref07_Set.mk b3_Default b3_Closed b3_Fuel b3_Stack b3_Rules), 0)
theorem g17_r34_sim (b0 : Scolanderref07_Set) (b1 : Scolanderref07_Delta) (b2 : Scolanderref07_Set) (b3_Default : Int) (b3_Closed : Int) (b3_Fuel : Int) (b3_Stack : Int) (b3_Rules : List Srule_Rule) (ob0_Rules : Own) (ob1_Put : Own) (ob1_Drop : Own) (ob2_Rules : Own) (ob3_Rules : Own) (hob2_Rules : okApp ob2_Rules = true) (hob3_Rules : okApp ob3_Rules = true) : Sim (Q17) (b17_r34 b3_Default b3_Closed b3_Fuel b3_Stack b3_Rules) (f17_r34 0 (.ptr 2 0) (.ptr 3 0) [(r_Scolanderref07_Set b0 ob0_Rules), (r_Scolanderref07_Delta b1 ob1_Put ob1_Drop), (r_Scolanderref07_Set b2 ob2_Rules), (r_Scolanderref07_Set (Scolanderref07_Set.mk b3_Default b3_Closed b3_Fuel b3_Stack b3_Rules) ob3_Rules)]) := by
  unfold b17_r34
  refine zf (f17_r34_eq ..) ?_
  refine ze ?_
  refine zo (.p (.agg (k_Scolanderref07_Set (Scolanderref07_Set.mk b3_Default b3_Closed b3_Fuel b3_Stack b3_Rules) (shrO ob3_Rules)))) ?_
  refine zt [(r_Scolanderref07_Set b0 ob0_Rules), (r_Scolanderref07_Delta b1 ob1_Put ob1_Drop), (r_Scolanderref07_Set (Scolanderref07_Set.mk b3_Default b3_Closed b3_Fuel b3_Stack b3_Rules) (shrO ob3_Rules)), (r_Scolanderref07_Set (Scolanderref07_Set.mk b3_Default b3_Closed b3_Fuel b3_Stack b3_Rules) ob3_Rules)] ?_
  exact zr ((.p (.tup [(.agg (k_Scolanderref07_Set (Scolanderref07_Set.mk b3_Default b3_Closed b3_Fuel b3_Stack b3_Rules) .sh)), (.v (.int .i64 0))])), [(r_Scolanderref07_Set b0 ob0_Rules), (r_Scolanderref07_Delta b1 ob1_Put ob1_Drop), (r_Scolanderref07_Set (Scolanderref07_Set.mk b3_Default b3_Closed b3_Fuel b3_Stack b3_Rules) (shrO ob3_Rules)), (r_Scolanderref07_Set (Scolanderref07_Set.mk b3_Default b3_Closed b3_Fuel b3_Stack b3_Rules) ob3_Rules)]) ⟨_, rfl⟩
noncomputable def b17_r32 (b3_Default : Int) (b3_Closed : Int) (b3_Fuel : Int) (b3_Stack : Int) (b3_Rules : List Srule_Rule) : Option (Scolanderref07_Set × Int) :=
 if ((decide (16 < (b3_Rules.length : Int)))) = true then
 (some ((Scolanderref07_Set.mk 0 0 0 0 ([] : List Srule_Rule)), 33))
 else
 (b17_r34 b3_Default b3_Closed b3_Fuel b3_Stack b3_Rules)
theorem g17_r32_sim (b0 : Scolanderref07_Set) (b1 : Scolanderref07_Delta) (b2 : Scolanderref07_Set) (b3_Default : Int) (b3_Closed : Int) (b3_Fuel : Int) (b3_Stack : Int) (b3_Rules : List Srule_Rule) (ob0_Rules : Own) (ob1_Put : Own) (ob1_Drop : Own) (ob2_Rules : Own) (ob3_Rules : Own) (hob2_Rules : okApp ob2_Rules = true) (hob3_Rules : okApp ob3_Rules = true) : Sim (Q17) (b17_r32 b3_Default b3_Closed b3_Fuel b3_Stack b3_Rules) (f17_r32 0 (.ptr 2 0) (.ptr 3 0) [(r_Scolanderref07_Set b0 ob0_Rules), (r_Scolanderref07_Delta b1 ob1_Put ob1_Drop), (r_Scolanderref07_Set b2 ob2_Rules), (r_Scolanderref07_Set (Scolanderref07_Set.mk b3_Default b3_Closed b3_Fuel b3_Stack b3_Rules) ob3_Rules)]) := by
  unfold b17_r32
  refine zf (f17_r32_eq ..) ?_
  refine ze ?_
  refine zo (.ptr 3 4) ?_
  refine zo (.p (.lst (shrO ob3_Rules) (b3_Rules.map e_Srule_Rule))) ?_
  refine zo (iv (b3_Rules.length : Int)) ?_ (Eq.trans (by kernel_rfl) (xlen_of (P := PP) (t := 34) (d := 69) (by kernel_rfl) e_Srule_Rule (shrO ob3_Rules) b3_Rules))
  refine zo (bv (decide (16 < (b3_Rules.length : Int)))) ?_
  refine za ((decide (16 < (b3_Rules.length : Int)))) ?_ ?_
  · refine ze ?_
    refine zo (.p (.agg (k_Scolanderref07_Set (Scolanderref07_Set.mk 0 0 0 0 ([] : List Srule_Rule)) .nl))) ?_
    refine zt [(r_Scolanderref07_Set b0 ob0_Rules), (r_Scolanderref07_Delta b1 ob1_Put ob1_Drop), (r_Scolanderref07_Set (Scolanderref07_Set.mk 0 0 0 0 ([] : List Srule_Rule)) .nl), (r_Scolanderref07_Set (Scolanderref07_Set.mk b3_Default b3_Closed b3_Fuel b3_Stack b3_Rules) ob3_Rules)] ?_
    exact zr ((.p (.tup [(.agg (k_Scolanderref07_Set (Scolanderref07_Set.mk 0 0 0 0 ([] : List Srule_Rule)) .sh)), (.v (.int .i64 33))])), [(r_Scolanderref07_Set b0 ob0_Rules), (r_Scolanderref07_Delta b1 ob1_Put ob1_Drop), (r_Scolanderref07_Set (Scolanderref07_Set.mk 0 0 0 0 ([] : List Srule_Rule)) .nl), (r_Scolanderref07_Set (Scolanderref07_Set.mk b3_Default b3_Closed b3_Fuel b3_Stack b3_Rules) ob3_Rules)]) ⟨_, rfl⟩
  · exact zk (g17_r34_sim (b0) (b1) (b2) (b3_Default) (b3_Closed) (b3_Fuel) (b3_Stack) (b3_Rules) ob0_Rules ob1_Put ob1_Drop ob2_Rules ob3_Rules hob2_Rules hob3_Rules)
noncomputable def b17_l29 (x12 : Int) (b1 : Scolanderref07_Delta) (b3_Default : Int) (b3_Closed : Int) (b3_Fuel : Int) (b3_Stack : Int) (b3_Rules : List Srule_Rule) : Option (Scolanderref07_Set × Int) :=
 if ((decide (x12 < (b1.Put.length : Int)))) = true then
 (b17_r31 x12 b1 b3_Default b3_Closed b3_Fuel b3_Stack b3_Rules)
 else
 (b17_r32 b3_Default b3_Closed b3_Fuel b3_Stack b3_Rules)
theorem g17_l29_sim (x12 : Int) (b0 : Scolanderref07_Set) (b1 : Scolanderref07_Delta) (b2 : Scolanderref07_Set) (b3_Default : Int) (b3_Closed : Int) (b3_Fuel : Int) (b3_Stack : Int) (b3_Rules : List Srule_Rule) (ob0_Rules : Own) (ob1_Put : Own) (ob1_Drop : Own) (ob2_Rules : Own) (ob3_Rules : Own) (hob2_Rules : okApp ob2_Rules = true) (hob3_Rules : okApp ob3_Rules = true) : Sim (Q17) (b17_l29 x12 b1 b3_Default b3_Closed b3_Fuel b3_Stack b3_Rules) (f17_l29 0 (.ptr 1 0) (.ptr 2 0) (.ptr 3 0) (iv x12) [(r_Scolanderref07_Set b0 ob0_Rules), (r_Scolanderref07_Delta b1 ob1_Put ob1_Drop), (r_Scolanderref07_Set b2 ob2_Rules), (r_Scolanderref07_Set (Scolanderref07_Set.mk b3_Default b3_Closed b3_Fuel b3_Stack b3_Rules) ob3_Rules)]) := by
  unfold b17_l29
  refine zf (f17_l29_eq ..) ?_
  refine ze ?_
  refine zo (.ptr 1 4) ?_
  refine zo (.p (.lst (shrO ob1_Put) (b1.Put.map e_Srule_Rule))) ?_
  refine zo (iv (b1.Put.length : Int)) ?_ (Eq.trans (by kernel_rfl) (xlen_of (P := PP) (t := 34) (d := 69) (by kernel_rfl) e_Srule_Rule (shrO ob1_Put) b1.Put))
  refine zo (bv (decide (x12 < (b1.Put.length : Int)))) ?_
  refine za ((decide (x12 < (b1.Put.length : Int)))) ?_ ?_
  · exact zk (g17_r31_sim (x12) (b0) (b1) (b2) (b3_Default) (b3_Closed) (b3_Fuel) (b3_Stack) (b3_Rules) ob0_Rules ob1_Put ob1_Drop ob2_Rules ob3_Rules hob2_Rules hob3_Rules)
  · exact zk (g17_r32_sim (b0) (b1) (b2) (b3_Default) (b3_Closed) (b3_Fuel) (b3_Stack) (b3_Rules) ob0_Rules ob1_Put ob1_Drop ob2_Rules ob3_Rules hob2_Rules hob3_Rules)
theorem g17_l29_of (x12 : Int) (b1 : Scolanderref07_Delta) (b3_Default : Int) (b3_Closed : Int) (b3_Fuel : Int) (b3_Stack : Int) (b3_Rules : List Srule_Rule) {r} (h : b17_l29 x12 b1 b3_Default b3_Closed b3_Fuel b3_Stack b3_Rules = some r) : g17_l29 x12 b1 b3_Default b3_Closed b3_Fuel b3_Stack b3_Rules = some r :=
  pick_of (fun _ _ ha hb => RRun.uniq (Q17_u) (ha default default .ex .ex .ex .ex .ex rfl rfl) (hb default default .ex .ex .ex .ex .ex rfl rfl)) (fun b0 b2 ob0_Rules ob1_Put ob1_Drop ob2_Rules ob3_Rules hob2_Rules hob3_Rules => g17_l29_sim x12 b0 b1 b2 b3_Default b3_Closed b3_Fuel b3_Stack b3_Rules ob0_Rules ob1_Put ob1_Drop ob2_Rules ob3_Rules hob2_Rules hob3_Rules r h)
noncomputable def b17_r31v1 (x12 : Int) (b1 : Scolanderref07_Delta) (b3_Default : Int) (b3_Closed : Int) (b3_Fuel : Int) (b3_Stack : Int) (b3_Rules : List Srule_Rule) : Option (Scolanderref07_Set × Int) :=
 (lget b1.Put x12).bind fun a1 =>
 (g37 b3_Rules a1).bind fun r2 =>
 g17_l29v1 ((IntKind.i64.wrap (x12 + 1))) b1 b3_Default b3_Closed b3_Fuel b3_Stack r2
theorem g17_r31v1_sim (x12 : Int) (b0 : Scolanderref07_Set) (b1 : Scolanderref07_Delta) (b2 : Scolanderref07_Set) (b3_Default : Int) (b3_Closed : Int) (b3_Fuel : Int) (b3_Stack : Int) (b3_Rules : List Srule_Rule) (ob0_Rules : Own) (ob1_Put : Own) (ob1_Drop : Own) (ob2_Rules : Own) (ob3_Rules : Own) (hob2_Rules : okApp ob2_Rules = true) : Sim (Q17) (b17_r31v1 x12 b1 b3_Default b3_Closed b3_Fuel b3_Stack b3_Rules) (f17_r31 0 (.ptr 1 0) (.ptr 2 0) (.ptr 3 0) (iv x12) [(r_Scolanderref07_Set b0 ob0_Rules), (r_Scolanderref07_Delta b1 ob1_Put ob1_Drop), (r_Scolanderref07_Set b2 ob2_Rules), (r_Scolanderref07_Set (Scolanderref07_Set.mk b3_Default b3_Closed b3_Fuel b3_Stack b3_Rules) ob3_Rules)]) := by
  unfold b17_r31v1
  refine zf (f17_r31_eq ..) ?_
  refine ze ?_
  refine zo (.ptr 3 4) ?_
  refine zo (.p (.lst (shrO ob3_Rules) (b3_Rules.map e_Srule_Rule))) ?_
  refine zo (.ptr 1 4) ?_
  refine zo (.p (.lst (shrO ob1_Put) (b1.Put.map e_Srule_Rule))) ?_
  refine zi fun a1 ha1 => ?_
  refine zo (.cptr (k_Srule_Rule a1)) ?_ (Eq.trans (by kernel_rfl) (xidx_of (o := (shrO ob1_Put)) (k := .i64) (n := 5) (e := e_Srule_Rule) (cs := c_Srule_Rule) (fun _ => rfl) (fun _ => rfl) (by decide) ha1))
  refine zo (.p (.agg (k_Srule_Rule a1))) ?_
  refine zi fun r2 hr2 => ?_
  obtain ⟨qr2, er2, exr2, rfl⟩ := g37_to (b3_Rules) (a1) .sh r2 hr2
  refine zc [] (.p (.lst .sh (r2.map e_Srule_Rule))) [(r_Scolanderref07_Set b0 ob0_Rules), (r_Scolanderref07_Delta b1 ob1_Put ob1_Drop), (r_Scolanderref07_Set b2 ob2_Rules), (r_Scolanderref07_Set (Scolanderref07_Set.mk b3_Default b3_Closed b3_Fuel b3_Stack b3_Rules) ob3_Rules)] er2 ?_
  refine zo (.ptr 3 4) ?_
  refine zt [(r_Scolanderref07_Set b0 ob0_Rules), (r_Scolanderref07_Delta b1 ob1_Put ob1_Drop), (r_Scolanderref07_Set b2 ob2_Rules), (r_Scolanderref07_Set (Scolanderref07_Set.mk b3_Default b3_Closed b3_Fuel b3_Stack r2) .sh)] ?_
  refine ze ?_
  refine zo (iv (IntKind.i64.wrap (x12 + 1))) ?_
  exact zk (g17_l29v1_to ((IntKind.i64.wrap (x12 + 1))) (b0) (b1) (b2) (b3_Default) (b3_Closed) (b3_Fuel) (b3_Stack) (r2) ob0_Rules ob1_Put ob1_Drop ob2_Rules .sh hob2_Rules)
noncomputable def b17_r34v1 (b3_Default : Int) (b3_Closed : Int) (b3_Fuel : Int) (b3_Stack : Int) (b3_Rules : List Srule_Rule) : Option (Scolanderref07_Set × Int) :=
 some ((Scolanderref07_Set.mk b3_Default b3_Closed b3_Fuel b3_Stack b3_Rules), 0)
theorem g17_r34v1_sim (b0 : Scolanderref07_Set) (b1 : Scolanderref07_Delta) (b2 : Scolanderref07_Set) (b3_Default : Int) (b3_Closed : Int) (b3_Fuel : Int) (b3_Stack : Int) (b3_Rules : List Srule_Rule) (ob0_Rules : Own) (ob1_Put : Own) (ob1_Drop : Own) (ob2_Rules : Own) (ob3_Rules : Own) (hob2_Rules : okApp ob2_Rules = true) : Sim (Q17) (b17_r34v1 b3_Default b3_Closed b3_Fuel b3_Stack b3_Rules) (f17_r34 0 (.ptr 2 0) (.ptr 3 0) [(r_Scolanderref07_Set b0 ob0_Rules), (r_Scolanderref07_Delta b1 ob1_Put ob1_Drop), (r_Scolanderref07_Set b2 ob2_Rules), (r_Scolanderref07_Set (Scolanderref07_Set.mk b3_Default b3_Closed b3_Fuel b3_Stack b3_Rules) ob3_Rules)]) := by
  unfold b17_r34v1
  refine zf (f17_r34_eq ..) ?_
  refine ze ?_
  refine zo (.p (.agg (k_Scolanderref07_Set (Scolanderref07_Set.mk b3_Default b3_Closed b3_Fuel b3_Stack b3_Rules) (shrO ob3_Rules)))) ?_
  refine zt [(r_Scolanderref07_Set b0 ob0_Rules), (r_Scolanderref07_Delta b1 ob1_Put ob1_Drop), (r_Scolanderref07_Set (Scolanderref07_Set.mk b3_Default b3_Closed b3_Fuel b3_Stack b3_Rules) (shrO ob3_Rules)), (r_Scolanderref07_Set (Scolanderref07_Set.mk b3_Default b3_Closed b3_Fuel b3_Stack b3_Rules) ob3_Rules)] ?_
  exact zr ((.p (.tup [(.agg (k_Scolanderref07_Set (Scolanderref07_Set.mk b3_Default b3_Closed b3_Fuel b3_Stack b3_Rules) .sh)), (.v (.int .i64 0))])), [(r_Scolanderref07_Set b0 ob0_Rules), (r_Scolanderref07_Delta b1 ob1_Put ob1_Drop), (r_Scolanderref07_Set (Scolanderref07_Set.mk b3_Default b3_Closed b3_Fuel b3_Stack b3_Rules) (shrO ob3_Rules)), (r_Scolanderref07_Set (Scolanderref07_Set.mk b3_Default b3_Closed b3_Fuel b3_Stack b3_Rules) ob3_Rules)]) ⟨_, rfl⟩
noncomputable def b17_r32v1 (b3_Default : Int) (b3_Closed : Int) (b3_Fuel : Int) (b3_Stack : Int) (b3_Rules : List Srule_Rule) : Option (Scolanderref07_Set × Int) :=
 if ((decide (16 < (b3_Rules.length : Int)))) = true then
 (some ((Scolanderref07_Set.mk 0 0 0 0 ([] : List Srule_Rule)), 33))
 else
 (b17_r34v1 b3_Default b3_Closed b3_Fuel b3_Stack b3_Rules)
theorem g17_r32v1_sim (b0 : Scolanderref07_Set) (b1 : Scolanderref07_Delta) (b2 : Scolanderref07_Set) (b3_Default : Int) (b3_Closed : Int) (b3_Fuel : Int) (b3_Stack : Int) (b3_Rules : List Srule_Rule) (ob0_Rules : Own) (ob1_Put : Own) (ob1_Drop : Own) (ob2_Rules : Own) (ob3_Rules : Own) (hob2_Rules : okApp ob2_Rules = true) : Sim (Q17) (b17_r32v1 b3_Default b3_Closed b3_Fuel b3_Stack b3_Rules) (f17_r32 0 (.ptr 2 0) (.ptr 3 0) [(r_Scolanderref07_Set b0 ob0_Rules), (r_Scolanderref07_Delta b1 ob1_Put ob1_Drop), (r_Scolanderref07_Set b2 ob2_Rules), (r_Scolanderref07_Set (Scolanderref07_Set.mk b3_Default b3_Closed b3_Fuel b3_Stack b3_Rules) ob3_Rules)]) := by
  unfold b17_r32v1
  refine zf (f17_r32_eq ..) ?_
  refine ze ?_
  refine zo (.ptr 3 4) ?_
  refine zo (.p (.lst (shrO ob3_Rules) (b3_Rules.map e_Srule_Rule))) ?_
  refine zo (iv (b3_Rules.length : Int)) ?_ (Eq.trans (by kernel_rfl) (xlen_of (P := PP) (t := 34) (d := 69) (by kernel_rfl) e_Srule_Rule (shrO ob3_Rules) b3_Rules))
  refine zo (bv (decide (16 < (b3_Rules.length : Int)))) ?_
  refine za ((decide (16 < (b3_Rules.length : Int)))) ?_ ?_
  · refine ze ?_
    refine zo (.p (.agg (k_Scolanderref07_Set (Scolanderref07_Set.mk 0 0 0 0 ([] : List Srule_Rule)) .nl))) ?_
    refine zt [(r_Scolanderref07_Set b0 ob0_Rules), (r_Scolanderref07_Delta b1 ob1_Put ob1_Drop), (r_Scolanderref07_Set (Scolanderref07_Set.mk 0 0 0 0 ([] : List Srule_Rule)) .nl), (r_Scolanderref07_Set (Scolanderref07_Set.mk b3_Default b3_Closed b3_Fuel b3_Stack b3_Rules) ob3_Rules)] ?_
    exact zr ((.p (.tup [(.agg (k_Scolanderref07_Set (Scolanderref07_Set.mk 0 0 0 0 ([] : List Srule_Rule)) .sh)), (.v (.int .i64 33))])), [(r_Scolanderref07_Set b0 ob0_Rules), (r_Scolanderref07_Delta b1 ob1_Put ob1_Drop), (r_Scolanderref07_Set (Scolanderref07_Set.mk 0 0 0 0 ([] : List Srule_Rule)) .nl), (r_Scolanderref07_Set (Scolanderref07_Set.mk b3_Default b3_Closed b3_Fuel b3_Stack b3_Rules) ob3_Rules)]) ⟨_, rfl⟩
  · exact zk (g17_r34v1_sim (b0) (b1) (b2) (b3_Default) (b3_Closed) (b3_Fuel) (b3_Stack) (b3_Rules) ob0_Rules ob1_Put ob1_Drop ob2_Rules ob3_Rules hob2_Rules)
noncomputable def b17_l29v1 (x12 : Int) (b1 : Scolanderref07_Delta) (b3_Default : Int) (b3_Closed : Int) (b3_Fuel : Int) (b3_Stack : Int) (b3_Rules : List Srule_Rule) : Option (Scolanderref07_Set × Int) :=
 if ((decide (x12 < (b1.Put.length : Int)))) = true then
 (b17_r31v1 x12 b1 b3_Default b3_Closed b3_Fuel b3_Stack b3_Rules)
 else
 (b17_r32v1 b3_Default b3_Closed b3_Fuel b3_Stack b3_Rules)
theorem g17_l29v1_sim (x12 : Int) (b0 : Scolanderref07_Set) (b1 : Scolanderref07_Delta) (b2 : Scolanderref07_Set) (b3_Default : Int) (b3_Closed : Int) (b3_Fuel : Int) (b3_Stack : Int) (b3_Rules : List Srule_Rule) (ob0_Rules : Own) (ob1_Put : Own) (ob1_Drop : Own) (ob2_Rules : Own) (ob3_Rules : Own) (hob2_Rules : okApp ob2_Rules = true) : Sim (Q17) (b17_l29v1 x12 b1 b3_Default b3_Closed b3_Fuel b3_Stack b3_Rules) (f17_l29 0 (.ptr 1 0) (.ptr 2 0) (.ptr 3 0) (iv x12) [(r_Scolanderref07_Set b0 ob0_Rules), (r_Scolanderref07_Delta b1 ob1_Put ob1_Drop), (r_Scolanderref07_Set b2 ob2_Rules), (r_Scolanderref07_Set (Scolanderref07_Set.mk b3_Default b3_Closed b3_Fuel b3_Stack b3_Rules) ob3_Rules)]) := by
  unfold b17_l29v1
  refine zf (f17_l29_eq ..) ?_
  refine ze ?_
  refine zo (.ptr 1 4) ?_
  refine zo (.p (.lst (shrO ob1_Put) (b1.Put.map e_Srule_Rule))) ?_
  refine zo (iv (b1.Put.length : Int)) ?_ (Eq.trans (by kernel_rfl) (xlen_of (P := PP) (t := 34) (d := 69) (by kernel_rfl) e_Srule_Rule (shrO ob1_Put) b1.Put))
  refine zo (bv (decide (x12 < (b1.Put.length : Int)))) ?_
  refine za ((decide (x12 < (b1.Put.length : Int)))) ?_ ?_
  · exact zk (g17_r31v1_sim (x12) (b0) (b1) (b2) (b3_Default) (b3_Closed) (b3_Fuel) (b3_Stack) (b3_Rules) ob0_Rules ob1_Put ob1_Drop ob2_Rules ob3_Rules hob2_Rules)
  · exact zk (g17_r32v1_sim (b0) (b1) (b2) (b3_Default) (b3_Closed) (b3_Fuel) (b3_Stack) (b3_Rules) ob0_Rules ob1_Put ob1_Drop ob2_Rules ob3_Rules hob2_Rules)
theorem g17_l29v1_of (x12 : Int) (b1 : Scolanderref07_Delta) (b3_Default : Int) (b3_Closed : Int) (b3_Fuel : Int) (b3_Stack : Int) (b3_Rules : List Srule_Rule) {r} (h : b17_l29v1 x12 b1 b3_Default b3_Closed b3_Fuel b3_Stack b3_Rules = some r) : g17_l29v1 x12 b1 b3_Default b3_Closed b3_Fuel b3_Stack b3_Rules = some r :=
  pick_of (fun _ _ ha hb => RRun.uniq (Q17_u) (ha default default .ex .ex .ex .ex .ex rfl) (hb default default .ex .ex .ex .ex .ex rfl)) (fun b0 b2 ob0_Rules ob1_Put ob1_Drop ob2_Rules ob3_Rules hob2_Rules => g17_l29v1_sim x12 b0 b1 b2 b3_Default b3_Closed b3_Fuel b3_Stack b3_Rules ob0_Rules ob1_Put ob1_Drop ob2_Rules ob3_Rules hob2_Rules r h)
end Go.Proofs.Ytbmmhbpalkepeaa.N2
end
