/- More of the functions' typed texts. No condition. -/
import Derived.Test.YtbmmhbpalkepeaaTypA

section
set_option linter.unusedSimpArgs false
set_option linter.unusedVariables false
namespace Go.Proofs.Ytbmmhbpalkepeaa.N2
open Go Go.Abs
set_option linter.unusedVariables false
set_option maxRecDepth 100000
/-! "(colander/colanderref07.Set).Right": g19 -/
noncomputable def b19_r2  : Option (Bool) :=
 some (false)
theorem g19_r2_sim  : Sim (Q19) (b19_r2) (f19_r2 0  []) := by
  unfold b19_r2
  refine zf (f19_r2_eq ..) ?_
  refine ze ?_
  exact zr ((bv false), []) ⟨_, rfl⟩
noncomputable def b19_r3 (b0 : Scolanderref07_Set) : Option (Bool) :=
 g19_l4 0 b0
theorem g19_r3_sim (b0 : Scolanderref07_Set) (ob0_Rules : Own) : Sim (Q19) (b19_r3 b0) (f19_r3 0 (.ptr 0 0) [(r_Scolanderref07_Set b0 ob0_Rules)]) := by
  unfold b19_r3
  refine zf (f19_r3_eq ..) ?_
  refine ze ?_
  exact zk (g19_l4_to (0) (b0) ob0_Rules)
noncomputable def b19 (x0 : Scolanderref07_Set) : Option (Bool) :=
 (g33 x0).bind fun r1 =>
 if ((!r1)) = true then
 (b19_r2)
 else
 (if ((decide (16 < (x0.Rules.length : Int)))) = true then
 (b19_r2)
 else
 (b19_r3 x0))
theorem g19_sim (x0 : Scolanderref07_Set) (ox0_Rules : Own) : Sim (Q19) (b19 x0) (EE 19 [(.p (.agg (k_Scolanderref07_Set x0 ox0_Rules)))] []) := by
  unfold b19
  refine zf (f19_eq ..) ?_
  refine ze ?_
  refine zx (.ptr 0 0) [(r_Scolanderref07_Set x0 ox0_Rules)] ?_
  refine ze ?_
  refine zo (.p (.agg (k_Scolanderref07_Set x0 (shrO ox0_Rules)))) ?_
  refine zi fun r1 hr1 => ?_
  obtain ⟨qr1, er1, exr1, rfl⟩ := g33_to (x0) .sh r1 hr1
  refine zc [] (bv r1) [(r_Scolanderref07_Set x0 ox0_Rules)] er1 ?_
  refine zo (bv (!r1)) ?_
  refine za ((!r1)) ?_ ?_
  · exact zk (g19_r2_sim )
  · refine zo (.ptr 0 4) ?_
    refine zo (.p (.lst (shrO ox0_Rules) (x0.Rules.map e_Srule_Rule))) ?_
    refine zo (iv (x0.Rules.length : Int)) ?_ (Eq.trans (by kernel_rfl) (xlen_of (P := PP) (t := 34) (d := 69) (by kernel_rfl) e_Srule_Rule (shrO ox0_Rules) x0.Rules))
    refine zo (bv (decide (16 < (x0.Rules.length : Int)))) ?_
    refine za ((decide (16 < (x0.Rules.length : Int)))) ?_ ?_
    · exact zk (g19_r2_sim )
    · exact zk (g19_r3_sim (x0) ox0_Rules)
theorem g19_of (x0 : Scolanderref07_Set) {r} (h : b19 x0 = some r) : g19 x0 = some r :=
  pick_of (fun _ _ ha hb => RRun.uniq (Q19_u) (ha .ex) (hb .ex)) (fun ox0_Rules => g19_sim x0 ox0_Rules r h)
noncomputable def b19_r7  : Option (Bool) :=
 some (false)
theorem g19_r7_sim  : Sim (Q19) (b19_r7) (f19_r7 0  []) := by
  unfold b19_r7
  refine zf (f19_r7_eq ..) ?_
  refine ze ?_
  exact zr ((bv false), []) ⟨_, rfl⟩
noncomputable def b19_r5 (x3 : Int) (b0 : Scolanderref07_Set) : Option (Bool) :=
 g19_l4 ((IntKind.i64.wrap (x3 + 1))) b0
theorem g19_r5_sim (x3 : Int) (b0 : Scolanderref07_Set) (ob0_Rules : Own) : Sim (Q19) (b19_r5 x3 b0) (f19_r5 0 (.ptr 0 0) (iv x3) [(r_Scolanderref07_Set b0 ob0_Rules)]) := by
  unfold b19_r5
  refine zf (f19_r5_eq ..) ?_
  refine ze ?_
  refine zo (iv (IntKind.i64.wrap (x3 + 1))) ?_
  exact zk (g19_l4_to ((IntKind.i64.wrap (x3 + 1))) (b0) ob0_Rules)
noncomputable def b19_r6 (x3 : Int) (b0 : Scolanderref07_Set) : Option (Bool) :=
 (lget b0.Rules x3).bind fun a1 =>
 (g34 a1).bind fun r2 =>
 if ((!r2)) = true then
 (b19_r7)
 else
 (if ((decide (0 < x3))) = true then
 ((lget b0.Rules x3).bind fun a3 =>
 (lget b0.Rules (IntKind.i64.wrap (x3 - 1))).bind fun a4 =>
 if ((decide (a3.ID ≤ a4.ID))) = true then
 (b19_r7)
 else
 (b19_r5 x3 b0))
 else
 (b19_r5 x3 b0))
theorem g19_r6_sim (x3 : Int) (b0 : Scolanderref07_Set) (ob0_Rules : Own) : Sim (Q19) (b19_r6 x3 b0) (f19_r6 0 (.ptr 0 0) (iv x3) [(r_Scolanderref07_Set b0 ob0_Rules)]) := by
  unfold b19_r6
  refine zf (f19_r6_eq ..) ?_
  refine ze ?_
  refine zo (.ptr 0 4) ?_
  refine zo (.p (.lst (shrO ob0_Rules) (b0.Rules.map e_Srule_Rule))) ?_
  refine zi fun a1 ha1 => ?_
  refine zo (.cptr (k_Srule_Rule a1)) ?_ (Eq.trans (by kernel_rfl) (xidx_of (o := (shrO ob0_Rules)) (k := .i64) (n := 5) (e := e_Srule_Rule) (cs := c_Srule_Rule) (fun _ => rfl) (fun _ => rfl) (by decide) ha1))
  refine zo (.p (.agg (k_Srule_Rule a1))) ?_
  refine zi fun r2 hr2 => ?_
  obtain ⟨qr2, er2, exr2, rfl⟩ := g34_to (a1) r2 hr2
  refine zc [] (bv r2) [(r_Scolanderref07_Set b0 ob0_Rules)] er2 ?_
  refine zo (bv (!r2)) ?_
  refine za ((!r2)) ?_ ?_
  · exact zk (g19_r7_sim )
  · refine zo (bv (decide (0 < x3))) ?_
    refine za ((decide (0 < x3))) ?_ ?_
    · refine zo (.ptr 0 4) ?_
      refine zo (.p (.lst (shrO ob0_Rules) (b0.Rules.map e_Srule_Rule))) ?_
      refine zi fun a3 ha3 => ?_
      refine zo (.cptr (k_Srule_Rule a3)) ?_ (Eq.trans (by kernel_rfl) (xidx_of (o := (shrO ob0_Rules)) (k := .i64) (n := 5) (e := e_Srule_Rule) (cs := c_Srule_Rule) (fun _ => rfl) (fun _ => rfl) (by decide) ha3))
      refine zo (.cptr [(.v (.int .i64 a3.ID)), (.v (.int .i64 a3.Priority)), (.v (.int .i64 a3.Action)), (.v (.int .i64 a3.Scope)), (.v (.string a3.Pattern))]) ?_
      refine zo (iv a3.ID) ?_
      refine zo (.ptr 0 4) ?_
      refine zo (.p (.lst (shrO ob0_Rules) (b0.Rules.map e_Srule_Rule))) ?_
      refine zo (iv (IntKind.i64.wrap (x3 - 1))) ?_
      refine zi fun a4 ha4 => ?_
      refine zo (.cptr (k_Srule_Rule a4)) ?_ (Eq.trans (by kernel_rfl) (xidx_of (o := (shrO ob0_Rules)) (k := .i64) (n := 5) (e := e_Srule_Rule) (cs := c_Srule_Rule) (fun _ => rfl) (fun _ => rfl) (by decide) ha4))
      refine zo (.cptr [(.v (.int .i64 a4.ID)), (.v (.int .i64 a4.Priority)), (.v (.int .i64 a4.Action)), (.v (.int .i64 a4.Scope)), (.v (.string a4.Pattern))]) ?_
      refine zo (iv a4.ID) ?_
      refine zo (bv (decide (a3.ID ≤ a4.ID))) ?_
      refine za ((decide (a3.ID ≤ a4.ID))) ?_ ?_
      · exact zk (g19_r7_sim )
      · exact zk (g19_r5_sim (x3) (b0) ob0_Rules)
    · exact zk (g19_r5_sim (x3) (b0) ob0_Rules)
noncomputable def b19_r8  : Option (Bool) :=
 some (true)
theorem g19_r8_sim  : Sim (Q19) (b19_r8) (f19_r8 0  []) := by
  unfold b19_r8
  refine zf (f19_r8_eq ..) ?_
  refine ze ?_
  exact zr ((bv true), []) ⟨_, rfl⟩
noncomputable def b19_l4 (x3 : Int) (b0 : Scolanderref07_Set) : Option (Bool) :=
 if ((decide (x3 < (b0.Rules.length : Int)))) = true then
 (b19_r6 x3 b0)
 else
 (b19_r8)
theorem g19_l4_sim (x3 : Int) (b0 : Scolanderref07_Set) (ob0_Rules : Own) : Sim (Q19) (b19_l4 x3 b0) (f19_l4 0 (.ptr 0 0) (iv x3) [(r_Scolanderref07_Set b0 ob0_Rules)]) := by
  unfold b19_l4
  refine zf (f19_l4_eq ..) ?_
  refine ze ?_
  refine zo (.ptr 0 4) ?_
  refine zo (.p (.lst (shrO ob0_Rules) (b0.Rules.map e_Srule_Rule))) ?_
  refine zo (iv (b0.Rules.length : Int)) ?_ (Eq.trans (by kernel_rfl) (xlen_of (P := PP) (t := 34) (d := 69) (by kernel_rfl) e_Srule_Rule (shrO ob0_Rules) b0.Rules))
  refine zo (bv (decide (x3 < (b0.Rules.length : Int)))) ?_
  refine za ((decide (x3 < (b0.Rules.length : Int)))) ?_ ?_
  · exact zk (g19_r6_sim (x3) (b0) ob0_Rules)
  · exact zk (g19_r8_sim )
theorem g19_l4_of (x3 : Int) (b0 : Scolanderref07_Set) {r} (h : b19_l4 x3 b0 = some r) : g19_l4 x3 b0 = some r :=
  pick_of (fun _ _ ha hb => RRun.uniq (Q19_u) (ha .ex) (hb .ex)) (fun ob0_Rules => g19_l4_sim x3 b0 ob0_Rules r h)
/-! "(colander/colanderref07.Set).Numbered": g33 -/
noncomputable def b33 (x0 : Scolanderref07_Set) : Option (Bool) :=
 if ((decide (0 ≤ x0.Default))) = true then
 (if ((decide (x0.Default ≤ 255))) = true then
 (if ((decide (0 ≤ x0.Closed))) = true then
 (if ((decide (x0.Closed ≤ 255))) = true then
 (if ((decide (1 ≤ x0.Fuel))) = true then
 (if ((decide (x0.Fuel ≤ 1048576))) = true then
 (if ((decide (0 ≤ x0.Stack))) = true then
 (some ((decide (x0.Stack ≤ 4096))))
 else
 (some (false)))
 else
 (some (false)))
 else
 (some (false)))
 else
 (some (false)))
 else
 (some (false)))
 else
 (some (false)))
 else
 (some (false))
theorem g33_sim (x0 : Scolanderref07_Set) (ox0_Rules : Own) : Sim (Q33) (b33 x0) (EE 33 [(.p (.agg (k_Scolanderref07_Set x0 ox0_Rules)))] []) := by
  unfold b33
  refine zf (f33_eq ..) ?_
  refine ze ?_
  refine zx (.ptr 0 0) [(r_Scolanderref07_Set x0 ox0_Rules)] ?_
  refine ze ?_
  refine zo (.ptr 0 0) ?_
  refine zo (iv x0.Default) ?_
  refine zo (bv (decide (0 ≤ x0.Default))) ?_
  refine za ((decide (0 ≤ x0.Default))) ?_ ?_
  · refine zo (.ptr 0 0) ?_
    refine zo (iv x0.Default) ?_
    refine zo (bv (decide (x0.Default ≤ 255))) ?_
    refine za ((decide (x0.Default ≤ 255))) ?_ ?_
    · refine zo (.ptr 0 1) ?_
      refine zo (iv x0.Closed) ?_
      refine zo (bv (decide (0 ≤ x0.Closed))) ?_
      refine za ((decide (0 ≤ x0.Closed))) ?_ ?_
      · refine zo (.ptr 0 1) ?_
        refine zo (iv x0.Closed) ?_
        refine zo (bv (decide (x0.Closed ≤ 255))) ?_
        refine za ((decide (x0.Closed ≤ 255))) ?_ ?_
        · refine zo (.ptr 0 2) ?_
          refine zo (iv x0.Fuel) ?_
          refine zo (bv (decide (1 ≤ x0.Fuel))) ?_
          refine za ((decide (1 ≤ x0.Fuel))) ?_ ?_
          · refine zo (.ptr 0 2) ?_
            refine zo (iv x0.Fuel) ?_
            refine zo (bv (decide (x0.Fuel ≤ 1048576))) ?_
            refine za ((decide (x0.Fuel ≤ 1048576))) ?_ ?_
            · refine zo (.ptr 0 3) ?_
              refine zo (iv x0.Stack) ?_
              refine zo (bv (decide (0 ≤ x0.Stack))) ?_
              refine za ((decide (0 ≤ x0.Stack))) ?_ ?_
              · refine zo (.ptr 0 3) ?_
                refine zo (iv x0.Stack) ?_
                refine zo (bv (decide (x0.Stack ≤ 4096))) ?_
                exact zr ((bv (decide (x0.Stack ≤ 4096))), [(r_Scolanderref07_Set x0 ox0_Rules)]) ⟨_, rfl⟩
              · exact zr ((bv false), [(r_Scolanderref07_Set x0 ox0_Rules)]) ⟨_, rfl⟩
            · exact zr ((bv false), [(r_Scolanderref07_Set x0 ox0_Rules)]) ⟨_, rfl⟩
          · exact zr ((bv false), [(r_Scolanderref07_Set x0 ox0_Rules)]) ⟨_, rfl⟩
        · exact zr ((bv false), [(r_Scolanderref07_Set x0 ox0_Rules)]) ⟨_, rfl⟩
      · exact zr ((bv false), [(r_Scolanderref07_Set x0 ox0_Rules)]) ⟨_, rfl⟩
    · exact zr ((bv false), [(r_Scolanderref07_Set x0 ox0_Rules)]) ⟨_, rfl⟩
  · exact zr ((bv false), [(r_Scolanderref07_Set x0 ox0_Rules)]) ⟨_, rfl⟩
theorem g33_of (x0 : Scolanderref07_Set) {r} (h : b33 x0 = some r) : g33 x0 = some r :=
  pick_of (fun _ _ ha hb => RRun.uniq (Q33_u) (ha .ex) (hb .ex)) (fun ox0_Rules => g33_sim x0 ox0_Rules r h)
/-! "(colander/colanderref07.Rule).Right": g34 -/
noncomputable def b34 (x0 : Srule_Rule) : Option (Bool) :=
 if ((decide (1 ≤ x0.ID))) = true then
 (if ((decide (x0.ID ≤ 1099511627776))) = true then
 (if ((decide (0 ≤ x0.Priority))) = true then
 (if ((decide (x0.Priority ≤ 1000))) = true then
 (if ((decide (0 ≤ x0.Action))) = true then
 (if ((decide (x0.Action ≤ 255))) = true then
 (if ((decide (1 ≤ x0.Scope))) = true then
 (if ((decide (x0.Scope ≤ 65535))) = true then
 (some ((decide ((x0.Pattern.size : Int) ≤ 256))))
 else
 (some (false)))
 else
 (some (false)))
 else
 (some (false)))
 else
 (some (false)))
 else
 (some (false)))
 else
 (some (false)))
 else
 (some (false)))
 else
 (some (false))
theorem g34_sim (x0 : Srule_Rule) : Sim (Q34) (b34 x0) (EE 34 [(.p (.agg (k_Srule_Rule x0)))] []) := by
  unfold b34
  refine zf (f34_eq ..) ?_
  refine ze ?_
  refine zx (.ptr 0 0) [(r_Srule_Rule x0)] ?_
  refine ze ?_
  refine zo (.ptr 0 0) ?_
  refine zo (iv x0.ID) ?_
  refine zo (bv (decide (1 ≤ x0.ID))) ?_
  refine za ((decide (1 ≤ x0.ID))) ?_ ?_
  · refine zo (.ptr 0 0) ?_
    refine zo (iv x0.ID) ?_
    refine zo (bv (decide (x0.ID ≤ 1099511627776))) ?_
    refine za ((decide (x0.ID ≤ 1099511627776))) ?_ ?_
    · refine zo (.ptr 0 1) ?_
      refine zo (iv x0.Priority) ?_
      refine zo (bv (decide (0 ≤ x0.Priority))) ?_
      refine za ((decide (0 ≤ x0.Priority))) ?_ ?_
      · refine zo (.ptr 0 1) ?_
        refine zo (iv x0.Priority) ?_
        refine zo (bv (decide (x0.Priority ≤ 1000))) ?_
        refine za ((decide (x0.Priority ≤ 1000))) ?_ ?_
        · refine zo (.ptr 0 2) ?_
          refine zo (iv x0.Action) ?_
          refine zo (bv (decide (0 ≤ x0.Action))) ?_
          refine za ((decide (0 ≤ x0.Action))) ?_ ?_
          · refine zo (.ptr 0 2) ?_
            refine zo (iv x0.Action) ?_
            refine zo (bv (decide (x0.Action ≤ 255))) ?_
            refine za ((decide (x0.Action ≤ 255))) ?_ ?_
            · refine zo (.ptr 0 3) ?_
              refine zo (iv x0.Scope) ?_
              refine zo (bv (decide (1 ≤ x0.Scope))) ?_
              refine za ((decide (1 ≤ x0.Scope))) ?_ ?_
              · refine zo (.ptr 0 3) ?_
                refine zo (iv x0.Scope) ?_
                refine zo (bv (decide (x0.Scope ≤ 65535))) ?_
                refine za ((decide (x0.Scope ≤ 65535))) ?_ ?_
                · refine zo (.ptr 0 4) ?_
                  refine zo (.p (.v (.string x0.Pattern))) ?_
                  refine zo (iv (x0.Pattern.size : Int)) ?_
                  refine zo (bv (decide ((x0.Pattern.size : Int) ≤ 256))) ?_
                  exact zr ((bv (decide ((x0.Pattern.size : Int) ≤ 256))), [(r_Srule_Rule x0)]) ⟨_, rfl⟩
                · exact zr ((bv false), [(r_Srule_Rule x0)]) ⟨_, rfl⟩
              · exact zr ((bv false), [(r_Srule_Rule x0)]) ⟨_, rfl⟩
            · exact zr ((bv false), [(r_Srule_Rule x0)]) ⟨_, rfl⟩
          · exact zr ((bv false), [(r_Srule_Rule x0)]) ⟨_, rfl⟩
        · exact zr ((bv false), [(r_Srule_Rule x0)]) ⟨_, rfl⟩
      · exact zr ((bv false), [(r_Srule_Rule x0)]) ⟨_, rfl⟩
    · exact zr ((bv false), [(r_Srule_Rule x0)]) ⟨_, rfl⟩
  · exact zr ((bv false), [(r_Srule_Rule x0)]) ⟨_, rfl⟩
theorem g34_of (x0 : Srule_Rule) {r} (h : b34 x0 = some r) : g34 x0 = some r :=
  pick_of (fun _ _ ha hb => RRun.uniq (Q34_u) (ha ) (hb )) (g34_sim x0 r h)
/-! "colander/colanderref07.or": g32 -/
noncomputable def b32_r3 (x0 : Int) : Option (Int) :=
 some (x0)
theorem g32_r3_sim (x0 : Int) : Sim (Q32) (b32_r3 x0) (f32_r3 0 (iv x0) []) := by
  unfold b32_r3
  refine zf (f32_r3_eq ..) ?_
  refine ze ?_
  exact zr ((iv x0), []) ⟨_, rfl⟩
noncomputable def b32 (x0 : Int) (x1 : Int) : Option (Int) :=
 if ((x0 == (-1))) = true then
 (some (x1))
 else
 (b32_r3 x0)
theorem g32_sim (x0 : Int) (x1 : Int) : Sim (Q32) (b32 x0 x1) (EE 32 [(iv x0), (iv x1)] []) := by
  unfold b32
  refine zf (f32_eq ..) ?_
  refine ze ?_
  refine ze ?_
  refine zo (bv (x0 == (-1))) ?_
  refine za ((x0 == (-1))) ?_ ?_
  · refine ze ?_
    exact zr ((iv x1), []) ⟨_, rfl⟩
  · exact zk (g32_r3_sim (x0))
theorem g32_of (x0 : Int) (x1 : Int) {r} (h : b32 x0 x1 = some r) : g32 x0 x1 = some r :=
  pick_of (fun _ _ ha hb => RRun.uniq (Q32_u) (ha ) (hb )) (g32_sim x0 x1 r h)
/-! "colander/colanderref07.twice": g35 -/
noncomputable def b35 (x0 : Scolanderref07_Delta) : Option (Bool) :=
 g35_l3 (([] : List Int)) 0 x0
theorem g35_sim (x0 : Scolanderref07_Delta) (ox0_Put : Own) (ox0_Drop : Own) : Sim (Q35) (b35 x0) (EE 35 [(.p (.agg (k_Scolanderref07_Delta x0 ox0_Put ox0_Drop)))] []) := by
  unfold b35
  refine zf (f35_eq ..) ?_
  refine ze ?_
  refine zx (.ptr 0 0) [(r_Scolanderref07_Delta x0 ox0_Put ox0_Drop)] ?_
  refine ze ?_
  refine ze ?_
  exact zk (g35_l3_to (([] : List Int)) (0) (x0) .nl ox0_Put ox0_Drop rfl)
theorem g35_of (x0 : Scolanderref07_Delta) {r} (h : b35 x0 = some r) : g35 x0 = some r :=
  pick_of (fun _ _ ha hb => RRun.uniq (Q35_u) (ha .ex .ex) (hb .ex .ex)) (fun ox0_Put ox0_Drop => g35_sim x0 ox0_Put ox0_Drop r h)
noncomputable def b35_r5 (x3 : List Int) (x4 : Int) (b0 : Scolanderref07_Delta) : Option (Bool) :=
 (lget b0.Put x4).bind fun a1 =>
 (lapp x3 ([a1.ID] : List Int)).bind fun a2 =>
 g35_l3 a2 ((IntKind.i64.wrap (x4 + 1))) b0
theorem g35_r5_sim (x3 : List Int) (x4 : Int) (b0 : Scolanderref07_Delta) (ox3 : Own) (ob0_Put : Own) (ob0_Drop : Own) (hox3 : okApp ox3 = true) : Sim (Q35) (b35_r5 x3 x4 b0) (f35_r5 0 (.ptr 0 0) (.p (.lst ox3 (x3.map (eI .i64)))) (iv x4) [(r_Scolanderref07_Delta b0 ob0_Put ob0_Drop)]) := by
  unfold b35_r5
  refine zf (f35_r5_eq ..) ?_
  refine ze ?_
  refine zo (.ptr 0 4) ?_
  refine zo (.p (.lst (shrO ob0_Put) (b0.Put.map e_Srule_Rule))) ?_
  refine zi fun a1 ha1 => ?_
  refine zo (.cptr (k_Srule_Rule a1)) ?_ (Eq.trans (by kernel_rfl) (xidx_of (o := (shrO ob0_Put)) (k := .i64) (n := 5) (e := e_Srule_Rule) (cs := c_Srule_Rule) (fun _ => rfl) (fun _ => rfl) (by decide) ha1))
  refine zo (.cptr [(.v (.int .i64 a1.ID)), (.v (.int .i64 a1.Priority)), (.v (.int .i64 a1.Action)), (.v (.int .i64 a1.Scope)), (.v (.string a1.Pattern))]) ?_
  refine zo (iv a1.ID) ?_
  refine zo (.p (.lst .ex (([a1.ID] : List Int).map (eI .i64)))) ?_
  refine zi fun a2 ha2 => ?_
  refine zo (.p (.lst .un (a2.map (eI .i64)))) ?_ (Eq.trans (by kernel_rfl) <| xapp_of (n := 1) (o := ox3) (o' := .ex) (e := (eI .i64)) (ys := ([a1.ID] : List Int)) (fun _ => rfl) (by decide) hox3 ha2)
  refine ze ?_
  refine zo (iv (IntKind.i64.wrap (x4 + 1))) ?_
  exact zk (g35_l3_to (a2) ((IntKind.i64.wrap (x4 + 1))) (b0) .un ob0_Put ob0_Drop rfl)
noncomputable def b35_r6 (x3 : List Int) (b0 : Scolanderref07_Delta) : Option (Bool) :=
 (lapp x3 b0.Drop).bind fun a1 =>
 g35_l8 a1 0
theorem g35_r6_sim (x3 : List Int) (b0 : Scolanderref07_Delta) (ox3 : Own) (ob0_Put : Own) (ob0_Drop : Own) (hox3 : okApp ox3 = true) : Sim (Q35) (b35_r6 x3 b0) (f35_r6 0 (.ptr 0 0) (.p (.lst ox3 (x3.map (eI .i64)))) [(r_Scolanderref07_Delta b0 ob0_Put ob0_Drop)]) := by
  unfold b35_r6
  refine zf (f35_r6_eq ..) ?_
  refine ze ?_
  refine zo (.ptr 0 5) ?_
  refine zo (.p (.lst (shrO ob0_Drop) (b0.Drop.map (eI .i64)))) ?_
  refine zi fun a1 ha1 => ?_
  refine zo (.p (.lst (apo ox3 ((b0.Drop).map (eI .i64))) (a1.map (eI .i64)))) ?_ (Eq.trans (by kernel_rfl) <| xapp_of (n := 1) (o := ox3) (o' := (shrO ob0_Drop)) (e := (eI .i64)) (ys := b0.Drop) (fun _ => rfl) (by decide) hox3 ha1)
  refine ze ?_
  exact zk (g35_l8_to (a1) (0) (apo ox3 ((b0.Drop).map (eI .i64))) (okApp_apo hox3))
noncomputable def b35_l3 (x3 : List Int) (x4 : Int) (b0 : Scolanderref07_Delta) : Option (Bool) :=
 if ((decide (x4 < (b0.Put.length : Int)))) = true then
 (b35_r5 x3 x4 b0)
 else
 (b35_r6 x3 b0)
theorem g35_l3_sim (x3 : List Int) (x4 : Int) (b0 : Scolanderref07_Delta) (ox3 : Own) (ob0_Put : Own) (ob0_Drop : Own) (hox3 : okApp ox3 = true) : Sim (Q35) (b35_l3 x3 x4 b0) (f35_l3 0 (.ptr 0 0) (.p (.lst ox3 (x3.map (eI .i64)))) (iv x4) [(r_Scolanderref07_Delta b0 ob0_Put ob0_Drop)]) := by
  unfold b35_l3
  refine zf (f35_l3_eq ..) ?_
  refine ze ?_
  refine zo (.ptr 0 4) ?_
  refine zo (.p (.lst (shrO ob0_Put) (b0.Put.map e_Srule_Rule))) ?_
  refine zo (iv (b0.Put.length : Int)) ?_ (Eq.trans (by kernel_rfl) (xlen_of (P := PP) (t := 34) (d := 69) (by kernel_rfl) e_Srule_Rule (shrO ob0_Put) b0.Put))
  refine zo (bv (decide (x4 < (b0.Put.length : Int)))) ?_
  refine za ((decide (x4 < (b0.Put.length : Int)))) ?_ ?_
  · exact zk (g35_r5_sim (x3) (x4) (b0) ox3 ob0_Put ob0_Drop hox3)
  · exact zk (g35_r6_sim (x3) (b0) ox3 ob0_Put ob0_Drop hox3)
theorem g35_l3_of (x3 : List Int) (x4 : Int) (b0 : Scolanderref07_Delta) {r} (h : b35_l3 x3 x4 b0 = some r) : g35_l3 x3 x4 b0 = some r :=
  pick_of (fun _ _ ha hb => RRun.uniq (Q35_u) (ha .ex .ex .ex rfl) (hb .ex .ex .ex rfl)) (fun ox3 ob0_Put ob0_Drop hox3 => g35_l3_sim x3 x4 b0 ox3 ob0_Put ob0_Drop hox3 r h)
noncomputable def b35_r10 (x3 : List Int) (x5 : Int) : Option (Bool) :=
 g35_l11 x3 x5 0
theorem g35_r10_sim (x3 : List Int) (x5 : Int) (ox3 : Own) (hox3 : okApp ox3 = true) : Sim (Q35) (b35_r10 x3 x5) (f35_r10 0 (.p (.lst ox3 (x3.map (eI .i64)))) (iv x5) []) := by
  unfold b35_r10
  refine zf (f35_r10_eq ..) ?_
  refine ze ?_
  exact zk (g35_l11_to (x3) (x5) (0) ox3 hox3)
noncomputable def b35_r15  : Option (Bool) :=
 some (false)
theorem g35_r15_sim  : Sim (Q35) (b35_r15) (f35_r15 0  []) := by
  unfold b35_r15
  refine zf (f35_r15_eq ..) ?_
  refine ze ?_
  exact zr ((bv false), []) ⟨_, rfl⟩
noncomputable def b35_l8 (x3 : List Int) (x5 : Int) : Option (Bool) :=
 if ((decide (x5 < (x3.length : Int)))) = true then
 (b35_r10 x3 x5)
 else
 (b35_r15)
theorem g35_l8_sim (x3 : List Int) (x5 : Int) (ox3 : Own) (hox3 : okApp ox3 = true) : Sim (Q35) (b35_l8 x3 x5) (f35_l8 0 (.p (.lst ox3 (x3.map (eI .i64)))) (iv x5) []) := by
  unfold b35_l8
  refine zf (f35_l8_eq ..) ?_
  refine ze ?_
  refine zo (iv (x3.length : Int)) ?_ (Eq.trans (by kernel_rfl) (xlen_of (P := PP) (t := 25) (d := 3) (by kernel_rfl) (eI .i64) (shrO ox3) x3))
  refine zo (bv (decide (x5 < (x3.length : Int)))) ?_
  refine za ((decide (x5 < (x3.length : Int)))) ?_ ?_
  · exact zk (g35_r10_sim (x3) (x5) ox3 hox3)
  · exact zk (g35_r15_sim )
theorem g35_l8_of (x3 : List Int) (x5 : Int) {r} (h : b35_l8 x3 x5 = some r) : g35_l8 x3 x5 = some r :=
  pick_of (fun _ _ ha hb => RRun.uniq (Q35_u) (ha .ex rfl) (hb .ex rfl)) (fun ox3 hox3 => g35_l8_sim x3 x5 ox3 hox3 r h)
noncomputable def b35_r12 (x3 : List Int) (x5 : Int) (x6 : Int) : Option (Bool) :=
 g35_l11 x3 x5 ((IntKind.i64.wrap (x6 + 1)))
theorem g35_r12_sim (x3 : List Int) (x5 : Int) (x6 : Int) (ox3 : Own) (hox3 : okApp ox3 = true) : Sim (Q35) (b35_r12 x3 x5 x6) (f35_r12 0 (.p (.lst ox3 (x3.map (eI .i64)))) (iv x5) (iv x6) []) := by
  unfold b35_r12
  refine zf (f35_r12_eq ..) ?_
  refine ze ?_
  refine zo (iv (IntKind.i64.wrap (x6 + 1))) ?_
  exact zk (g35_l11_to (x3) (x5) ((IntKind.i64.wrap (x6 + 1))) ox3 hox3)
noncomputable def b35_r13 (x3 : List Int) (x5 : Int) (x6 : Int) : Option (Bool) :=
 (lget x3 x5).bind fun a1 =>
 (lget x3 x6).bind fun a2 =>
 if ((a1 == a2)) = true then
 (some (true))
 else
 (b35_r12 x3 x5 x6)
theorem g35_r13_sim (x3 : List Int) (x5 : Int) (x6 : Int) (ox3 : Own) (hox3 : okApp ox3 = true) : Sim (Q35) (b35_r13 x3 x5 x6) (f35_r13 0 (.p (.lst ox3 (x3.map (eI .i64)))) (iv x5) (iv x6) []) := by
  unfold b35_r13
  refine zf (f35_r13_eq ..) ?_
  refine ze ?_
  refine zi fun a1 ha1 => ?_
  refine zo (.cptr [(.v (.int .i64 a1))]) ?_ (Eq.trans (by kernel_rfl) (xidx_of (o := (shrO ox3)) (k := .i64) (n := 1) (e := (eI .i64)) (cs := (fun a => [(eI .i64) a])) (fun _ => rfl) (fun _ => rfl) (by decide) ha1))
  refine zo (iv a1) ?_
  refine zi fun a2 ha2 => ?_
  refine zo (.cptr [(.v (.int .i64 a2))]) ?_ (Eq.trans (by kernel_rfl) (xidx_of (o := (shrO ox3)) (k := .i64) (n := 1) (e := (eI .i64)) (cs := (fun a => [(eI .i64) a])) (fun _ => rfl) (fun _ => rfl) (by decide) ha2))
  refine zo (iv a2) ?_
  refine zo (bv (a1 == a2)) ?_
  refine za ((a1 == a2)) ?_ ?_
  · refine ze ?_
    exact zr ((bv true), []) ⟨_, rfl⟩
  · exact zk (g35_r12_sim (x3) (x5) (x6) ox3 hox3)
noncomputable def b35_r9 (x3 : List Int) (x5 : Int) : Option (Bool) :=
 g35_l8 x3 ((IntKind.i64.wrap (x5 + 1)))
theorem g35_r9_sim (x3 : List Int) (x5 : Int) (ox3 : Own) (hox3 : okApp ox3 = true) : Sim (Q35) (b35_r9 x3 x5) (f35_r9 0 (.p (.lst ox3 (x3.map (eI .i64)))) (iv x5) []) := by
  unfold b35_r9
  refine zf (f35_r9_eq ..) ?_
  refine ze ?_
  refine zo (iv (IntKind.i64.wrap (x5 + 1))) ?_
  exact zk (g35_l8_to (x3) ((IntKind.i64.wrap (x5 + 1))) ox3 hox3)
noncomputable def b35_l11 (x3 : List Int) (x5 : Int) (x6 : Int) : Option (Bool) :=
 if ((decide (x6 < x5))) = true then
 (b35_r13 x3 x5 x6)
 else
 (b35_r9 x3 x5)
theorem g35_l11_sim (x3 : List Int) (x5 : Int) (x6 : Int) (ox3 : Own) (hox3 : okApp ox3 = true) : Sim (Q35) (b35_l11 x3 x5 x6) (f35_l11 0 (.p (.lst ox3 (x3.map (eI .i64)))) (iv x5) (iv x6) []) := by
  unfold b35_l11
  refine zf (f35_l11_eq ..) ?_
  refine ze ?_
  refine zo (bv (decide (x6 < x5))) ?_
  refine za ((decide (x6 < x5))) ?_ ?_
  · exact zk (g35_r13_sim (x3) (x5) (x6) ox3 hox3)
  · exact zk (g35_r9_sim (x3) (x5) ox3 hox3)
theorem g35_l11_of (x3 : List Int) (x5 : Int) (x6 : Int) {r} (h : b35_l11 x3 x5 x6 = some r) : g35_l11 x3 x5 x6 = some r :=
  pick_of (fun _ _ ha hb => RRun.uniq (Q35_u) (ha .ex rfl) (hb .ex rfl)) (fun ox3 hox3 => g35_l11_sim x3 x5 x6 ox3 hox3 r h)
/-! "colander/colanderref07.find": g36 -/
noncomputable def b36 (x0 : List Srule_Rule) (x1 : Int) : Option (Int) :=
 g36_l2 x0 x1 0
theorem g36_sim (x0 : List Srule_Rule) (x1 : Int) (ox0 : Own) : Sim (Q36) (b36 x0 x1) (EE 36 [(.p (.lst ox0 (x0.map e_Srule_Rule))), (iv x1)] []) := by
  unfold b36
  refine zf (f36_eq ..) ?_
  refine ze ?_
  refine ze ?_
  exact zk (g36_l2_to (x0) (x1) (0) ox0)
theorem g36_of (x0 : List Srule_Rule) (x1 : Int) {r} (h : b36 x0 x1 = some r) : g36 x0 x1 = some r :=
  pick_of (fun _ _ ha hb => RRun.uniq (Q36_u) (ha .ex) (hb .ex)) (fun ox0 => g36_sim x0 x1 ox0 r h)
noncomputable def b36_r3 (x0 : List Srule_Rule) (x1 : Int) (x5 : Int) : Option (Int) :=
 g36_l2 x0 x1 ((IntKind.i64.wrap (x5 + 1)))
theorem g36_r3_sim (x0 : List Srule_Rule) (x1 : Int) (x5 : Int) (ox0 : Own) : Sim (Q36) (b36_r3 x0 x1 x5) (f36_r3 0 (.p (.lst ox0 (x0.map e_Srule_Rule))) (iv x1) (iv x5) []) := by
  unfold b36_r3
  refine zf (f36_r3_eq ..) ?_
  refine ze ?_
  refine zo (iv (IntKind.i64.wrap (x5 + 1))) ?_
  exact zk (g36_l2_to (x0) (x1) ((IntKind.i64.wrap (x5 + 1))) ox0)
noncomputable def b36_r4 (x0 : List Srule_Rule) (x1 : Int) (x5 : Int) : Option (Int) :=
 (lget x0 x5).bind fun a1 =>
 if ((a1.ID == x1)) = true then
 (some (x5))
 else
 (b36_r3 x0 x1 x5)
theorem g36_r4_sim (x0 : List Srule_Rule) (x1 : Int) (x5 : Int) (ox0 : Own) : Sim (Q36) (b36_r4 x0 x1 x5) (f36_r4 0 (.p (.lst ox0 (x0.map e_Srule_Rule))) (iv x1) (iv x5) []) := by
  unfold b36_r4
  refine zf (f36_r4_eq ..) ?_
  refine ze ?_
  refine zi fun a1 ha1 => ?_
  refine zo (.cptr (k_Srule_Rule a1)) ?_ (Eq.trans (by kernel_rfl) (xidx_of (o := (shrO ox0)) (k := .i64) (n := 5) (e := e_Srule_Rule) (cs := c_Srule_Rule) (fun _ => rfl) (fun _ => rfl) (by decide) ha1))
  refine zo (.cptr [(.v (.int .i64 a1.ID)), (.v (.int .i64 a1.Priority)), (.v (.int .i64 a1.Action)), (.v (.int .i64 a1.Scope)), (.v (.string a1.Pattern))]) ?_
  refine zo (iv a1.ID) ?_
  refine zo (bv (a1.ID == x1)) ?_
  refine za ((a1.ID == x1)) ?_ ?_
  · refine ze ?_
    exact zr ((iv x5), []) ⟨_, rfl⟩
  · exact zk (g36_r3_sim (x0) (x1) (x5) ox0)
noncomputable def b36_r6  : Option (Int) :=
 some ((-1))
theorem g36_r6_sim  : Sim (Q36) (b36_r6) (f36_r6 0  []) := by
  unfold b36_r6
  refine zf (f36_r6_eq ..) ?_
  refine ze ?_
  exact zr ((iv (-1)), []) ⟨_, rfl⟩
noncomputable def b36_l2 (x0 : List Srule_Rule) (x1 : Int) (x5 : Int) : Option (Int) :=
 if ((decide (x5 < (x0.length : Int)))) = true then
 (b36_r4 x0 x1 x5)
 else
 (b36_r6)
theorem g36_l2_sim (x0 : List Srule_Rule) (x1 : Int) (x5 : Int) (ox0 : Own) : Sim (Q36) (b36_l2 x0 x1 x5) (f36_l2 0 (.p (.lst ox0 (x0.map e_Srule_Rule))) (iv x1) (iv x5) []) := by
  unfold b36_l2
  refine zf (f36_l2_eq ..) ?_
  refine ze ?_
  refine zo (iv (x0.length : Int)) ?_ (Eq.trans (by kernel_rfl) (xlen_of (P := PP) (t := 34) (d := 69) (by kernel_rfl) e_Srule_Rule (shrO ox0) x0))
  refine zo (bv (decide (x5 < (x0.length : Int)))) ?_
  refine za ((decide (x5 < (x0.length : Int)))) ?_ ?_
  · exact zk (g36_r4_sim (x0) (x1) (x5) ox0)
  · exact zk (g36_r6_sim )
theorem g36_l2_of (x0 : List Srule_Rule) (x1 : Int) (x5 : Int) {r} (h : b36_l2 x0 x1 x5 = some r) : g36_l2 x0 x1 x5 = some r :=
  pick_of (fun _ _ ha hb => RRun.uniq (Q36_u) (ha .ex) (hb .ex)) (fun ox0 => g36_l2_sim x0 x1 x5 ox0 r h)
/-! "colander/colanderref07.put": g37 -/
noncomputable def b37 (x0 : List Srule_Rule) (x1 : Srule_Rule) : Option ((List Srule_Rule)) :=
 g37_l4 x0 (([] : List Srule_Rule)) false 0 x1
theorem g37_sim (x0 : List Srule_Rule) (x1 : Srule_Rule) (ox0 : Own) : Sim (Q37) (b37 x0 x1) (EE 37 [(.p (.lst ox0 (x0.map e_Srule_Rule))), (.p (.agg (k_Srule_Rule x1)))] []) := by
  unfold b37
  refine zf (f37_eq ..) ?_
  refine ze ?_
  refine zx (.ptr 0 0) [(r_Srule_Rule x1)] ?_
  refine ze ?_
  refine ze ?_
  refine ze ?_
  exact zk (g37_l4_to (x0) (([] : List Srule_Rule)) (false) (0) (x1) ox0 .nl rfl)
theorem g37_of (x0 : List Srule_Rule) (x1 : Srule_Rule) {r} (h : b37 x0 x1 = some r) : g37 x0 x1 = some r :=
  pick_of (fun _ _ ha hb => RRun.uniq (Q37_u) (ha .ex) (hb .ex)) (fun ox0 => g37_sim x0 x1 ox0 r h)
noncomputable def b37_r5 (x0 : List Srule_Rule) (x5 : List Srule_Rule) (x6 : Bool) (x7 : Int) (b0 : Srule_Rule) : Option ((List Srule_Rule)) :=
 g37_l4 x0 x5 x6 ((IntKind.i64.wrap (x7 + 1))) b0
theorem g37_r5_sim (x0 : List Srule_Rule) (x5 : List Srule_Rule) (x6 : Bool) (x7 : Int) (b0 : Srule_Rule) (ox0 : Own) (ox5 : Own) (hox5 : okApp ox5 = true) : Sim (Q37) (b37_r5 x0 x5 x6 x7 b0) (f37_r5 0 (.p (.lst ox0 (x0.map e_Srule_Rule))) (.ptr 0 0) (.p (.lst ox5 (x5.map e_Srule_Rule))) (bv x6) (iv x7) [(r_Srule_Rule b0)]) := by
  unfold b37_r5
  refine zf (f37_r5_eq ..) ?_
  refine ze ?_
  refine zo (iv (IntKind.i64.wrap (x7 + 1))) ?_
  exact zk (g37_l4_to (x0) (x5) (x6) ((IntKind.i64.wrap (x7 + 1))) (b0) ox0 ox5 hox5)
noncomputable def b37_r9 (x0 : List Srule_Rule) (x5 : List Srule_Rule) (x6 : Bool) (x7 : Int) (b0 : Srule_Rule) : Option ((List Srule_Rule)) :=
 (lget x0 x7).bind fun a1 =>
 if ((a1.ID != b0.ID)) = true then
 ((lget x0 x7).bind fun a2 =>
 (lapp x5 ([a2] : List Srule_Rule)).bind fun a3 =>
 b37_r5 x0 a3 x6 x7 b0)
 else
 (b37_r5 x0 x5 x6 x7 b0)
theorem g37_r9_sim (x0 : List Srule_Rule) (x5 : List Srule_Rule) (x6 : Bool) (x7 : Int) (b0 : Srule_Rule) (ox0 : Own) (ox5 : Own) (hox5 : okApp ox5 = true) : Sim (Q37) (b37_r9 x0 x5 x6 x7 b0) (f37_r9 0 (.p (.lst ox0 (x0.map e_Srule_Rule))) (.ptr 0 0) (.p (.lst ox5 (x5.map e_Srule_Rule))) (bv x6) (iv x7) [(r_Srule_Rule b0)]) := by
  unfold b37_r9
  refine zf (f37_r9_eq ..) ?_
  refine ze ?_
  refine zi fun a1 ha1 => ?_
  refine zo (.cptr (k_Srule_Rule a1)) ?_ (Eq.trans (by kernel_rfl) (xidx_of (o := (shrO ox0)) (k := .i64) (n := 5) (e := e_Srule_Rule) (cs := c_Srule_Rule) (fun _ => rfl) (fun _ => rfl) (by decide) ha1))
  refine zo (.cptr [(.v (.int .i64 a1.ID)), (.v (.int .i64 a1.Priority)), (.v (.int .i64 a1.Action)), (.v (.int .i64 a1.Scope)), (.v (.string a1.Pattern))]) ?_
  refine zo (iv a1.ID) ?_
  refine zo (.ptr 0 0) ?_
  refine zo (iv b0.ID) ?_
  refine zo (bv (a1.ID != b0.ID)) ?_
  refine za ((a1.ID != b0.ID)) ?_ ?_
  · refine ze ?_
    refine zi fun a2 ha2 => ?_
    refine zo (.cptr (k_Srule_Rule a2)) ?_ (Eq.trans (by kernel_rfl) (xidx_of (o := (shrO ox0)) (k := .i64) (n := 5) (e := e_Srule_Rule) (cs := c_Srule_Rule) (fun _ => rfl) (fun _ => rfl) (by decide) ha2))
    refine zo (.p (.agg (k_Srule_Rule a2))) ?_
    refine zo (.p (.lst .ex (([a2] : List Srule_Rule).map e_Srule_Rule))) ?_
    refine zi fun a3 ha3 => ?_
    refine zo (.p (.lst .un (a3.map e_Srule_Rule))) ?_ (Eq.trans (by kernel_rfl) <| xapp_of (n := 5) (o := ox5) (o' := .ex) (e := e_Srule_Rule) (ys := ([a2] : List Srule_Rule)) (fun _ => rfl) (by decide) hox5 ha3)
    exact zk (g37_r5_sim (x0) (a3) (x6) (x7) (b0) ox0 .un rfl)
  · exact zk (g37_r5_sim (x0) (x5) (x6) (x7) (b0) ox0 ox5 hox5)
noncomputable def b37_r7 (x0 : List Srule_Rule) (x5 : List Srule_Rule) (x7 : Int) (b0 : Srule_Rule) : Option ((List Srule_Rule)) :=
 (lapp x5 ([b0] : List Srule_Rule)).bind fun a1 =>
 b37_r9 x0 a1 true x7 b0
theorem g37_r7_sim (x0 : List Srule_Rule) (x5 : List Srule_Rule) (x7 : Int) (b0 : Srule_Rule) (ox0 : Own) (ox5 : Own) (hox5 : okApp ox5 = true) : Sim (Q37) (b37_r7 x0 x5 x7 b0) (f37_r7 0 (.p (.lst ox0 (x0.map e_Srule_Rule))) (.ptr 0 0) (.p (.lst ox5 (x5.map e_Srule_Rule))) (iv x7) [(r_Srule_Rule b0)]) := by
  unfold b37_r7
  refine zf (f37_r7_eq ..) ?_
  refine ze ?_
  refine zo (.p (.agg (k_Srule_Rule b0))) ?_
  refine zo (.p (.lst .ex (([b0] : List Srule_Rule).map e_Srule_Rule))) ?_
  refine zi fun a1 ha1 => ?_
  refine zo (.p (.lst .un (a1.map e_Srule_Rule))) ?_ (Eq.trans (by kernel_rfl) <| xapp_of (n := 5) (o := ox5) (o' := .ex) (e := e_Srule_Rule) (ys := ([b0] : List Srule_Rule)) (fun _ => rfl) (by decide) hox5 ha1)
  refine ze ?_
  exact zk (g37_r9_sim (x0) (a1) (true) (x7) (b0) ox0 .un rfl)
noncomputable def b37_r6 (x0 : List Srule_Rule) (x5 : List Srule_Rule) (x6 : Bool) (x7 : Int) (b0 : Srule_Rule) : Option ((List Srule_Rule)) :=
 if ((!x6)) = true then
 ((lget x0 x7).bind fun a1 =>
 if ((decide (b0.ID ≤ a1.ID))) = true then
 (b37_r7 x0 x5 x7 b0)
 else
 (b37_r9 x0 x5 x6 x7 b0))
 else
 (b37_r9 x0 x5 x6 x7 b0)
theorem g37_r6_sim (x0 : List Srule_Rule) (x5 : List Srule_Rule) (x6 : Bool) (x7 : Int) (b0 : Srule_Rule) (ox0 : Own) (ox5 : Own) (hox5 : okApp ox5 = true) : Sim (Q37) (b37_r6 x0 x5 x6 x7 b0) (f37_r6 0 (.p (.lst ox0 (x0.map e_Srule_Rule))) (.ptr 0 0) (.p (.lst ox5 (x5.map e_Srule_Rule))) (bv x6) (iv x7) [(r_Srule_Rule b0)]) := by
  unfold b37_r6
  refine zf (f37_r6_eq ..) ?_
  refine ze ?_
  refine zo (bv (!x6)) ?_
  refine za ((!x6)) ?_ ?_
  · refine zi fun a1 ha1 => ?_
    refine zo (.cptr (k_Srule_Rule a1)) ?_ (Eq.trans (by kernel_rfl) (xidx_of (o := (shrO ox0)) (k := .i64) (n := 5) (e := e_Srule_Rule) (cs := c_Srule_Rule) (fun _ => rfl) (fun _ => rfl) (by decide) ha1))
    refine zo (.cptr [(.v (.int .i64 a1.ID)), (.v (.int .i64 a1.Priority)), (.v (.int .i64 a1.Action)), (.v (.int .i64 a1.Scope)), (.v (.string a1.Pattern))]) ?_
    refine zo (iv a1.ID) ?_
    refine zo (.ptr 0 0) ?_
    refine zo (iv b0.ID) ?_
    refine zo (bv (decide (b0.ID ≤ a1.ID))) ?_
    refine za ((decide (b0.ID ≤ a1.ID))) ?_ ?_
    · exact zk (g37_r7_sim (x0) (x5) (x7) (b0) ox0 ox5 hox5)
    · exact zk (g37_r9_sim (x0) (x5) (x6) (x7) (b0) ox0 ox5 hox5)
  · exact zk (g37_r9_sim (x0) (x5) (x6) (x7) (b0) ox0 ox5 hox5)
noncomputable def b37_r13 (x5 : List Srule_Rule) : Option ((List Srule_Rule)) :=
 some (x5)
theorem g37_r13_sim (x5 : List Srule_Rule) (ox5 : Own) (hox5 : okApp ox5 = true) : Sim (Q37) (b37_r13 x5) (f37_r13 0 (.p (.lst ox5 (x5.map e_Srule_Rule))) []) := by
  unfold b37_r13
  refine zf (f37_r13_eq ..) ?_
  refine ze ?_
  exact zr ((.p (.lst .sh (x5.map e_Srule_Rule))), []) ⟨_, rfl⟩
noncomputable def b37_r11 (x5 : List Srule_Rule) (x6 : Bool) (b0 : Srule_Rule) : Option ((List Srule_Rule)) :=
 if ((!x6)) = true then
 ((lapp x5 ([b0] : List Srule_Rule)).bind fun a1 =>
 b37_r13 a1)
 else
 (b37_r13 x5)
theorem g37_r11_sim (x5 : List Srule_Rule) (x6 : Bool) (b0 : Srule_Rule) (ox5 : Own) (hox5 : okApp ox5 = true) : Sim (Q37) (b37_r11 x5 x6 b0) (f37_r11 0 (.ptr 0 0) (.p (.lst ox5 (x5.map e_Srule_Rule))) (bv x6) [(r_Srule_Rule b0)]) := by
  unfold b37_r11
  refine zf (f37_r11_eq ..) ?_
  refine ze ?_
  refine zo (bv (!x6)) ?_
  refine za ((!x6)) ?_ ?_
  · refine ze ?_
    refine zo (.p (.agg (k_Srule_Rule b0))) ?_
    refine zo (.p (.lst .ex (([b0] : List Srule_Rule).map e_Srule_Rule))) ?_
    refine zi fun a1 ha1 => ?_
    refine zo (.p (.lst .un (a1.map e_Srule_Rule))) ?_ (Eq.trans (by kernel_rfl) <| xapp_of (n := 5) (o := ox5) (o' := .ex) (e := e_Srule_Rule) (ys := ([b0] : List Srule_Rule)) (fun _ => rfl) (by decide) hox5 ha1)
    exact zk (g37_r13_sim (a1) .un rfl)
  · exact zk (g37_r13_sim (x5) ox5 hox5)
noncomputable def b37_l4 (x0 : List Srule_Rule) (x5 : List Srule_Rule) (x6 : Bool) (x7 : Int) (b0 : Srule_Rule) : Option ((List Srule_Rule)) :=
 if ((decide (x7 < (x0.length : Int)))) = true then
 (b37_r6 x0 x5 x6 x7 b0)
 else
 (b37_r11 x5 x6 b0)
theorem g37_l4_sim (x0 : List Srule_Rule) (x5 : List Srule_Rule) (x6 : Bool) (x7 : Int) (b0 : Srule_Rule) (ox0 : Own) (ox5 : Own) (hox5 : okApp ox5 = true) : Sim (Q37) (b37_l4 x0 x5 x6 x7 b0) (f37_l4 0 (.p (.lst ox0 (x0.map e_Srule_Rule))) (.ptr 0 0) (.p (.lst ox5 (x5.map e_Srule_Rule))) (bv x6) (iv x7) [(r_Srule_Rule b0)]) := by
  unfold b37_l4
  refine zf (f37_l4_eq ..) ?_
  refine ze ?_
  refine zo (iv (x0.length : Int)) ?_ (Eq.trans (by kernel_rfl) (xlen_of (P := PP) (t := 34) (d := 69) (by kernel_rfl) e_Srule_Rule (shrO ox0) x0))
  refine zo (bv (decide (x7 < (x0.length : Int)))) ?_
  refine za ((decide (x7 < (x0.length : Int)))) ?_ ?_
  · exact zk (g37_r6_sim (x0) (x5) (x6) (x7) (b0) ox0 ox5 hox5)
  · exact zk (g37_r11_sim (x5) (x6) (b0) ox5 hox5)
theorem g37_l4_of (x0 : List Srule_Rule) (x5 : List Srule_Rule) (x6 : Bool) (x7 : Int) (b0 : Srule_Rule) {r} (h : b37_l4 x0 x5 x6 x7 b0 = some r) : g37_l4 x0 x5 x6 x7 b0 = some r :=
  pick_of (fun _ _ ha hb => RRun.uniq (Q37_u) (ha .ex .ex rfl) (hb .ex .ex rfl)) (fun ox0 ox5 hox5 => g37_l4_sim x0 x5 x6 x7 b0 ox0 ox5 hox5 r h)
/-! "(colander/rule.Set).Rule": g20 -/
noncomputable def b20 (x0 : Srule_Set) (x1 : Int) : Option (Srule_Rule × Bool) :=
 g20_l2 x1 x0.Rules ((x0.Rules.length : Int)) 0
theorem g20_sim (x0 : Srule_Set) (x1 : Int) (ox0_Rules : Own) : Sim (Q20) (b20 x0 x1) (EE 20 [(.p (.agg (k_Srule_Set x0 ox0_Rules))), (iv x1)] []) := by
  unfold b20
  refine zf (f20_eq ..) ?_
  refine ze ?_
  refine zx (.ptr 0 0) [(r_Srule_Set x0 ox0_Rules)] ?_
  refine zz (.ptr 1 0) [(r_Srule_Set x0 ox0_Rules), (r_Srule_Rule (Srule_Rule.mk 0 0 0 0 (ByteArray.mk #[])))] ?_
  refine ze ?_
  refine zo (.ptr 0 4) ?_
  refine zo (.p (.lst (shrO ox0_Rules) (x0.Rules.map e_Srule_Rule))) ?_
  refine zo (iv (x0.Rules.length : Int)) ?_ (Eq.trans (by kernel_rfl) (xlen_of (P := PP) (t := 22) (d := 43) (by kernel_rfl) e_Srule_Rule (shrO ox0_Rules) x0.Rules))
  exact zk (g20_l2_to (x1) (x0.Rules) ((x0.Rules.length : Int)) (0) (x0) ((Srule_Rule.mk 0 0 0 0 (ByteArray.mk #[]))) (shrO ox0_Rules) ox0_Rules)
theorem g20_of (x0 : Srule_Set) (x1 : Int) {r} (h : b20 x0 x1 = some r) : g20 x0 x1 = some r :=
  pick_of (fun _ _ ha hb => RRun.uniq (Q20_u) (ha .ex) (hb .ex)) (fun ox0_Rules => g20_sim x0 x1 ox0_Rules r h)
noncomputable def b20_r6 (x1 : Int) (x9 : List Srule_Rule) (x10 : Int) (x11 : Int) : Option (Srule_Rule × Bool) :=
 g20_l2 x1 x9 x10 ((IntKind.i64.wrap (x11 + 1)))
theorem g20_r6_sim (x1 : Int) (x9 : List Srule_Rule) (x10 : Int) (x11 : Int) (b0 : Srule_Set) (b1 : Srule_Rule) (ox9 : Own) (ob0_Rules : Own) : Sim (Q20) (b20_r6 x1 x9 x10 x11) (f20_r6 0 (iv x1) (.ptr 1 0) (.p (.lst ox9 (x9.map e_Srule_Rule))) (iv x10) (iv x11) [(r_Srule_Set b0 ob0_Rules), (r_Srule_Rule b1)]) := by
  unfold b20_r6
  refine zf (f20_r6_eq ..) ?_
  refine ze ?_
  refine zo (iv (IntKind.i64.wrap (x11 + 1))) ?_
  exact zk (g20_l2_to (x1) (x9) (x10) ((IntKind.i64.wrap (x11 + 1))) (b0) (b1) ox9 ob0_Rules)
noncomputable def b20_r3 (x1 : Int) (x9 : List Srule_Rule) (x10 : Int) (x11 : Int) : Option (Srule_Rule × Bool) :=
 (lget x9 x11).bind fun a1 =>
 if ((a1.ID == x1)) = true then
 (some (a1, true))
 else
 (b20_r6 x1 x9 x10 x11)
theorem g20_r3_sim (x1 : Int) (x9 : List Srule_Rule) (x10 : Int) (x11 : Int) (b0 : Srule_Set) (b1 : Srule_Rule) (ox9 : Own) (ob0_Rules : Own) : Sim (Q20) (b20_r3 x1 x9 x10 x11) (f20_r3 0 (iv x1) (.ptr 1 0) (.p (.lst ox9 (x9.map e_Srule_Rule))) (iv x10) (iv x11) [(r_Srule_Set b0 ob0_Rules), (r_Srule_Rule b1)]) := by
  unfold b20_r3
  refine zf (f20_r3_eq ..) ?_
  refine ze ?_
  refine zi fun a1 ha1 => ?_
  refine zo (.cptr (k_Srule_Rule a1)) ?_ (Eq.trans (by kernel_rfl) (xidx_of (o := ox9) (k := .i64) (n := 5) (e := e_Srule_Rule) (cs := c_Srule_Rule) (fun _ => rfl) (fun _ => rfl) (by decide) ha1))
  refine zo (.p (.agg (k_Srule_Rule a1))) ?_
  refine zz (.ptr 2 0) [(r_Srule_Set b0 ob0_Rules), (r_Srule_Rule b1), (r_Srule_Rule (Srule_Rule.mk 0 0 0 0 (ByteArray.mk #[])))] ?_
  refine zt [(r_Srule_Set b0 ob0_Rules), (r_Srule_Rule b1), (r_Srule_Rule a1)] ?_
  refine ze ?_
  refine zo (.ptr 2 0) ?_
  refine zo (iv a1.ID) ?_
  refine zo (bv (a1.ID == x1)) ?_
  refine za ((a1.ID == x1)) ?_ ?_
  · refine ze ?_
    refine zo (.p (.agg (k_Srule_Rule a1))) ?_
    refine zt [(r_Srule_Set b0 ob0_Rules), (r_Srule_Rule a1), (r_Srule_Rule a1)] ?_
    exact zr ((.p (.tup [(.agg (k_Srule_Rule a1)), (.v (.bool true))])), [(r_Srule_Set b0 ob0_Rules), (r_Srule_Rule a1), (r_Srule_Rule a1)]) ⟨_, rfl⟩
  · exact zk (g20_r6_sim (x1) (x9) (x10) (x11) (b0) (b1) ox9 ob0_Rules)
noncomputable def b20_r7  : Option (Srule_Rule × Bool) :=
 some ((Srule_Rule.mk 0 0 0 0 (ByteArray.mk #[])), false)
theorem g20_r7_sim (b0 : Srule_Set) (b1 : Srule_Rule) (ob0_Rules : Own) : Sim (Q20) (b20_r7) (f20_r7 0 (.ptr 1 0) [(r_Srule_Set b0 ob0_Rules), (r_Srule_Rule b1)]) := by
  unfold b20_r7
  refine zf (f20_r7_eq ..) ?_
  refine ze ?_
  refine zo (.p (.agg (k_Srule_Rule (Srule_Rule.mk 0 0 0 0 (ByteArray.mk #[]))))) ?_
  refine zt [(r_Srule_Set b0 ob0_Rules), (r_Srule_Rule (Srule_Rule.mk 0 0 0 0 (ByteArray.mk #[])))] ?_
  exact zr ((.p (.tup [(.agg (k_Srule_Rule (Srule_Rule.mk 0 0 0 0 (ByteArray.mk #[])))), (.v (.bool false))])), [(r_Srule_Set b0 ob0_Rules), (r_Srule_Rule (Srule_Rule.mk 0 0 0 0 (ByteArray.mk #[])))]) ⟨_, rfl⟩
noncomputable def b20_l2 (x1 : Int) (x9 : List Srule_Rule) (x10 : Int) (x11 : Int) : Option (Srule_Rule × Bool) :=
 if ((decide (x11 < x10))) = true then
 (b20_r3 x1 x9 x10 x11)
 else
 (b20_r7)
theorem g20_l2_sim (x1 : Int) (x9 : List Srule_Rule) (x10 : Int) (x11 : Int) (b0 : Srule_Set) (b1 : Srule_Rule) (ox9 : Own) (ob0_Rules : Own) : Sim (Q20) (b20_l2 x1 x9 x10 x11) (f20_l2 0 (iv x1) (.ptr 1 0) (.p (.lst ox9 (x9.map e_Srule_Rule))) (iv x10) (iv x11) [(r_Srule_Set b0 ob0_Rules), (r_Srule_Rule b1)]) := by
  unfold b20_l2
  refine zf (f20_l2_eq ..) ?_
  refine ze ?_
  refine zo (bv (decide (x11 < x10))) ?_
  refine za ((decide (x11 < x10))) ?_ ?_
  · exact zk (g20_r3_sim (x1) (x9) (x10) (x11) (b0) (b1) ox9 ob0_Rules)
  · exact zk (g20_r7_sim (b0) (b1) ob0_Rules)
theorem g20_l2_of (x1 : Int) (x9 : List Srule_Rule) (x10 : Int) (x11 : Int) {r} (h : b20_l2 x1 x9 x10 x11 = some r) : g20_l2 x1 x9 x10 x11 = some r :=
  pick_of (fun _ _ ha hb => RRun.uniq (Q20_u) (ha default default .ex .ex) (hb default default .ex .ex)) (fun b0 b1 ox9 ob0_Rules => g20_l2_sim x1 x9 x10 x11 b0 b1 ox9 ob0_Rules r h)
/-! "colander/colanderlaw07.RuleDrops": g7 -/
noncomputable def b7_r4  : Option (Bool) :=
 some (true)
theorem g7_r4_sim  : Sim (Q7) (b7_r4) (f7_r4 0  []) := by
  unfold b7_r4
  refine zf (f7_r4_eq ..) ?_
  refine ze ?_
  exact zr ((bv true), []) ⟨_, rfl⟩
noncomputable def b7_r18 (x11 : Bool) (x13 : Int) (x15 : Bool) (x17 : Int) (x18 : Int) (b1 : Srule_Rule) (b4 : Srule_Rule) (b5 : Srule_Set) : Option (Bool) :=
 if (x11) = true then
 (if (((b4.ID == b1.ID) && ((b4.Priority == b1.Priority) && ((b4.Action == b1.Action) && ((b4.Scope == b1.Scope) && ((seq b4.Pattern b1.Pattern) && true)))))) = true then
 (if ((x13 == 0)) = true then
 (if ((!x15)) = true then
 (if ((x17 == 32)) = true then
 (some (((b5.Rules.length : Int) == x18)))
 else
 (some (false)))
 else
 (some (false)))
 else
 (some (false)))
 else
 (some (false)))
 else
 (some (false))
theorem g7_r18_sim (x11 : Bool) (x13 : Int) (x15 : Bool) (x17 : Int) (x18 : Int) (b0 : Srule_Set) (b1 : Srule_Rule) (b2_Default : Int) (b2_Closed : Int) (b2_Fuel : Int) (b2_Stack : Int) (b2_Put : List Srule_Rule) (b2_Drop : List Int) (b3 : Srule_Set) (b4 : Srule_Rule) (b5 : Srule_Set) (ob0_Rules : Own) (ob2_Put : Own) (ob2_Drop : Own) (ob3_Rules : Own) (ob5_Rules : Own) (hob2_Put : okApp ob2_Put = true) (hob2_Drop : okApp ob2_Drop = true) : Sim (Q7) (b7_r18 x11 x13 x15 x17 x18 b1 b4 b5) (f7_r18 0 (.ptr 1 0) (.ptr 4 0) (bv x11) (.ptr 5 0) (iv x13) (bv x15) (iv x17) (iv x18) [(r_Srule_Set b0 ob0_Rules), (r_Srule_Rule b1), (r_Srule_Delta (Srule_Delta.mk b2_Default b2_Closed b2_Fuel b2_Stack b2_Put b2_Drop) ob2_Put ob2_Drop), (r_Srule_Set b3 ob3_Rules), (r_Srule_Rule b4), (r_Srule_Set b5 ob5_Rules)]) := by
  unfold b7_r18
  refine zf (f7_r18_eq ..) ?_
  refine ze ?_
  refine za (x11) ?_ ?_
  · refine zo (.p (.agg (k_Srule_Rule b4))) ?_
    refine zo (.p (.agg (k_Srule_Rule b1))) ?_
    refine zo (bv ((b4.ID == b1.ID) && ((b4.Priority == b1.Priority) && ((b4.Action == b1.Action) && ((b4.Scope == b1.Scope) && ((seq b4.Pattern b1.Pattern) && true)))))) ?_ (Eq.trans (b := xbin PP .eql 43 (.p (.agg (k_Srule_Rule b4))) (.p (.agg (k_Srule_Rule b1)))) (by kernel_rfl) (xeq_eql (by kernel_rfl) (by kernel_rfl) (by kernel_rfl) (by kernel_rfl) (by kernel_rfl)))
    refine za (((b4.ID == b1.ID) && ((b4.Priority == b1.Priority) && ((b4.Action == b1.Action) && ((b4.Scope == b1.Scope) && ((seq b4.Pattern b1.Pattern) && true)))))) ?_ ?_
    · refine zo (bv (x13 == 0)) ?_
      refine za ((x13 == 0)) ?_ ?_
      · refine zo (bv (!x15)) ?_
        refine za ((!x15)) ?_ ?_
        · refine zo (bv (x17 == 32)) ?_
          refine za ((x17 == 32)) ?_ ?_
          · refine zo (.ptr 5 4) ?_
            refine zo (.p (.lst (shrO ob5_Rules) (b5.Rules.map e_Srule_Rule))) ?_
            refine zo (iv (b5.Rules.length : Int)) ?_ (Eq.trans (by kernel_rfl) (xlen_of (P := PP) (t := 22) (d := 43) (by kernel_rfl) e_Srule_Rule (shrO ob5_Rules) b5.Rules))
            refine zo (bv ((b5.Rules.length : Int) == x18)) ?_
            exact zr ((bv ((b5.Rules.length : Int) == x18)), [(r_Srule_Set b0 ob0_Rules), (r_Srule_Rule b1), (r_Srule_Delta (Srule_Delta.mk b2_Default b2_Closed b2_Fuel b2_Stack b2_Put b2_Drop) ob2_Put ob2_Drop), (r_Srule_Set b3 ob3_Rules), (r_Srule_Rule b4), (r_Srule_Set b5 ob5_Rules)]) ⟨_, rfl⟩
          · exact zr ((bv false), [(r_Srule_Set b0 ob0_Rules), (r_Srule_Rule b1), (r_Srule_Delta (Srule_Delta.mk b2_Default b2_Closed b2_Fuel b2_Stack b2_Put b2_Drop) ob2_Put ob2_Drop), (r_Srule_Set b3 ob3_Rules), (r_Srule_Rule b4), (r_Srule_Set b5 ob5_Rules)]) ⟨_, rfl⟩
        · exact zr ((bv false), [(r_Srule_Set b0 ob0_Rules), (r_Srule_Rule b1), (r_Srule_Delta (Srule_Delta.mk b2_Default b2_Closed b2_Fuel b2_Stack b2_Put b2_Drop) ob2_Put ob2_Drop), (r_Srule_Set b3 ob3_Rules), (r_Srule_Rule b4), (r_Srule_Set b5 ob5_Rules)]) ⟨_, rfl⟩
      · exact zr ((bv false), [(r_Srule_Set b0 ob0_Rules), (r_Srule_Rule b1), (r_Srule_Delta (Srule_Delta.mk b2_Default b2_Closed b2_Fuel b2_Stack b2_Put b2_Drop) ob2_Put ob2_Drop), (r_Srule_Set b3 ob3_Rules), (r_Srule_Rule b4), (r_Srule_Set b5 ob5_Rules)]) ⟨_, rfl⟩
    · exact zr ((bv false), [(r_Srule_Set b0 ob0_Rules), (r_Srule_Rule b1), (r_Srule_Delta (Srule_Delta.mk b2_Default b2_Closed b2_Fuel b2_Stack b2_Put b2_Drop) ob2_Put ob2_Drop), (r_Srule_Set b3 ob3_Rules), (r_Srule_Rule b4), (r_Srule_Set b5 ob5_Rules)]) ⟨_, rfl⟩
  · exact zr ((bv false), [(r_Srule_Set b0 ob0_Rules), (r_Srule_Rule b1), (r_Srule_Delta (Srule_Delta.mk b2_Default b2_Closed b2_Fuel b2_Stack b2_Put b2_Drop) ob2_Put ob2_Drop), (r_Srule_Set b3 ob3_Rules), (r_Srule_Rule b4), (r_Srule_Set b5 ob5_Rules)]) ⟨_, rfl⟩
noncomputable def b7_r10 (x9 : Bool) (b0 : Srule_Set) (b1 : Srule_Rule) (b2_Default : Int) (b2_Closed : Int) (b2_Fuel : Int) (b2_Stack : Int) (b3 : Srule_Set) : Option (Bool) :=
 (g20 b3 b1.ID).bind fun r1 =>
 (g12 b3 ((Srule_Delta.mk b2_Default b2_Closed b2_Fuel b2_Stack ([] : List Srule_Rule) ([b1.ID] : List Int)))).bind fun r2 =>
 (g20 r2.1 b1.ID).bind fun r3 =>
 (g12 r2.1 ((Srule_Delta.mk b2_Default b2_Closed b2_Fuel b2_Stack ([] : List Srule_Rule) ([b1.ID] : List Int)))).bind fun r4 =>
 if (x9) = true then
 (b7_r18 r1.2 r2.2 r3.2 r4.2 ((IntKind.i64.wrap ((b0.Rules.length : Int) - 1))) b1 r1.1 r2.1)
 else
 (b7_r18 r1.2 r2.2 r3.2 r4.2 ((b0.Rules.length : Int)) b1 r1.1 r2.1)
theorem g7_r10_sim (x9 : Bool) (b0 : Srule_Set) (b1 : Srule_Rule) (b2_Default : Int) (b2_Closed : Int) (b2_Fuel : Int) (b2_Stack : Int) (b2_Put : List Srule_Rule) (b2_Drop : List Int) (b3 : Srule_Set) (ob0_Rules : Own) (ob2_Put : Own) (ob2_Drop : Own) (ob3_Rules : Own) (hob2_Put : okApp ob2_Put = true) (hob2_Drop : okApp ob2_Drop = true) : Sim (Q7) (b7_r10 x9 b0 b1 b2_Default b2_Closed b2_Fuel b2_Stack b3) (f7_r10 0 (.ptr 0 0) (.ptr 1 0) (.ptr 2 0) (.ptr 3 0) (bv x9) [(r_Srule_Set b0 ob0_Rules), (r_Srule_Rule b1), (r_Srule_Delta (Srule_Delta.mk b2_Default b2_Closed b2_Fuel b2_Stack b2_Put b2_Drop) ob2_Put ob2_Drop), (r_Srule_Set b3 ob3_Rules)]) := by
  unfold b7_r10
  refine zf (f7_r10_eq ..) ?_
  refine ze ?_
  refine zo (.p (.agg (k_Srule_Set b3 (shrO ob3_Rules)))) ?_
  refine zo (.ptr 1 0) ?_
  refine zo (iv b1.ID) ?_
  refine zi fun r1 hr1 => ?_
  obtain ⟨qr1, er1, exr1, rfl⟩ := g20_to (b3) (b1.ID) .sh r1 hr1
  refine zc [] (.p (.tup [(.agg (k_Srule_Rule r1.1)), (.v (.bool r1.2))])) [(r_Srule_Set b0 ob0_Rules), (r_Srule_Rule b1), (r_Srule_Delta (Srule_Delta.mk b2_Default b2_Closed b2_Fuel b2_Stack b2_Put b2_Drop) ob2_Put ob2_Drop), (r_Srule_Set b3 ob3_Rules)] er1 ?_
  refine zo (.p (.agg (k_Srule_Rule r1.1))) ?_
  refine zo (bv r1.2) ?_
  refine zz (.ptr 4 0) [(r_Srule_Set b0 ob0_Rules), (r_Srule_Rule b1), (r_Srule_Delta (Srule_Delta.mk b2_Default b2_Closed b2_Fuel b2_Stack b2_Put b2_Drop) ob2_Put ob2_Drop), (r_Srule_Set b3 ob3_Rules), (r_Srule_Rule (Srule_Rule.mk 0 0 0 0 (ByteArray.mk #[])))] ?_
  refine zt [(r_Srule_Set b0 ob0_Rules), (r_Srule_Rule b1), (r_Srule_Delta (Srule_Delta.mk b2_Default b2_Closed b2_Fuel b2_Stack b2_Put b2_Drop) ob2_Put ob2_Drop), (r_Srule_Set b3 ob3_Rules), (r_Srule_Rule r1.1)] ?_
  refine ze ?_
  refine zo (.ptr 1 0) ?_
  refine zo (iv b1.ID) ?_
  refine zo (.p (.lst .ex (([b1.ID] : List Int).map (eI .i64)))) ?_
  refine zo (.ptr 2 4) ?_
  refine zt [(r_Srule_Set b0 ob0_Rules), (r_Srule_Rule b1), (r_Srule_Delta (Srule_Delta.mk b2_Default b2_Closed b2_Fuel b2_Stack ([] : List Srule_Rule) b2_Drop) .nl ob2_Drop), (r_Srule_Set b3 ob3_Rules), (r_Srule_Rule r1.1)] ?_
  refine zo (.ptr 2 5) ?_
  refine zt [(r_Srule_Set b0 ob0_Rules), (r_Srule_Rule b1), (r_Srule_Delta (Srule_Delta.mk b2_Default b2_Closed b2_Fuel b2_Stack ([] : List Srule_Rule) ([b1.ID] : List Int)) .nl .ex), (r_Srule_Set b3 ob3_Rules), (r_Srule_Rule r1.1)] ?_
  refine zg ?_
  refine ze ?_
  refine zo (.p (.agg (k_Srule_Set b3 (shrO ob3_Rules)))) ?_
  refine zo (.p (.agg (k_Srule_Delta (Srule_Delta.mk b2_Default b2_Closed b2_Fuel b2_Stack ([] : List Srule_Rule) ([b1.ID] : List Int)) .nl .ex))) ?_
  refine zi fun r2 hr2 => ?_
  obtain ⟨qr2, er2, exr2, rfl⟩ := g12_to (b3) ((Srule_Delta.mk b2_Default b2_Closed b2_Fuel b2_Stack ([] : List Srule_Rule) ([b1.ID] : List Int))) .sh .sh .sh r2 hr2
  refine zc [] (.p (.tup [(.agg (k_Srule_Set r2.1 .sh)), (.v (.int .i64 r2.2))])) [(r_Srule_Set b0 ob0_Rules), (r_Srule_Rule b1), (r_Srule_Delta (Srule_Delta.mk b2_Default b2_Closed b2_Fuel b2_Stack ([] : List Srule_Rule) ([b1.ID] : List Int)) .nl .ex), (r_Srule_Set b3 ob3_Rules), (r_Srule_Rule r1.1)] er2 ?_
  refine zo (.p (.agg (k_Srule_Set r2.1 .sh))) ?_
  refine zo (iv r2.2) ?_
  refine zz (.ptr 5 0) [(r_Srule_Set b0 ob0_Rules), (r_Srule_Rule b1), (r_Srule_Delta (Srule_Delta.mk b2_Default b2_Closed b2_Fuel b2_Stack ([] : List Srule_Rule) ([b1.ID] : List Int)) .nl .ex), (r_Srule_Set b3 ob3_Rules), (r_Srule_Rule r1.1), (r_Srule_Set (Srule_Set.mk 0 0 0 0 ([] : List Srule_Rule)) .nl)] ?_
  refine zt [(r_Srule_Set b0 ob0_Rules), (r_Srule_Rule b1), (r_Srule_Delta (Srule_Delta.mk b2_Default b2_Closed b2_Fuel b2_Stack ([] : List Srule_Rule) ([b1.ID] : List Int)) .nl .ex), (r_Srule_Set b3 ob3_Rules), (r_Srule_Rule r1.1), (r_Srule_Set r2.1 .sh)] ?_
  refine ze ?_
  refine zo (.p (.agg (k_Srule_Set r2.1 .sh))) ?_
  refine zo (.ptr 1 0) ?_
  refine zo (iv b1.ID) ?_
  refine zi fun r3 hr3 => ?_
  obtain ⟨qr3, er3, exr3, rfl⟩ := g20_to (r2.1) (b1.ID) .sh r3 hr3
  refine zc [] (.p (.tup [(.agg (k_Srule_Rule r3.1)), (.v (.bool r3.2))])) [(r_Srule_Set b0 ob0_Rules), (r_Srule_Rule b1), (r_Srule_Delta (Srule_Delta.mk b2_Default b2_Closed b2_Fuel b2_Stack ([] : List Srule_Rule) ([b1.ID] : List Int)) .nl .ex), (r_Srule_Set b3 ob3_Rules), (r_Srule_Rule r1.1), (r_Srule_Set r2.1 .sh)] er3 ?_
  refine zo (.p (.agg (k_Srule_Rule r3.1))) ?_
  refine zo (bv r3.2) ?_
  refine zz (.ptr 6 0) [(r_Srule_Set b0 ob0_Rules), (r_Srule_Rule b1), (r_Srule_Delta (Srule_Delta.mk b2_Default b2_Closed b2_Fuel b2_Stack ([] : List Srule_Rule) ([b1.ID] : List Int)) .nl .ex), (r_Srule_Set b3 ob3_Rules), (r_Srule_Rule r1.1), (r_Srule_Set r2.1 .sh), (r_Srule_Rule (Srule_Rule.mk 0 0 0 0 (ByteArray.mk #[])))] ?_
  refine zt [(r_Srule_Set b0 ob0_Rules), (r_Srule_Rule b1), (r_Srule_Delta (Srule_Delta.mk b2_Default b2_Closed b2_Fuel b2_Stack ([] : List Srule_Rule) ([b1.ID] : List Int)) .nl .ex), (r_Srule_Set b3 ob3_Rules), (r_Srule_Rule r1.1), (r_Srule_Set r2.1 .sh), (r_Srule_Rule r3.1)] ?_
  refine ze ?_
  refine zo (.p (.agg (k_Srule_Set r2.1 .sh))) ?_
  refine zo (.p (.agg (k_Srule_Delta (Srule_Delta.mk b2_Default b2_Closed b2_Fuel b2_Stack ([] : List Srule_Rule) ([b1.ID] : List Int)) .nl .ex))) ?_
  refine zi fun r4 hr4 => ?_
  obtain ⟨qr4, er4, exr4, rfl⟩ := g12_to (r2.1) ((Srule_Delta.mk b2_Default b2_Closed b2_Fuel b2_Stack ([] : List Srule_Rule) ([b1.ID] : List Int))) .sh .sh .sh r4 hr4
  refine zc [] (.p (.tup [(.agg (k_Srule_Set r4.1 .sh)), (.v (.int .i64 r4.2))])) [(r_Srule_Set b0 ob0_Rules), (r_Srule_Rule b1), (r_Srule_Delta (Srule_Delta.mk b2_Default b2_Closed b2_Fuel b2_Stack ([] : List Srule_Rule) ([b1.ID] : List Int)) .nl .ex), (r_Srule_Set b3 ob3_Rules), (r_Srule_Rule r1.1), (r_Srule_Set r2.1 .sh), (r_Srule_Rule r3.1)] er4 ?_
  refine zo (.p (.agg (k_Srule_Set r4.1 .sh))) ?_
  refine zo (iv r4.2) ?_
  refine zz (.ptr 7 0) [(r_Srule_Set b0 ob0_Rules), (r_Srule_Rule b1), (r_Srule_Delta (Srule_Delta.mk b2_Default b2_Closed b2_Fuel b2_Stack ([] : List Srule_Rule) ([b1.ID] : List Int)) .nl .ex), (r_Srule_Set b3 ob3_Rules), (r_Srule_Rule r1.1), (r_Srule_Set r2.1 .sh), (r_Srule_Rule r3.1), (r_Srule_Set (Srule_Set.mk 0 0 0 0 ([] : List Srule_Rule)) .nl)] ?_
  refine zt [(r_Srule_Set b0 ob0_Rules), (r_Srule_Rule b1), (r_Srule_Delta (Srule_Delta.mk b2_Default b2_Closed b2_Fuel b2_Stack ([] : List Srule_Rule) ([b1.ID] : List Int)) .nl .ex), (r_Srule_Set b3 ob3_Rules), (r_Srule_Rule r1.1), (r_Srule_Set r2.1 .sh), (r_Srule_Rule r3.1), (r_Srule_Set r4.1 .sh)] ?_
  refine ze ?_
  refine zo (.ptr 0 4) ?_
  refine zo (.p (.lst (shrO ob0_Rules) (b0.Rules.map e_Srule_Rule))) ?_
  refine zo (iv (b0.Rules.length : Int)) ?_ (Eq.trans (by kernel_rfl) (xlen_of (P := PP) (t := 22) (d := 43) (by kernel_rfl) e_Srule_Rule (shrO ob0_Rules) b0.Rules))
  refine ze ?_
  refine za (x9) ?_ ?_
  · refine ze ?_
    refine zo (iv (IntKind.i64.wrap ((b0.Rules.length : Int) - 1))) ?_
    exact zk (g7_r18_sim (r1.2) (r2.2) (r3.2) (r4.2) ((IntKind.i64.wrap ((b0.Rules.length : Int) - 1))) (b0) (b1) (b2_Default) (b2_Closed) (b2_Fuel) (b2_Stack) (([] : List Srule_Rule)) (([b1.ID] : List Int)) (b3) (r1.1) (r2.1) ob0_Rules .nl .ex ob3_Rules .sh rfl rfl)
  · exact zk (g7_r18_sim (r1.2) (r2.2) (r3.2) (r4.2) ((b0.Rules.length : Int)) (b0) (b1) (b2_Default) (b2_Closed) (b2_Fuel) (b2_Stack) (([] : List Srule_Rule)) (([b1.ID] : List Int)) (b3) (r1.1) (r2.1) ob0_Rules .nl .ex ob3_Rules .sh rfl rfl)
noncomputable def b7_r5 (b0 : Srule_Set) (b1 : Srule_Rule) : Option (Bool) :=
 (g12 b0 ((Srule_Delta.mk (-1) (-1) (-1) (-1) ([b1] : List Srule_Rule) ([] : List Int)))).bind fun r1 =>
 (g20 b0 b1.ID).bind fun r2 =>
 if ((r1.2 != 0)) = true then
 (if ((r1.2 == 33)) = true then
 (if ((!r2.2)) = true then
 (some (((b0.Rules.length : Int) == 16)))
 else
 (some (false)))
 else
 (some (false)))
 else
 (b7_r10 r2.2 b0 b1 ((-1)) ((-1)) ((-1)) ((-1)) r1.1)
theorem g7_r5_sim (b0 : Srule_Set) (b1 : Srule_Rule) (ob0_Rules : Own) : Sim (Q7) (b7_r5 b0 b1) (f7_r5 0 (.ptr 0 0) (.ptr 1 0) [(r_Srule_Set b0 ob0_Rules), (r_Srule_Rule b1)]) := by
  unfold b7_r5
  refine zf (f7_r5_eq ..) ?_
  refine ze ?_
  refine zo (.p (.agg (k_Srule_Rule b1))) ?_
  refine zo (.p (.lst .ex (([b1] : List Srule_Rule).map e_Srule_Rule))) ?_
  refine zo (.p (.agg (k_Srule_Delta (Srule_Delta.mk (-1) (-1) (-1) (-1) ([b1] : List Srule_Rule) ([] : List Int)) .ex .nl))) ?_
  refine zz (.ptr 2 0) [(r_Srule_Set b0 ob0_Rules), (r_Srule_Rule b1), (r_Srule_Delta (Srule_Delta.mk 0 0 0 0 ([] : List Srule_Rule) ([] : List Int)) .nl .nl)] ?_
  refine zt [(r_Srule_Set b0 ob0_Rules), (r_Srule_Rule b1), (r_Srule_Delta (Srule_Delta.mk (-1) (-1) (-1) (-1) ([b1] : List Srule_Rule) ([] : List Int)) .ex .nl)] ?_
  refine ze ?_
  refine zo (.p (.agg (k_Srule_Set b0 (shrO ob0_Rules)))) ?_
  refine zo (.p (.agg (k_Srule_Delta (Srule_Delta.mk (-1) (-1) (-1) (-1) ([b1] : List Srule_Rule) ([] : List Int)) .ex .nl))) ?_
  refine zi fun r1 hr1 => ?_
  obtain ⟨qr1, er1, exr1, rfl⟩ := g12_to (b0) ((Srule_Delta.mk (-1) (-1) (-1) (-1) ([b1] : List Srule_Rule) ([] : List Int))) .sh .sh .sh r1 hr1
  refine zc [] (.p (.tup [(.agg (k_Srule_Set r1.1 .sh)), (.v (.int .i64 r1.2))])) [(r_Srule_Set b0 ob0_Rules), (r_Srule_Rule b1), (r_Srule_Delta (Srule_Delta.mk (-1) (-1) (-1) (-1) ([b1] : List Srule_Rule) ([] : List Int)) .ex .nl)] er1 ?_
  refine zo (.p (.agg (k_Srule_Set r1.1 .sh))) ?_
  refine zo (iv r1.2) ?_
  refine zz (.ptr 3 0) [(r_Srule_Set b0 ob0_Rules), (r_Srule_Rule b1), (r_Srule_Delta (Srule_Delta.mk (-1) (-1) (-1) (-1) ([b1] : List Srule_Rule) ([] : List Int)) .ex .nl), (r_Srule_Set (Srule_Set.mk 0 0 0 0 ([] : List Srule_Rule)) .nl)] ?_
  refine zt [(r_Srule_Set b0 ob0_Rules), (r_Srule_Rule b1), (r_Srule_Delta (Srule_Delta.mk (-1) (-1) (-1) (-1) ([b1] : List Srule_Rule) ([] : List Int)) .ex .nl), (r_Srule_Set r1.1 .sh)] ?_
  refine ze ?_
  refine zo (.p (.agg (k_Srule_Set b0 (shrO ob0_Rules)))) ?_
  refine zo (.ptr 1 0) ?_
  refine zo (iv b1.ID) ?_
  refine zi fun r2 hr2 => ?_
  obtain ⟨qr2, er2, exr2, rfl⟩ := g20_to (b0) (b1.ID) .sh r2 hr2
  refine zc [] (.p (.tup [(.agg (k_Srule_Rule r2.1)), (.v (.bool r2.2))])) [(r_Srule_Set b0 ob0_Rules), (r_Srule_Rule b1), (r_Srule_Delta (Srule_Delta.mk (-1) (-1) (-1) (-1) ([b1] : List Srule_Rule) ([] : List Int)) .ex .nl), (r_Srule_Set r1.1 .sh)] er2 ?_
  refine zo (.p (.agg (k_Srule_Rule r2.1))) ?_
  refine zo (bv r2.2) ?_
  refine zz (.ptr 4 0) [(r_Srule_Set b0 ob0_Rules), (r_Srule_Rule b1), (r_Srule_Delta (Srule_Delta.mk (-1) (-1) (-1) (-1) ([b1] : List Srule_Rule) ([] : List Int)) .ex .nl), (r_Srule_Set r1.1 .sh), (r_Srule_Rule (Srule_Rule.mk 0 0 0 0 (ByteArray.mk #[])))] ?_
  refine zt [(r_Srule_Set b0 ob0_Rules), (r_Srule_Rule b1), (r_Srule_Delta (Srule_Delta.mk (-1) (-1) (-1) (-1) ([b1] : List Srule_Rule) ([] : List Int)) .ex .nl), (r_Srule_Set r1.1 .sh), (r_Srule_Rule r2.1)] ?_
  refine ze ?_
  refine zo (bv (r1.2 != 0)) ?_
  refine za ((r1.2 != 0)) ?_ ?_
  · refine ze ?_
    refine zo (bv (r1.2 == 33)) ?_
    refine za ((r1.2 == 33)) ?_ ?_
    · refine zo (bv (!r2.2)) ?_
      refine za ((!r2.2)) ?_ ?_
      · refine zo (.ptr 0 4) ?_
        refine zo (.p (.lst (shrO ob0_Rules) (b0.Rules.map e_Srule_Rule))) ?_
        refine zo (iv (b0.Rules.length : Int)) ?_ (Eq.trans (by kernel_rfl) (xlen_of (P := PP) (t := 22) (d := 43) (by kernel_rfl) e_Srule_Rule (shrO ob0_Rules) b0.Rules))
        refine zo (bv ((b0.Rules.length : Int) == 16)) ?_
        exact zr ((bv ((b0.Rules.length : Int) == 16)), [(r_Srule_Set b0 ob0_Rules), (r_Srule_Rule b1), (r_Srule_Delta (Srule_Delta.mk (-1) (-1) (-1) (-1) ([b1] : List Srule_Rule) ([] : List Int)) .ex .nl), (r_Srule_Set r1.1 .sh), (r_Srule_Rule r2.1)]) ⟨_, rfl⟩
      · exact zr ((bv false), [(r_Srule_Set b0 ob0_Rules), (r_Srule_Rule b1), (r_Srule_Delta (Srule_Delta.mk (-1) (-1) (-1) (-1) ([b1] : List Srule_Rule) ([] : List Int)) .ex .nl), (r_Srule_Set r1.1 .sh), (r_Srule_Rule r2.1)]) ⟨_, rfl⟩
    · exact zr ((bv false), [(r_Srule_Set b0 ob0_Rules), (r_Srule_Rule b1), (r_Srule_Delta (Srule_Delta.mk (-1) (-1) (-1) (-1) ([b1] : List Srule_Rule) ([] : List Int)) .ex .nl), (r_Srule_Set r1.1 .sh), (r_Srule_Rule r2.1)]) ⟨_, rfl⟩
  · exact zk (g7_r10_sim (r2.2) (b0) (b1) ((-1)) ((-1)) ((-1)) ((-1)) (([b1] : List Srule_Rule)) (([] : List Int)) (r1.1) ob0_Rules .ex .nl .sh rfl rfl)
noncomputable def b7_r3 (b0 : Srule_Set) (b1 : Srule_Rule) : Option (Bool) :=
 if ((decide (40 < (b0.Rules.length : Int)))) = true then
 (b7_r4)
 else
 ((g16 b0).bind fun r1 =>
 if ((!r1)) = true then
 (b7_r4)
 else
 ((g21 b1).bind fun r2 =>
 if ((!r2)) = true then
 (b7_r4)
 else
 (b7_r5 b0 b1)))
theorem g7_r3_sim (b0 : Srule_Set) (b1 : Srule_Rule) (ob0_Rules : Own) : Sim (Q7) (b7_r3 b0 b1) (f7_r3 0 (.ptr 0 0) (.ptr 1 0) [(r_Srule_Set b0 ob0_Rules), (r_Srule_Rule b1)]) := by
  unfold b7_r3
  refine zf (f7_r3_eq ..) ?_
  refine ze ?_
  refine zo (.ptr 0 4) ?_
  refine zo (.p (.lst (shrO ob0_Rules) (b0.Rules.map e_Srule_Rule))) ?_
  refine zo (iv (b0.Rules.length : Int)) ?_ (Eq.trans (by kernel_rfl) (xlen_of (P := PP) (t := 22) (d := 43) (by kernel_rfl) e_Srule_Rule (shrO ob0_Rules) b0.Rules))
  refine zo (bv (decide (40 < (b0.Rules.length : Int)))) ?_
  refine za ((decide (40 < (b0.Rules.length : Int)))) ?_ ?_
  · exact zk (g7_r4_sim )
  · refine zo (.p (.agg (k_Srule_Set b0 (shrO ob0_Rules)))) ?_
    refine zi fun r1 hr1 => ?_
    obtain ⟨qr1, er1, exr1, rfl⟩ := g16_to (b0) .sh r1 hr1
    refine zc [] (bv r1) [(r_Srule_Set b0 ob0_Rules), (r_Srule_Rule b1)] er1 ?_
    refine zo (bv (!r1)) ?_
    refine za ((!r1)) ?_ ?_
    · exact zk (g7_r4_sim )
    · refine zo (.p (.agg (k_Srule_Rule b1))) ?_
      refine zi fun r2 hr2 => ?_
      obtain ⟨qr2, er2, exr2, rfl⟩ := g21_to (b1) r2 hr2
      refine zc [] (bv r2) [(r_Srule_Set b0 ob0_Rules), (r_Srule_Rule b1)] er2 ?_
      refine zo (bv (!r2)) ?_
      refine za ((!r2)) ?_ ?_
      · exact zk (g7_r4_sim )
      · exact zk (g7_r5_sim (b0) (b1) ob0_Rules)
noncomputable def b7 (x0 : Srule_Set) (x1 : Srule_Rule) : Option (Bool) :=
 (g10).bind fun r1 =>
 if ((!r1)) = true then
 (some (false))
 else
 (b7_r3 x0 x1)
theorem g7_sim (x0 : Srule_Set) (x1 : Srule_Rule) (ox0_Rules : Own) : Sim (Q7) (b7 x0 x1) (EE 7 [(.p (.agg (k_Srule_Set x0 ox0_Rules))), (.p (.agg (k_Srule_Rule x1)))] []) := by
  unfold b7
  refine zf (f7_eq ..) ?_
  refine ze ?_
  refine zx (.ptr 0 0) [(r_Srule_Set x0 ox0_Rules)] ?_
  refine zx (.ptr 1 0) [(r_Srule_Set x0 ox0_Rules), (r_Srule_Rule x1)] ?_
  refine ze ?_
  refine zi fun r1 hr1 => ?_
  obtain ⟨qr1, er1, exr1, rfl⟩ := g10_to  r1 hr1
  refine zc [] (bv r1) [(r_Srule_Set x0 ox0_Rules), (r_Srule_Rule x1)] er1 ?_
  refine zo (bv (!r1)) ?_
  refine za ((!r1)) ?_ ?_
  · refine ze ?_
    exact zr ((bv false), [(r_Srule_Set x0 ox0_Rules), (r_Srule_Rule x1)]) ⟨_, rfl⟩
  · exact zk (g7_r3_sim (x0) (x1) ox0_Rules)
theorem g7_of (x0 : Srule_Set) (x1 : Srule_Rule) {r} (h : b7 x0 x1 = some r) : g7 x0 x1 = some r :=
  pick_of (fun _ _ ha hb => RRun.uniq (Q7_u) (ha .ex) (hb .ex)) (fun ox0_Rules => g7_sim x0 x1 ox0_Rules r h)
/-! "colander/colanderlaw07.RuleDiffs": g8 -/
noncomputable def b8_r4  : Option (Bool) :=
 some (true)
theorem g8_r4_sim  : Sim (Q8) (b8_r4) (f8_r4 0  []) := by
  unfold b8_r4
  refine zf (f8_r4_eq ..) ?_
  refine ze ?_
  exact zr ((bv true), []) ⟨_, rfl⟩
noncomputable def b8_r7 (x6 : Int) (b2 : Srule_Delta) : Option (Bool) :=
 if ((x6 == 10)) = true then
 (some (((IntKind.i64.wrap ((b2.Put.length : Int) + (b2.Drop.length : Int))) == 0)))
 else
 (some (false))
theorem g8_r7_sim (x6 : Int) (b0 : Srule_Set) (b1 : Srule_Set) (b2 : Srule_Delta) (ob0_Rules : Own) (ob1_Rules : Own) (ob2_Put : Own) (ob2_Drop : Own) : Sim (Q8) (b8_r7 x6 b2) (f8_r7 0 (.ptr 2 0) (iv x6) [(r_Srule_Set b0 ob0_Rules), (r_Srule_Set b1 ob1_Rules), (r_Srule_Delta b2 ob2_Put ob2_Drop)]) := by
  unfold b8_r7
  refine zf (f8_r7_eq ..) ?_
  refine ze ?_
  refine zo (bv (x6 == 10)) ?_
  refine za ((x6 == 10)) ?_ ?_
  · refine zo (.ptr 2 4) ?_
    refine zo (.p (.lst (shrO ob2_Put) (b2.Put.map e_Srule_Rule))) ?_
    refine zo (iv (b2.Put.length : Int)) ?_ (Eq.trans (by kernel_rfl) (xlen_of (P := PP) (t := 22) (d := 43) (by kernel_rfl) e_Srule_Rule (shrO ob2_Put) b2.Put))
    refine zo (.ptr 2 5) ?_
    refine zo (.p (.lst (shrO ob2_Drop) (b2.Drop.map (eI .i64)))) ?_
    refine zo (iv (b2.Drop.length : Int)) ?_ (Eq.trans (by kernel_rfl) (xlen_of (P := PP) (t := 25) (d := 3) (by kernel_rfl) (eI .i64) (shrO ob2_Drop) b2.Drop))
    refine zo (iv (IntKind.i64.wrap ((b2.Put.length : Int) + (b2.Drop.length : Int)))) ?_
    refine zo (bv ((IntKind.i64.wrap ((b2.Put.length : Int) + (b2.Drop.length : Int))) == 0)) ?_
    exact zr ((bv ((IntKind.i64.wrap ((b2.Put.length : Int) + (b2.Drop.length : Int))) == 0)), [(r_Srule_Set b0 ob0_Rules), (r_Srule_Set b1 ob1_Rules), (r_Srule_Delta b2 ob2_Put ob2_Drop)]) ⟨_, rfl⟩
  · exact zr ((bv false), [(r_Srule_Set b0 ob0_Rules), (r_Srule_Set b1 ob1_Rules), (r_Srule_Delta b2 ob2_Put ob2_Drop)]) ⟨_, rfl⟩
noncomputable def b8_r10  : Option (Bool) :=
 some (false)
theorem g8_r10_sim  : Sim (Q8) (b8_r10) (f8_r10 0  []) := by
  unfold b8_r10
  refine zf (f8_r10_eq ..) ?_
  refine ze ?_
  exact zr ((bv false), []) ⟨_, rfl⟩
noncomputable def b8_r11 (b0 : Srule_Set) (b1 : Srule_Set) (b2 : Srule_Delta) : Option (Bool) :=
 g8_l13 0 b2.Put ((b2.Put.length : Int)) 0 b0 b1 b2
theorem g8_r11_sim (b0 : Srule_Set) (b1 : Srule_Set) (b2 : Srule_Delta) (ob0_Rules : Own) (ob1_Rules : Own) (ob2_Put : Own) (ob2_Drop : Own) : Sim (Q8) (b8_r11 b0 b1 b2) (f8_r11 0 (.ptr 0 0) (.ptr 1 0) (.ptr 2 0) [(r_Srule_Set b0 ob0_Rules), (r_Srule_Set b1 ob1_Rules), (r_Srule_Delta b2 ob2_Put ob2_Drop)]) := by
  unfold b8_r11
  refine zf (f8_r11_eq ..) ?_
  refine ze ?_
  refine ze ?_
  refine zo (.ptr 2 4) ?_
  refine zo (.p (.lst (shrO ob2_Put) (b2.Put.map e_Srule_Rule))) ?_
  refine zo (iv (b2.Put.length : Int)) ?_ (Eq.trans (by kernel_rfl) (xlen_of (P := PP) (t := 22) (d := 43) (by kernel_rfl) e_Srule_Rule (shrO ob2_Put) b2.Put))
  exact zk (g8_l13_to (0) (b2.Put) ((b2.Put.length : Int)) (0) (b0) (b1) (b2) (shrO ob2_Put) ob0_Rules ob1_Rules ob2_Put ob2_Drop)
noncomputable def b8_r8 (x6 : Int) (b0 : Srule_Set) (b1 : Srule_Set) (b2 : Srule_Delta) : Option (Bool) :=
 (g12 b0 b2).bind fun r1 =>
 if ((x6 != 0)) = true then
 (b8_r10)
 else
 (if ((r1.2 != 0)) = true then
 (b8_r10)
 else
 ((g14 r1.1).bind fun r2 =>
 (g14 b1).bind fun r3 =>
 (g13 r2 r3).bind fun r4 =>
 if ((!r4)) = true then
 (b8_r10)
 else
 (b8_r11 b0 b1 b2)))
theorem g8_r8_sim (x6 : Int) (b0 : Srule_Set) (b1 : Srule_Set) (b2 : Srule_Delta) (ob0_Rules : Own) (ob1_Rules : Own) (ob2_Put : Own) (ob2_Drop : Own) : Sim (Q8) (b8_r8 x6 b0 b1 b2) (f8_r8 0 (.ptr 0 0) (.ptr 1 0) (.ptr 2 0) (iv x6) [(r_Srule_Set b0 ob0_Rules), (r_Srule_Set b1 ob1_Rules), (r_Srule_Delta b2 ob2_Put ob2_Drop)]) := by
  unfold b8_r8
  refine zf (f8_r8_eq ..) ?_
  refine ze ?_
  refine zo (.p (.agg (k_Srule_Set b0 (shrO ob0_Rules)))) ?_
  refine zo (.p (.agg (k_Srule_Delta b2 (shrO ob2_Put) (shrO ob2_Drop)))) ?_
  refine zi fun r1 hr1 => ?_
  obtain ⟨qr1, er1, exr1, rfl⟩ := g12_to (b0) (b2) .sh .sh .sh r1 hr1
  refine zc [] (.p (.tup [(.agg (k_Srule_Set r1.1 .sh)), (.v (.int .i64 r1.2))])) [(r_Srule_Set b0 ob0_Rules), (r_Srule_Set b1 ob1_Rules), (r_Srule_Delta b2 ob2_Put ob2_Drop)] er1 ?_
  refine zo (.p (.agg (k_Srule_Set r1.1 .sh))) ?_
  refine zo (iv r1.2) ?_
  refine zz (.ptr 3 0) [(r_Srule_Set b0 ob0_Rules), (r_Srule_Set b1 ob1_Rules), (r_Srule_Delta b2 ob2_Put ob2_Drop), (r_Srule_Set (Srule_Set.mk 0 0 0 0 ([] : List Srule_Rule)) .nl)] ?_
  refine zt [(r_Srule_Set b0 ob0_Rules), (r_Srule_Set b1 ob1_Rules), (r_Srule_Delta b2 ob2_Put ob2_Drop), (r_Srule_Set r1.1 .sh)] ?_
  refine ze ?_
  refine zo (bv (x6 != 0)) ?_
  refine za ((x6 != 0)) ?_ ?_
  · refine zg ?_
    exact zk (g8_r10_sim )
  · refine zo (bv (r1.2 != 0)) ?_
    refine za ((r1.2 != 0)) ?_ ?_
    · refine zg ?_
      exact zk (g8_r10_sim )
    · refine zo (.p (.agg (k_Srule_Set r1.1 .sh))) ?_
      refine zi fun r2 hr2 => ?_
      obtain ⟨qr2, er2, exr2, rfl⟩ := g14_to (r1.1) .sh r2 hr2
      refine zc [] (.p (.agg (k_Scolanderref07_Set r2 .sh))) [(r_Srule_Set b0 ob0_Rules), (r_Srule_Set b1 ob1_Rules), (r_Srule_Delta b2 ob2_Put ob2_Drop), (r_Srule_Set r1.1 .sh)] er2 ?_
      refine zo (.p (.agg (k_Srule_Set b1 (shrO ob1_Rules)))) ?_
      refine zi fun r3 hr3 => ?_
      obtain ⟨qr3, er3, exr3, rfl⟩ := g14_to (b1) .sh r3 hr3
      refine zc [] (.p (.agg (k_Scolanderref07_Set r3 .sh))) [(r_Srule_Set b0 ob0_Rules), (r_Srule_Set b1 ob1_Rules), (r_Srule_Delta b2 ob2_Put ob2_Drop), (r_Srule_Set r1.1 .sh)] er3 ?_
      refine zi fun r4 hr4 => ?_
      obtain ⟨qr4, er4, exr4, rfl⟩ := g13_to (r2) (r3) .sh .sh r4 hr4
      refine zc [] (bv r4) [(r_Srule_Set b0 ob0_Rules), (r_Srule_Set b1 ob1_Rules), (r_Srule_Delta b2 ob2_Put ob2_Drop), (r_Srule_Set r1.1 .sh)] er4 ?_
      refine zo (bv (!r4)) ?_
      refine zg ?_
      refine za ((!r4)) ?_ ?_
      · exact zk (g8_r10_sim )
      · exact zk (g8_r11_sim (b0) (b1) (b2) ob0_Rules ob1_Rules ob2_Put ob2_Drop)
noncomputable def b8_r5 (b0 : Srule_Set) (b1 : Srule_Set) : Option (Bool) :=
 (g22 b0 b1).bind fun r1 =>
 (g14 b0).bind fun r2 =>
 (g19 r2).bind fun r3 =>
 if ((!r3)) = true then
 (b8_r7 r1.2 r1.1)
 else
 ((g14 b1).bind fun r4 =>
 (g19 r4).bind fun r5 =>
 if ((!r5)) = true then
 (b8_r7 r1.2 r1.1)
 else
 (b8_r8 r1.2 b0 b1 r1.1))
theorem g8_r5_sim (b0 : Srule_Set) (b1 : Srule_Set) (ob0_Rules : Own) (ob1_Rules : Own) : Sim (Q8) (b8_r5 b0 b1) (f8_r5 0 (.ptr 0 0) (.ptr 1 0) [(r_Srule_Set b0 ob0_Rules), (r_Srule_Set b1 ob1_Rules)]) := by
  unfold b8_r5
  refine zf (f8_r5_eq ..) ?_
  refine ze ?_
  refine zo (.p (.agg (k_Srule_Set b0 (shrO ob0_Rules)))) ?_
  refine zo (.p (.agg (k_Srule_Set b1 (shrO ob1_Rules)))) ?_
  refine zi fun r1 hr1 => ?_
  obtain ⟨qr1, er1, exr1, rfl⟩ := g22_to (b0) (b1) .sh .sh r1 hr1
  refine zc [] (.p (.tup [(.agg (k_Srule_Delta r1.1 .sh .sh)), (.v (.int .i64 r1.2))])) [(r_Srule_Set b0 ob0_Rules), (r_Srule_Set b1 ob1_Rules)] er1 ?_
  refine zo (.p (.agg (k_Srule_Delta r1.1 .sh .sh))) ?_
  refine zo (iv r1.2) ?_
  refine zz (.ptr 2 0) [(r_Srule_Set b0 ob0_Rules), (r_Srule_Set b1 ob1_Rules), (r_Srule_Delta (Srule_Delta.mk 0 0 0 0 ([] : List Srule_Rule) ([] : List Int)) .nl .nl)] ?_
  refine zt [(r_Srule_Set b0 ob0_Rules), (r_Srule_Set b1 ob1_Rules), (r_Srule_Delta r1.1 .sh .sh)] ?_
  refine ze ?_
  refine zo (.p (.agg (k_Srule_Set b0 (shrO ob0_Rules)))) ?_
  refine zi fun r2 hr2 => ?_
  obtain ⟨qr2, er2, exr2, rfl⟩ := g14_to (b0) .sh r2 hr2
  refine zc [] (.p (.agg (k_Scolanderref07_Set r2 .sh))) [(r_Srule_Set b0 ob0_Rules), (r_Srule_Set b1 ob1_Rules), (r_Srule_Delta r1.1 .sh .sh)] er2 ?_
  refine zi fun r3 hr3 => ?_
  obtain ⟨qr3, er3, exr3, rfl⟩ := g19_to (r2) .sh r3 hr3
  refine zc [] (bv r3) [(r_Srule_Set b0 ob0_Rules), (r_Srule_Set b1 ob1_Rules), (r_Srule_Delta r1.1 .sh .sh)] er3 ?_
  refine zo (bv (!r3)) ?_
  refine za ((!r3)) ?_ ?_
  · exact zk (g8_r7_sim (r1.2) (b0) (b1) (r1.1) ob0_Rules ob1_Rules .sh .sh)
  · refine zo (.p (.agg (k_Srule_Set b1 (shrO ob1_Rules)))) ?_
    refine zi fun r4 hr4 => ?_
    obtain ⟨qr4, er4, exr4, rfl⟩ := g14_to (b1) .sh r4 hr4
    refine zc [] (.p (.agg (k_Scolanderref07_Set r4 .sh))) [(r_Srule_Set b0 ob0_Rules), (r_Srule_Set b1 ob1_Rules), (r_Srule_Delta r1.1 .sh .sh)] er4 ?_
    refine zi fun r5 hr5 => ?_
    obtain ⟨qr5, er5, exr5, rfl⟩ := g19_to (r4) .sh r5 hr5
    refine zc [] (bv r5) [(r_Srule_Set b0 ob0_Rules), (r_Srule_Set b1 ob1_Rules), (r_Srule_Delta r1.1 .sh .sh)] er5 ?_
    refine zo (bv (!r5)) ?_
    refine za ((!r5)) ?_ ?_
    · exact zk (g8_r7_sim (r1.2) (b0) (b1) (r1.1) ob0_Rules ob1_Rules .sh .sh)
    · exact zk (g8_r8_sim (r1.2) (b0) (b1) (r1.1) ob0_Rules ob1_Rules .sh .sh)
noncomputable def b8_r3 (b0 : Srule_Set) (b1 : Srule_Set) : Option (Bool) :=
 (g11 b0 ((Srule_Delta.mk 0 0 0 0 ([] : List Srule_Rule) ([] : List Int)))).bind fun r1 =>
 if ((!r1)) = true then
 (b8_r4)
 else
 ((g11 b1 ((Srule_Delta.mk 0 0 0 0 ([] : List Srule_Rule) ([] : List Int)))).bind fun r2 =>
 if ((!r2)) = true then
 (b8_r4)
 else
 (b8_r5 b0 b1))
theorem g8_r3_sim (b0 : Srule_Set) (b1 : Srule_Set) (ob0_Rules : Own) (ob1_Rules : Own) : Sim (Q8) (b8_r3 b0 b1) (f8_r3 0 (.ptr 0 0) (.ptr 1 0) [(r_Srule_Set b0 ob0_Rules), (r_Srule_Set b1 ob1_Rules)]) := by
  unfold b8_r3
  refine zf (f8_r3_eq ..) ?_
  refine ze ?_
  refine zo (.p (.agg (k_Srule_Set b0 (shrO ob0_Rules)))) ?_
  refine zo (.p (.agg (k_Srule_Delta (Srule_Delta.mk 0 0 0 0 ([] : List Srule_Rule) ([] : List Int)) .nl .nl))) ?_
  refine zi fun r1 hr1 => ?_
  obtain ⟨qr1, er1, exr1, rfl⟩ := g11_to (b0) ((Srule_Delta.mk 0 0 0 0 ([] : List Srule_Rule) ([] : List Int))) .sh .sh .sh r1 hr1
  refine zc [] (bv r1) [(r_Srule_Set b0 ob0_Rules), (r_Srule_Set b1 ob1_Rules)] er1 ?_
  refine zo (bv (!r1)) ?_
  refine za ((!r1)) ?_ ?_
  · exact zk (g8_r4_sim )
  · refine zo (.p (.agg (k_Srule_Set b1 (shrO ob1_Rules)))) ?_
    refine zo (.p (.agg (k_Srule_Delta (Srule_Delta.mk 0 0 0 0 ([] : List Srule_Rule) ([] : List Int)) .nl .nl))) ?_
    refine zi fun r2 hr2 => ?_
    obtain ⟨qr2, er2, exr2, rfl⟩ := g11_to (b1) ((Srule_Delta.mk 0 0 0 0 ([] : List Srule_Rule) ([] : List Int))) .sh .sh .sh r2 hr2
    refine zc [] (bv r2) [(r_Srule_Set b0 ob0_Rules), (r_Srule_Set b1 ob1_Rules)] er2 ?_
    refine zo (bv (!r2)) ?_
    refine za ((!r2)) ?_ ?_
    · exact zk (g8_r4_sim )
    · exact zk (g8_r5_sim (b0) (b1) ob0_Rules ob1_Rules)
noncomputable def b8 (x0 : Srule_Set) (x1 : Srule_Set) : Option (Bool) :=
 (g10).bind fun r1 =>
 if ((!r1)) = true then
 (some (false))
 else
 (b8_r3 x0 x1)
theorem g8_sim (x0 : Srule_Set) (x1 : Srule_Set) (ox0_Rules : Own) (ox1_Rules : Own) : Sim (Q8) (b8 x0 x1) (EE 8 [(.p (.agg (k_Srule_Set x0 ox0_Rules))), (.p (.agg (k_Srule_Set x1 ox1_Rules)))] []) := by
  unfold b8
  refine zf (f8_eq ..) ?_
  refine ze ?_
  refine zx (.ptr 0 0) [(r_Srule_Set x0 ox0_Rules)] ?_
  refine zx (.ptr 1 0) [(r_Srule_Set x0 ox0_Rules), (r_Srule_Set x1 ox1_Rules)] ?_
  refine ze ?_
  refine zi fun r1 hr1 => ?_
  obtain ⟨qr1, er1, exr1, rfl⟩ := g10_to  r1 hr1
  refine zc [] (bv r1) [(r_Srule_Set x0 ox0_Rules), (r_Srule_Set x1 ox1_Rules)] er1 ?_
  refine zo (bv (!r1)) ?_
  refine za ((!r1)) ?_ ?_
  · refine ze ?_
    exact zr ((bv false), [(r_Srule_Set x0 ox0_Rules), (r_Srule_Set x1 ox1_Rules)]) ⟨_, rfl⟩
  · exact zk (g8_r3_sim (x0) (x1) ox0_Rules ox1_Rules)
theorem g8_of (x0 : Srule_Set) (x1 : Srule_Set) {r} (h : b8 x0 x1 = some r) : g8 x0 x1 = some r :=
  pick_of (fun _ _ ha hb => RRun.uniq (Q8_u) (ha .ex .ex) (hb .ex .ex)) (fun ox0_Rules ox1_Rules => g8_sim x0 x1 ox0_Rules ox1_Rules r h)
noncomputable def b8_r17  : Option (Bool) :=
 some (false)
theorem g8_r17_sim  : Sim (Q8) (b8_r17) (f8_r17 0  []) := by
  unfold b8_r17
  refine zf (f8_r17_eq ..) ?_
  refine ze ?_
  exact zr ((bv false), []) ⟨_, rfl⟩
noncomputable def b8_r19 (x9 : Int) (x78 : List Srule_Rule) (x79 : Int) (x80 : Int) (b0 : Srule_Set) (b1 : Srule_Set) (b2 : Srule_Delta) : Option (Bool) :=
 g8_l13 x9 x78 x79 ((IntKind.i64.wrap (x80 + 1))) b0 b1 b2
theorem g8_r19_sim (x9 : Int) (x78 : List Srule_Rule) (x79 : Int) (x80 : Int) (b0 : Srule_Set) (b1 : Srule_Set) (b2 : Srule_Delta) (ox78 : Own) (ob0_Rules : Own) (ob1_Rules : Own) (ob2_Put : Own) (ob2_Drop : Own) : Sim (Q8) (b8_r19 x9 x78 x79 x80 b0 b1 b2) (f8_r19 0 (.ptr 0 0) (.ptr 1 0) (.ptr 2 0) (iv x9) (.p (.lst ox78 (x78.map e_Srule_Rule))) (iv x79) (iv x80) [(r_Srule_Set b0 ob0_Rules), (r_Srule_Set b1 ob1_Rules), (r_Srule_Delta b2 ob2_Put ob2_Drop)]) := by
  unfold b8_r19
  refine zf (f8_r19_eq ..) ?_
  refine ze ?_
  refine zo (iv (IntKind.i64.wrap (x80 + 1))) ?_
  exact zk (g8_l13_to (x9) (x78) (x79) ((IntKind.i64.wrap (x80 + 1))) (b0) (b1) (b2) ox78 ob0_Rules ob1_Rules ob2_Put ob2_Drop)
noncomputable def b8_r18 (x78 : List Srule_Rule) (x79 : Int) (x80 : Int) (b0 : Srule_Set) (b1 : Srule_Set) (b2 : Srule_Delta) (b3 : Srule_Rule) : Option (Bool) :=
 b8_r19 b3.ID x78 x79 x80 b0 b1 b2
theorem g8_r18_sim (x78 : List Srule_Rule) (x79 : Int) (x80 : Int) (b0 : Srule_Set) (b1 : Srule_Set) (b2 : Srule_Delta) (b3 : Srule_Rule) (ox78 : Own) (ob0_Rules : Own) (ob1_Rules : Own) (ob2_Put : Own) (ob2_Drop : Own) : Sim (Q8) (b8_r18 x78 x79 x80 b0 b1 b2 b3) (f8_r18 0 (.ptr 0 0) (.ptr 1 0) (.ptr 2 0) (.ptr 3 0) (.p (.lst ox78 (x78.map e_Srule_Rule))) (iv x79) (iv x80) [(r_Srule_Set b0 ob0_Rules), (r_Srule_Set b1 ob1_Rules), (r_Srule_Delta b2 ob2_Put ob2_Drop), (r_Srule_Rule b3)]) := by
  unfold b8_r18
  refine zf (f8_r18_eq ..) ?_
  refine ze ?_
  refine zo (.ptr 3 0) ?_
  refine zo (iv b3.ID) ?_
  exact zk (g8_r19_sim (b3.ID) (x78) (x79) (x80) (b0) (b1) (b2) ox78 ob0_Rules ob1_Rules ob2_Put ob2_Drop)
noncomputable def b8_r14 (x9 : Int) (x78 : List Srule_Rule) (x79 : Int) (x80 : Int) (b0 : Srule_Set) (b1 : Srule_Set) (b2 : Srule_Delta) : Option (Bool) :=
 (lget x78 x80).bind fun a1 =>
 (g20 b0 a1.ID).bind fun r2 =>
 if (r2.2) = true then
 (if (((r2.1.ID == a1.ID) && ((r2.1.Priority == a1.Priority) && ((r2.1.Action == a1.Action) && ((r2.1.Scope == a1.Scope) && ((seq r2.1.Pattern a1.Pattern) && true)))))) = true then
 (b8_r17)
 else
 (if ((decide (a1.ID ≤ x9))) = true then
 (b8_r17)
 else
 (b8_r18 x78 x79 x80 b0 b1 b2 a1)))
 else
 (if ((decide (a1.ID ≤ x9))) = true then
 (b8_r17)
 else
 (b8_r18 x78 x79 x80 b0 b1 b2 a1))
theorem g8_r14_sim (x9 : Int) (x78 : List Srule_Rule) (x79 : Int) (x80 : Int) (b0 : Srule_Set) (b1 : Srule_Set) (b2 : Srule_Delta) (ox78 : Own) (ob0_Rules : Own) (ob1_Rules : Own) (ob2_Put : Own) (ob2_Drop : Own) : Sim (Q8) (b8_r14 x9 x78 x79 x80 b0 b1 b2) (f8_r14 0 (.ptr 0 0) (.ptr 1 0) (.ptr 2 0) (iv x9) (.p (.lst ox78 (x78.map e_Srule_Rule))) (iv x79) (iv x80) [(r_Srule_Set b0 ob0_Rules), (r_Srule_Set b1 ob1_Rules), (r_Srule_Delta b2 ob2_Put ob2_Drop)]) := by
  unfold b8_r14
  refine zf (f8_r14_eq ..) ?_
  refine ze ?_
  refine zi fun a1 ha1 => ?_
  refine zo (.cptr (k_Srule_Rule a1)) ?_ (Eq.trans (by kernel_rfl) (xidx_of (o := ox78) (k := .i64) (n := 5) (e := e_Srule_Rule) (cs := c_Srule_Rule) (fun _ => rfl) (fun _ => rfl) (by decide) ha1))
  refine zo (.p (.agg (k_Srule_Rule a1))) ?_
  refine zz (.ptr 3 0) [(r_Srule_Set b0 ob0_Rules), (r_Srule_Set b1 ob1_Rules), (r_Srule_Delta b2 ob2_Put ob2_Drop), (r_Srule_Rule (Srule_Rule.mk 0 0 0 0 (ByteArray.mk #[])))] ?_
  refine zt [(r_Srule_Set b0 ob0_Rules), (r_Srule_Set b1 ob1_Rules), (r_Srule_Delta b2 ob2_Put ob2_Drop), (r_Srule_Rule a1)] ?_
  refine ze ?_
  refine zo (.p (.agg (k_Srule_Set b0 (shrO ob0_Rules)))) ?_
  refine zo (.ptr 3 0) ?_
  refine zo (iv a1.ID) ?_
  refine zi fun r2 hr2 => ?_
  obtain ⟨qr2, er2, exr2, rfl⟩ := g20_to (b0) (a1.ID) .sh r2 hr2
  refine zc [] (.p (.tup [(.agg (k_Srule_Rule r2.1)), (.v (.bool r2.2))])) [(r_Srule_Set b0 ob0_Rules), (r_Srule_Set b1 ob1_Rules), (r_Srule_Delta b2 ob2_Put ob2_Drop), (r_Srule_Rule a1)] er2 ?_
  refine zo (.p (.agg (k_Srule_Rule r2.1))) ?_
  refine zo (bv r2.2) ?_
  refine zz (.ptr 4 0) [(r_Srule_Set b0 ob0_Rules), (r_Srule_Set b1 ob1_Rules), (r_Srule_Delta b2 ob2_Put ob2_Drop), (r_Srule_Rule a1), (r_Srule_Rule (Srule_Rule.mk 0 0 0 0 (ByteArray.mk #[])))] ?_
  refine zt [(r_Srule_Set b0 ob0_Rules), (r_Srule_Set b1 ob1_Rules), (r_Srule_Delta b2 ob2_Put ob2_Drop), (r_Srule_Rule a1), (r_Srule_Rule r2.1)] ?_
  refine ze ?_
  refine za (r2.2) ?_ ?_
  · refine zo (.p (.agg (k_Srule_Rule r2.1))) ?_
    refine zo (.p (.agg (k_Srule_Rule a1))) ?_
    refine zo (bv ((r2.1.ID == a1.ID) && ((r2.1.Priority == a1.Priority) && ((r2.1.Action == a1.Action) && ((r2.1.Scope == a1.Scope) && ((seq r2.1.Pattern a1.Pattern) && true)))))) ?_ (Eq.trans (b := xbin PP .eql 43 (.p (.agg (k_Srule_Rule r2.1))) (.p (.agg (k_Srule_Rule a1)))) (by kernel_rfl) (xeq_eql (by kernel_rfl) (by kernel_rfl) (by kernel_rfl) (by kernel_rfl) (by kernel_rfl)))
    refine za (((r2.1.ID == a1.ID) && ((r2.1.Priority == a1.Priority) && ((r2.1.Action == a1.Action) && ((r2.1.Scope == a1.Scope) && ((seq r2.1.Pattern a1.Pattern) && true)))))) ?_ ?_
    · exact zk (g8_r17_sim )
    · refine zo (.ptr 3 0) ?_
      refine zo (iv a1.ID) ?_
      refine zo (bv (decide (a1.ID ≤ x9))) ?_
      refine za ((decide (a1.ID ≤ x9))) ?_ ?_
      · exact zk (g8_r17_sim )
      · exact zk (g8_r18_sim (x78) (x79) (x80) (b0) (b1) (b2) (a1) ox78 ob0_Rules ob1_Rules ob2_Put ob2_Drop)
  · refine zo (.ptr 3 0) ?_
    refine zo (iv a1.ID) ?_
    refine zo (bv (decide (a1.ID ≤ x9))) ?_
    refine za ((decide (a1.ID ≤ x9))) ?_ ?_
    · exact zk (g8_r17_sim )
    · exact zk (g8_r18_sim (x78) (x79) (x80) (b0) (b1) (b2) (a1) ox78 ob0_Rules ob1_Rules ob2_Put ob2_Drop)
noncomputable def b8_r20 (b0 : Srule_Set) (b1 : Srule_Set) (b2 : Srule_Delta) : Option (Bool) :=
 g8_l22 0 b2.Drop ((b2.Drop.length : Int)) 0 b0 b1 b2
theorem g8_r20_sim (b0 : Srule_Set) (b1 : Srule_Set) (b2 : Srule_Delta) (ob0_Rules : Own) (ob1_Rules : Own) (ob2_Put : Own) (ob2_Drop : Own) : Sim (Q8) (b8_r20 b0 b1 b2) (f8_r20 0 (.ptr 0 0) (.ptr 1 0) (.ptr 2 0) [(r_Srule_Set b0 ob0_Rules), (r_Srule_Set b1 ob1_Rules), (r_Srule_Delta b2 ob2_Put ob2_Drop)]) := by
  unfold b8_r20
  refine zf (f8_r20_eq ..) ?_
  refine ze ?_
  refine ze ?_
  refine zo (.ptr 2 5) ?_
  refine zo (.p (.lst (shrO ob2_Drop) (b2.Drop.map (eI .i64)))) ?_
  refine zo (iv (b2.Drop.length : Int)) ?_ (Eq.trans (by kernel_rfl) (xlen_of (P := PP) (t := 25) (d := 3) (by kernel_rfl) (eI .i64) (shrO ob2_Drop) b2.Drop))
  exact zk (g8_l22_to (0) (b2.Drop) ((b2.Drop.length : Int)) (0) (b0) (b1) (b2) (shrO ob2_Drop) ob0_Rules ob1_Rules ob2_Put ob2_Drop)
noncomputable def b8_l13 (x9 : Int) (x78 : List Srule_Rule) (x79 : Int) (x80 : Int) (b0 : Srule_Set) (b1 : Srule_Set) (b2 : Srule_Delta) : Option (Bool) :=
 if ((decide (x80 < x79))) = true then
 (b8_r14 x9 x78 x79 x80 b0 b1 b2)
 else
 (b8_r20 b0 b1 b2)
theorem g8_l13_sim (x9 : Int) (x78 : List Srule_Rule) (x79 : Int) (x80 : Int) (b0 : Srule_Set) (b1 : Srule_Set) (b2 : Srule_Delta) (ox78 : Own) (ob0_Rules : Own) (ob1_Rules : Own) (ob2_Put : Own) (ob2_Drop : Own) : Sim (Q8) (b8_l13 x9 x78 x79 x80 b0 b1 b2) (f8_l13 0 (.ptr 0 0) (.ptr 1 0) (.ptr 2 0) (iv x9) (.p (.lst ox78 (x78.map e_Srule_Rule))) (iv x79) (iv x80) [(r_Srule_Set b0 ob0_Rules), (r_Srule_Set b1 ob1_Rules), (r_Srule_Delta b2 ob2_Put ob2_Drop)]) := by
  unfold b8_l13
  refine zf (f8_l13_eq ..) ?_
  refine ze ?_
  refine zo (bv (decide (x80 < x79))) ?_
  refine za ((decide (x80 < x79))) ?_ ?_
  · exact zk (g8_r14_sim (x9) (x78) (x79) (x80) (b0) (b1) (b2) ox78 ob0_Rules ob1_Rules ob2_Put ob2_Drop)
  · exact zk (g8_r20_sim (b0) (b1) (b2) ob0_Rules ob1_Rules ob2_Put ob2_Drop)
theorem g8_l13_of (x9 : Int) (x78 : List Srule_Rule) (x79 : Int) (x80 : Int) (b0 : Srule_Set) (b1 : Srule_Set) (b2 : Srule_Delta) {r} (h : b8_l13 x9 x78 x79 x80 b0 b1 b2 = some r) : g8_l13 x9 x78 x79 x80 b0 b1 b2 = some r :=
  pick_of (fun _ _ ha hb => RRun.uniq (Q8_u) (ha .ex .ex .ex .ex .ex) (hb .ex .ex .ex .ex .ex)) (fun ox78 ob0_Rules ob1_Rules ob2_Put ob2_Drop => g8_l13_sim x9 x78 x79 x80 b0 b1 b2 ox78 ob0_Rules ob1_Rules ob2_Put ob2_Drop r h)
noncomputable def b8_r27 (x9 : Int) (x107 : List Int) (x108 : Int) (x109 : Int) (b0 : Srule_Set) (b1 : Srule_Set) (b2 : Srule_Delta) : Option (Bool) :=
 g8_l22 x9 x107 x108 ((IntKind.i64.wrap (x109 + 1))) b0 b1 b2
theorem g8_r27_sim (x9 : Int) (x107 : List Int) (x108 : Int) (x109 : Int) (b0 : Srule_Set) (b1 : Srule_Set) (b2 : Srule_Delta) (ox107 : Own) (ob0_Rules : Own) (ob1_Rules : Own) (ob2_Put : Own) (ob2_Drop : Own) : Sim (Q8) (b8_r27 x9 x107 x108 x109 b0 b1 b2) (f8_r27 0 (.ptr 0 0) (.ptr 1 0) (.ptr 2 0) (iv x9) (.p (.lst ox107 (x107.map (eI .i64)))) (iv x108) (iv x109) [(r_Srule_Set b0 ob0_Rules), (r_Srule_Set b1 ob1_Rules), (r_Srule_Delta b2 ob2_Put ob2_Drop)]) := by
  unfold b8_r27
  refine zf (f8_r27_eq ..) ?_
  refine ze ?_
  refine zo (iv (IntKind.i64.wrap (x109 + 1))) ?_
  exact zk (g8_l22_to (x9) (x107) (x108) ((IntKind.i64.wrap (x109 + 1))) (b0) (b1) (b2) ox107 ob0_Rules ob1_Rules ob2_Put ob2_Drop)
noncomputable def b8_r26 (x15 : Int) (x107 : List Int) (x108 : Int) (x109 : Int) (b0 : Srule_Set) (b1 : Srule_Set) (b2 : Srule_Delta) : Option (Bool) :=
 b8_r27 x15 x107 x108 x109 b0 b1 b2
theorem g8_r26_sim (x15 : Int) (x107 : List Int) (x108 : Int) (x109 : Int) (b0 : Srule_Set) (b1 : Srule_Set) (b2 : Srule_Delta) (ox107 : Own) (ob0_Rules : Own) (ob1_Rules : Own) (ob2_Put : Own) (ob2_Drop : Own) : Sim (Q8) (b8_r26 x15 x107 x108 x109 b0 b1 b2) (f8_r26 0 (.ptr 0 0) (.ptr 1 0) (.ptr 2 0) (iv x15) (.p (.lst ox107 (x107.map (eI .i64)))) (iv x108) (iv x109) [(r_Srule_Set b0 ob0_Rules), (r_Srule_Set b1 ob1_Rules), (r_Srule_Delta b2 ob2_Put ob2_Drop)]) := by
  unfold b8_r26
  refine zf (f8_r26_eq ..) ?_
  refine ze ?_
  exact zk (g8_r27_sim (x15) (x107) (x108) (x109) (b0) (b1) (b2) ox107 ob0_Rules ob1_Rules ob2_Put ob2_Drop)
noncomputable def b8_r23 (x9 : Int) (x107 : List Int) (x108 : Int) (x109 : Int) (b0 : Srule_Set) (b1 : Srule_Set) (b2 : Srule_Delta) : Option (Bool) :=
 (lget x107 x109).bind fun a1 =>
 if ((decide (a1 ≤ x9))) = true then
 (some (false))
 else
 (b8_r26 a1 x107 x108 x109 b0 b1 b2)
theorem g8_r23_sim (x9 : Int) (x107 : List Int) (x108 : Int) (x109 : Int) (b0 : Srule_Set) (b1 : Srule_Set) (b2 : Srule_Delta) (ox107 : Own) (ob0_Rules : Own) (ob1_Rules : Own) (ob2_Put : Own) (ob2_Drop : Own) : Sim (Q8) (b8_r23 x9 x107 x108 x109 b0 b1 b2) (f8_r23 0 (.ptr 0 0) (.ptr 1 0) (.ptr 2 0) (iv x9) (.p (.lst ox107 (x107.map (eI .i64)))) (iv x108) (iv x109) [(r_Srule_Set b0 ob0_Rules), (r_Srule_Set b1 ob1_Rules), (r_Srule_Delta b2 ob2_Put ob2_Drop)]) := by
  unfold b8_r23
  refine zf (f8_r23_eq ..) ?_
  refine ze ?_
  refine zi fun a1 ha1 => ?_
  refine zo (.cptr [(.v (.int .i64 a1))]) ?_ (Eq.trans (by kernel_rfl) (xidx_of (o := ox107) (k := .i64) (n := 1) (e := (eI .i64)) (cs := (fun a => [(eI .i64) a])) (fun _ => rfl) (fun _ => rfl) (by decide) ha1))
  refine zo (iv a1) ?_
  refine ze ?_
  refine zo (bv (decide (a1 ≤ x9))) ?_
  refine za ((decide (a1 ≤ x9))) ?_ ?_
  · refine ze ?_
    exact zr ((bv false), [(r_Srule_Set b0 ob0_Rules), (r_Srule_Set b1 ob1_Rules), (r_Srule_Delta b2 ob2_Put ob2_Drop)]) ⟨_, rfl⟩
  · exact zk (g8_r26_sim (a1) (x107) (x108) (x109) (b0) (b1) (b2) ox107 ob0_Rules ob1_Rules ob2_Put ob2_Drop)
noncomputable def b8_r28 (b0 : Srule_Set) (b1 : Srule_Set) (b2 : Srule_Delta) : Option (Bool) :=
 (g14 b0).bind fun r1 =>
 (g14 b1).bind fun r2 =>
 (g13 r1 r2).bind fun r3 =>
 if (((b2.Default == (-1)) == (b0.Default == b1.Default))) = true then
 (if (((b2.Fuel == (-1)) == (b0.Fuel == b1.Fuel))) = true then
 (if ((!r3)) = true then
 (some (true))
 else
 (some (((IntKind.i64.wrap ((b2.Put.length : Int) + (b2.Drop.length : Int))) == 0))))
 else
 (some (false)))
 else
 (some (false))
theorem g8_r28_sim (b0 : Srule_Set) (b1 : Srule_Set) (b2 : Srule_Delta) (ob0_Rules : Own) (ob1_Rules : Own) (ob2_Put : Own) (ob2_Drop : Own) : Sim (Q8) (b8_r28 b0 b1 b2) (f8_r28 0 (.ptr 0 0) (.ptr 1 0) (.ptr 2 0) [(r_Srule_Set b0 ob0_Rules), (r_Srule_Set b1 ob1_Rules), (r_Srule_Delta b2 ob2_Put ob2_Drop)]) := by
  unfold b8_r28
  refine zf (f8_r28_eq ..) ?_
  refine ze ?_
  refine zo (.p (.agg (k_Srule_Set b0 (shrO ob0_Rules)))) ?_
  refine zi fun r1 hr1 => ?_
  obtain ⟨qr1, er1, exr1, rfl⟩ := g14_to (b0) .sh r1 hr1
  refine zc [] (.p (.agg (k_Scolanderref07_Set r1 .sh))) [(r_Srule_Set b0 ob0_Rules), (r_Srule_Set b1 ob1_Rules), (r_Srule_Delta b2 ob2_Put ob2_Drop)] er1 ?_
  refine zo (.p (.agg (k_Srule_Set b1 (shrO ob1_Rules)))) ?_
  refine zi fun r2 hr2 => ?_
  obtain ⟨qr2, er2, exr2, rfl⟩ := g14_to (b1) .sh r2 hr2
  refine zc [] (.p (.agg (k_Scolanderref07_Set r2 .sh))) [(r_Srule_Set b0 ob0_Rules), (r_Srule_Set b1 ob1_Rules), (r_Srule_Delta b2 ob2_Put ob2_Drop)] er2 ?_
  refine zi fun r3 hr3 => ?_
  obtain ⟨qr3, er3, exr3, rfl⟩ := g13_to (r1) (r2) .sh .sh r3 hr3
  refine zc [] (bv r3) [(r_Srule_Set b0 ob0_Rules), (r_Srule_Set b1 ob1_Rules), (r_Srule_Delta b2 ob2_Put ob2_Drop)] er3 ?_
  refine zg ?_
  refine ze ?_
  refine zo (.ptr 2 0) ?_
  refine zo (iv b2.Default) ?_
  refine zo (bv (b2.Default == (-1))) ?_
  refine zo (.ptr 0 0) ?_
  refine zo (iv b0.Default) ?_
  refine zo (.ptr 1 0) ?_
  refine zo (iv b1.Default) ?_
  refine zo (bv (b0.Default == b1.Default)) ?_
  refine zo (bv ((b2.Default == (-1)) == (b0.Default == b1.Default))) ?_
  refine za (((b2.Default == (-1)) == (b0.Default == b1.Default))) ?_ ?_
  · refine zo (.ptr 2 2) ?_
    refine zo (iv b2.Fuel) ?_
    refine zo (bv (b2.Fuel == (-1))) ?_
    refine zo (.ptr 0 2) ?_
    refine zo (iv b0.Fuel) ?_
    refine zo (.ptr 1 2) ?_
    refine zo (iv b1.Fuel) ?_
    refine zo (bv (b0.Fuel == b1.Fuel)) ?_
    refine zo (bv ((b2.Fuel == (-1)) == (b0.Fuel == b1.Fuel))) ?_
    refine za (((b2.Fuel == (-1)) == (b0.Fuel == b1.Fuel))) ?_ ?_
    · refine zo (bv (!r3)) ?_
      refine za ((!r3)) ?_ ?_
      · exact zr ((bv true), [(r_Srule_Set b0 ob0_Rules), (r_Srule_Set b1 ob1_Rules), (r_Srule_Delta b2 ob2_Put ob2_Drop)]) ⟨_, rfl⟩
      · refine zo (.ptr 2 4) ?_
        refine zo (.p (.lst (shrO ob2_Put) (b2.Put.map e_Srule_Rule))) ?_
        refine zo (iv (b2.Put.length : Int)) ?_ (Eq.trans (by kernel_rfl) (xlen_of (P := PP) (t := 22) (d := 43) (by kernel_rfl) e_Srule_Rule (shrO ob2_Put) b2.Put))
        refine zo (.ptr 2 5) ?_
        refine zo (.p (.lst (shrO ob2_Drop) (b2.Drop.map (eI .i64)))) ?_
        refine zo (iv (b2.Drop.length : Int)) ?_ (Eq.trans (by kernel_rfl) (xlen_of (P := PP) (t := 25) (d := 3) (by kernel_rfl) (eI .i64) (shrO ob2_Drop) b2.Drop))
        refine zo (iv (IntKind.i64.wrap ((b2.Put.length : Int) + (b2.Drop.length : Int)))) ?_
        refine zo (bv ((IntKind.i64.wrap ((b2.Put.length : Int) + (b2.Drop.length : Int))) == 0)) ?_
        exact zr ((bv ((IntKind.i64.wrap ((b2.Put.length : Int) + (b2.Drop.length : Int))) == 0)), [(r_Srule_Set b0 ob0_Rules), (r_Srule_Set b1 ob1_Rules), (r_Srule_Delta b2 ob2_Put ob2_Drop)]) ⟨_, rfl⟩
    · exact zr ((bv false), [(r_Srule_Set b0 ob0_Rules), (r_Srule_Set b1 ob1_Rules), (r_Srule_Delta b2 ob2_Put ob2_Drop)]) ⟨_, rfl⟩
  · exact zr ((bv false), [(r_Srule_Set b0 ob0_Rules), (r_Srule_Set b1 ob1_Rules), (r_Srule_Delta b2 ob2_Put ob2_Drop)]) ⟨_, rfl⟩
noncomputable def b8_l22 (x9 : Int) (x107 : List Int) (x108 : Int) (x109 : Int) (b0 : Srule_Set) (b1 : Srule_Set) (b2 : Srule_Delta) : Option (Bool) :=
 if ((decide (x109 < x108))) = true then
 (b8_r23 x9 x107 x108 x109 b0 b1 b2)
 else
 (b8_r28 b0 b1 b2)
theorem g8_l22_sim (x9 : Int) (x107 : List Int) (x108 : Int) (x109 : Int) (b0 : Srule_Set) (b1 : Srule_Set) (b2 : Srule_Delta) (ox107 : Own) (ob0_Rules : Own) (ob1_Rules : Own) (ob2_Put : Own) (ob2_Drop : Own) : Sim (Q8) (b8_l22 x9 x107 x108 x109 b0 b1 b2) (f8_l22 0 (.ptr 0 0) (.ptr 1 0) (.ptr 2 0) (iv x9) (.p (.lst ox107 (x107.map (eI .i64)))) (iv x108) (iv x109) [(r_Srule_Set b0 ob0_Rules), (r_Srule_Set b1 ob1_Rules), (r_Srule_Delta b2 ob2_Put ob2_Drop)]) := by
  unfold b8_l22
  refine zf (f8_l22_eq ..) ?_
  refine ze ?_
  refine zo (bv (decide (x109 < x108))) ?_
  refine za ((decide (x109 < x108))) ?_ ?_
  · exact zk (g8_r23_sim (x9) (x107) (x108) (x109) (b0) (b1) (b2) ox107 ob0_Rules ob1_Rules ob2_Put ob2_Drop)
  · exact zk (g8_r28_sim (b0) (b1) (b2) ob0_Rules ob1_Rules ob2_Put ob2_Drop)
theorem g8_l22_of (x9 : Int) (x107 : List Int) (x108 : Int) (x109 : Int) (b0 : Srule_Set) (b1 : Srule_Set) (b2 : Srule_Delta) {r} (h : b8_l22 x9 x107 x108 x109 b0 b1 b2 = some r) : g8_l22 x9 x107 x108 x109 b0 b1 b2 = some r :=
  pick_of (fun _ _ ha hb => RRun.uniq (Q8_u) (ha .ex .ex .ex .ex .ex) (hb .ex .ex .ex .ex .ex)) (fun ox107 ob0_Rules ob1_Rules ob2_Put ob2_Drop => g8_l22_sim x9 x107 x108 x109 b0 b1 b2 ox107 ob0_Rules ob1_Rules ob2_Put ob2_Drop r h)
/-! "colander/rule.Diff": g22 -/
noncomputable def b22_r2  : Option (Srule_Delta × Int) :=
 some ((Srule_Delta.mk 0 0 0 0 ([] : List Srule_Rule) ([] : List Int)), 10)
theorem g22_r2_sim (b0 : Srule_Set) (b1 : Srule_Set) (b2 : Srule_Delta) (ob0_Rules : Own) (ob1_Rules : Own) (ob2_Put : Own) (ob2_Drop : Own) (hob2_Put : okApp ob2_Put = true) (hob2_Drop : okApp ob2_Drop = true) : Sim (Q22) (b22_r2) (f22_r2 0 (.ptr 2 0) [(r_Srule_Set b0 ob0_Rules), (r_Srule_Set b1 ob1_Rules), (r_Srule_Delta b2 ob2_Put ob2_Drop)]) := by
  unfold b22_r2
  refine zf (f22_r2_eq ..) ?_
  refine ze ?_
  refine zo (.p (.agg (k_Srule_Delta (Srule_Delta.mk 0 0 0 0 ([] : List Srule_Rule) ([] : List Int)) .nl .nl))) ?_
  refine zt [(r_Srule_Set b0 ob0_Rules), (r_Srule_Set b1 ob1_Rules), (r_Srule_Delta (Srule_Delta.mk 0 0 0 0 ([] : List Srule_Rule) ([] : List Int)) .nl .nl)] ?_
  exact zr ((.p (.tup [(.agg (k_Srule_Delta (Srule_Delta.mk 0 0 0 0 ([] : List Srule_Rule) ([] : List Int)) .sh .sh)), (.v (.int .i64 10))])), [(r_Srule_Set b0 ob0_Rules), (r_Srule_Set b1 ob1_Rules), (r_Srule_Delta (Srule_Delta.mk 0 0 0 0 ([] : List Srule_Rule) ([] : List Int)) .nl .nl)]) ⟨_, rfl⟩
noncomputable def b22_r3 (b0 : Srule_Set) (b1 : Srule_Set) : Option (Srule_Delta × Int) :=
 (g38 b0.Default b1.Default).bind fun r1 =>
 (g38 b0.Closed b1.Closed).bind fun r2 =>
 (g38 b0.Fuel b1.Fuel).bind fun r3 =>
 (g38 b0.Stack b1.Stack).bind fun r4 =>
 g22_l5 b1.Rules ((b1.Rules.length : Int)) 0 b0 b1 r1 r2 r3 r4 (([] : List Srule_Rule)) (([] : List Int))
theorem g22_r3_sim (b0 : Srule_Set) (b1 : Srule_Set) (b2 : Srule_Delta) (ob0_Rules : Own) (ob1_Rules : Own) (ob2_Put : Own) (ob2_Drop : Own) (hob2_Put : okApp ob2_Put = true) (hob2_Drop : okApp ob2_Drop = true) : Sim (Q22) (b22_r3 b0 b1) (f22_r3 0 (.ptr 0 0) (.ptr 1 0) (.ptr 2 0) [(r_Srule_Set b0 ob0_Rules), (r_Srule_Set b1 ob1_Rules), (r_Srule_Delta b2 ob2_Put ob2_Drop)]) := by
  unfold b22_r3
  refine zf (f22_r3_eq ..) ?_
  refine ze ?_
  refine zo (.ptr 0 0) ?_
  refine zo (iv b0.Default) ?_
  refine zo (.ptr 1 0) ?_
  refine zo (iv b1.Default) ?_
  refine zi fun r1 hr1 => ?_
  obtain ⟨qr1, er1, exr1, rfl⟩ := g38_to (b0.Default) (b1.Default) r1 hr1
  refine zc [] (iv r1) [(r_Srule_Set b0 ob0_Rules), (r_Srule_Set b1 ob1_Rules), (r_Srule_Delta b2 ob2_Put ob2_Drop)] er1 ?_
  refine zo (.ptr 0 1) ?_
  refine zo (iv b0.Closed) ?_
  refine zo (.ptr 1 1) ?_
  refine zo (iv b1.Closed) ?_
  refine zi fun r2 hr2 => ?_
  obtain ⟨qr2, er2, exr2, rfl⟩ := g38_to (b0.Closed) (b1.Closed) r2 hr2
  refine zc [] (iv r2) [(r_Srule_Set b0 ob0_Rules), (r_Srule_Set b1 ob1_Rules), (r_Srule_Delta b2 ob2_Put ob2_Drop)] er2 ?_
  refine zo (.ptr 0 2) ?_
  refine zo (iv b0.Fuel) ?_
  refine zo (.ptr 1 2) ?_
  refine zo (iv b1.Fuel) ?_
  refine zi fun r3 hr3 => ?_
  obtain ⟨qr3, er3, exr3, rfl⟩ := g38_to (b0.Fuel) (b1.Fuel) r3 hr3
  refine zc [] (iv r3) [(r_Srule_Set b0 ob0_Rules), (r_Srule_Set b1 ob1_Rules), (r_Srule_Delta b2 ob2_Put ob2_Drop)] er3 ?_
  refine zo (.ptr 0 3) ?_
  refine zo (iv b0.Stack) ?_
  refine zo (.ptr 1 3) ?_
  refine zo (iv b1.Stack) ?_
  refine zi fun r4 hr4 => ?_
  obtain ⟨qr4, er4, exr4, rfl⟩ := g38_to (b0.Stack) (b1.Stack) r4 hr4
  refine zc [] (iv r4) [(r_Srule_Set b0 ob0_Rules), (r_Srule_Set b1 ob1_Rules), (r_Srule_Delta b2 ob2_Put ob2_Drop)] er4 ?_
  refine zo (.p (.agg (k_Srule_Delta (Srule_Delta.mk r1 r2 r3 r4 ([] : List Srule_Rule) ([] : List Int)) .nl .nl))) ?_
  refine zz (.ptr 3 0) [(r_Srule_Set b0 ob0_Rules), (r_Srule_Set b1 ob1_Rules), (r_Srule_Delta b2 ob2_Put ob2_Drop), (r_Srule_Delta (Srule_Delta.mk 0 0 0 0 ([] : List Srule_Rule) ([] : List Int)) .nl .nl)] ?_
  refine zt [(r_Srule_Set b0 ob0_Rules), (r_Srule_Set b1 ob1_Rules), (r_Srule_Delta b2 ob2_Put ob2_Drop), (r_Srule_Delta (Srule_Delta.mk r1 r2 r3 r4 ([] : List Srule_Rule) ([] : List Int)) .nl .nl)] ?_
  refine zg ?_
  refine zg ?_
  refine zg ?_
  refine zg ?_
  refine zg ?_
  refine zg ?_
  refine zg ?_
  refine zg ?_
  refine zg ?_
  refine zg ?_
  refine zg ?_
  refine zg ?_
  refine zg ?_
  refine zg ?_
  refine zg ?_
  refine zg ?_
  refine zg ?_
  refine zg ?_
  refine zg ?_
  refine zg ?_
  refine zg ?_
  refine zg ?_
  refine zg ?_
  refine zg ?_
  refine ze ?_
  refine zo (.ptr 1 4) ?_
  refine zo (.p (.lst (shrO ob1_Rules) (b1.Rules.map e_Srule_Rule))) ?_
  refine zo (iv (b1.Rules.length : Int)) ?_ (Eq.trans (by kernel_rfl) (xlen_of (P := PP) (t := 22) (d := 43) (by kernel_rfl) e_Srule_Rule (shrO ob1_Rules) b1.Rules))
  exact zk (g22_l5_to (b1.Rules) ((b1.Rules.length : Int)) (0) (b0) (b1) (b2) (r1) (r2) (r3) (r4) (([] : List Srule_Rule)) (([] : List Int)) (shrO ob1_Rules) ob0_Rules ob1_Rules ob2_Put ob2_Drop .nl .nl hob2_Put hob2_Drop rfl rfl)
noncomputable def b22 (x0 : Srule_Set) (x1 : Srule_Set) : Option (Srule_Delta × Int) :=
 (g16 x0).bind fun r1 =>
 if ((!r1)) = true then
 (b22_r2)
 else
 ((g16 x1).bind fun r2 =>
 if ((!r2)) = true then
 (b22_r2)
 else
 (b22_r3 x0 x1))
theorem g22_sim (x0 : Srule_Set) (x1 : Srule_Set) (ox0_Rules : Own) (ox1_Rules : Own) : Sim (Q22) (b22 x0 x1) (EE 22 [(.p (.agg (k_Srule_Set x0 ox0_Rules))), (.p (.agg (k_Srule_Set x1 ox1_Rules)))] []) := by
  unfold b22
  refine zf (f22_eq ..) ?_
  refine ze ?_
  refine zx (.ptr 0 0) [(r_Srule_Set x0 ox0_Rules)] ?_
  refine zx (.ptr 1 0) [(r_Srule_Set x0 ox0_Rules), (r_Srule_Set x1 ox1_Rules)] ?_
  refine zz (.ptr 2 0) [(r_Srule_Set x0 ox0_Rules), (r_Srule_Set x1 ox1_Rules), (r_Srule_Delta (Srule_Delta.mk 0 0 0 0 ([] : List Srule_Rule) ([] : List Int)) .nl .nl)] ?_
  refine ze ?_
  refine zo (.p (.agg (k_Srule_Set x0 (shrO ox0_Rules)))) ?_
  refine zi fun r1 hr1 => ?_
  obtain ⟨qr1, er1, exr1, rfl⟩ := g16_to (x0) .sh r1 hr1
  refine zc [] (bv r1) [(r_Srule_Set x0 ox0_Rules), (r_Srule_Set x1 ox1_Rules), (r_Srule_Delta (Srule_Delta.mk 0 0 0 0 ([] : List Srule_Rule) ([] : List Int)) .nl .nl)] er1 ?_
  refine zo (bv (!r1)) ?_
  refine za ((!r1)) ?_ ?_
  · exact zk (g22_r2_sim (x0) (x1) ((Srule_Delta.mk 0 0 0 0 ([] : List Srule_Rule) ([] : List Int))) ox0_Rules ox1_Rules .nl .nl rfl rfl)
  · refine zo (.p (.agg (k_Srule_Set x1 (shrO ox1_Rules)))) ?_
    refine zi fun r2 hr2 => ?_
    obtain ⟨qr2, er2, exr2, rfl⟩ := g16_to (x1) .sh r2 hr2
    refine zc [] (bv r2) [(r_Srule_Set x0 ox0_Rules), (r_Srule_Set x1 ox1_Rules), (r_Srule_Delta (Srule_Delta.mk 0 0 0 0 ([] : List Srule_Rule) ([] : List Int)) .nl .nl)] er2 ?_
    refine zo (bv (!r2)) ?_
    refine za ((!r2)) ?_ ?_
    · exact zk (g22_r2_sim (x0) (x1) ((Srule_Delta.mk 0 0 0 0 ([] : List Srule_Rule) ([] : List Int))) ox0_Rules ox1_Rules .nl .nl rfl rfl)
    · exact zk (g22_r3_sim (x0) (x1) ((Srule_Delta.mk 0 0 0 0 ([] : List Srule_Rule) ([] : List Int))) ox0_Rules ox1_Rules .nl .nl rfl rfl)
theorem g22_of (x0 : Srule_Set) (x1 : Srule_Set) {r} (h : b22 x0 x1 = some r) : g22 x0 x1 = some r :=
  pick_of (fun _ _ ha hb => RRun.uniq (Q22_u) (ha .ex .ex) (hb .ex .ex)) (fun ox0_Rules ox1_Rules => g22_sim x0 x1 ox0_Rules ox1_Rules r h)
noncomputable def b22_r10 (x46 : List Srule_Rule) (x47 : Int) (x48 : Int) (b0 : Srule_Set) (b1 : Srule_Set) (b3_Default : Int) (b3_Closed : Int) (b3_Fuel : Int) (b3_Stack : Int) (b3_Put : List Srule_Rule) (b3_Drop : List Int) : Option (Srule_Delta × Int) :=
 g22_l5 x46 x47 ((IntKind.i64.wrap (x48 + 1))) b0 b1 b3_Default b3_Closed b3_Fuel b3_Stack b3_Put b3_Drop
theorem g22_r10_sim (x46 : List Srule_Rule) (x47 : Int) (x48 : Int) (b0 : Srule_Set) (b1 : Srule_Set) (b2 : Srule_Delta) (b3_Default : Int) (b3_Closed : Int) (b3_Fuel : Int) (b3_Stack : Int) (b3_Put : List Srule_Rule) (b3_Drop : List Int) (ox46 : Own) (ob0_Rules : Own) (ob1_Rules : Own) (ob2_Put : Own) (ob2_Drop : Own) (ob3_Put : Own) (ob3_Drop : Own) (hob2_Put : okApp ob2_Put = true) (hob2_Drop : okApp ob2_Drop = true) (hob3_Put : okApp ob3_Put = true) (hob3_Drop : okApp ob3_Drop = true) : Sim (Q22) (b22_r10 x46 x47 x48 b0 b1 b3_Default b3_Closed b3_Fuel b3_Stack b3_Put b3_Drop) (f22_r10 0 (.ptr 0 0) (.ptr 1 0) (.ptr 2 0) (.ptr 3 0) (.p (.lst ox46 (x46.map e_Srule_Rule))) (iv x47) (iv x48) [(r_Srule_Set b0 ob0_Rules), (r_Srule_Set b1 ob1_Rules), (r_Srule_Delta b2 ob2_Put ob2_Drop), (r_Srule_Delta (Srule_Delta.mk b3_Default b3_Closed b3_Fuel b3_Stack b3_Put b3_Drop) ob3_Put ob3_Drop)]) := by
  unfold b22_r10
  refine zf (f22_r10_eq ..) ?_
  refine ze ?_
  refine zo (iv (IntKind.i64.wrap (x48 + 1))) ?_
  exact zk (g22_l5_to (x46) (x47) ((IntKind.i64.wrap (x48 + 1))) (b0) (b1) (b2) (b3_Default) (b3_Closed) (b3_Fuel) (b3_Stack) (b3_Put) (b3_Drop) ox46 ob0_Rules ob1_Rules ob2_Put ob2_Drop ob3_Put ob3_Drop hob2_Put hob2_Drop hob3_Put hob3_Drop)
noncomputable def b22_r9 (x46 : List Srule_Rule) (x47 : Int) (x48 : Int) (b0 : Srule_Set) (b1 : Srule_Set) (b3_Default : Int) (b3_Closed : Int) (b3_Fuel : Int) (b3_Stack : Int) (b3_Put : List Srule_Rule) (b3_Drop : List Int) (b4 : Srule_Rule) : Option (Srule_Delta × Int) :=
 (lapp b3_Put ([b4] : List Srule_Rule)).bind fun a1 =>
 b22_r10 x46 x47 x48 b0 b1 b3_Default b3_Closed b3_Fuel b3_Stack a1 b3_Drop
theorem g22_r9_sim (x46 : List Srule_Rule) (x47 : Int) (x48 : Int) (b0 : Srule_Set) (b1 : Srule_Set) (b2 : Srule_Delta) (b3_Default : Int) (b3_Closed : Int) (b3_Fuel : Int) (b3_Stack : Int) (b3_Put : List Srule_Rule) (b3_Drop : List Int) (b4 : Srule_Rule) (ox46 : Own) (ob0_Rules : Own) (ob1_Rules : Own) (ob2_Put : Own) (ob2_Drop : Own) (ob3_Put : Own) (ob3_Drop : Own) (hob2_Put : okApp ob2_Put = true) (hob2_Drop : okApp ob2_Drop = true) (hob3_Put : okApp ob3_Put = true) (hob3_Drop : okApp ob3_Drop = true) : Sim (Q22) (b22_r9 x46 x47 x48 b0 b1 b3_Default b3_Closed b3_Fuel b3_Stack b3_Put b3_Drop b4) (f22_r9 0 (.ptr 0 0) (.ptr 1 0) (.ptr 2 0) (.ptr 3 0) (.ptr 4 0) (.p (.lst ox46 (x46.map e_Srule_Rule))) (iv x47) (iv x48) [(r_Srule_Set b0 ob0_Rules), (r_Srule_Set b1 ob1_Rules), (r_Srule_Delta b2 ob2_Put ob2_Drop), (r_Srule_Delta (Srule_Delta.mk b3_Default b3_Closed b3_Fuel b3_Stack b3_Put b3_Drop) ob3_Put ob3_Drop), (r_Srule_Rule b4)]) := by
  unfold b22_r9
  refine zf (f22_r9_eq ..) ?_
  refine ze ?_
  refine zo (.ptr 3 4) ?_
  refine zw (.p (.lst ob3_Put (b3_Put.map e_Srule_Rule))) [(r_Srule_Set b0 ob0_Rules), (r_Srule_Set b1 ob1_Rules), (r_Srule_Delta b2 ob2_Put ob2_Drop), (r_Srule_Delta (Srule_Delta.mk b3_Default b3_Closed b3_Fuel b3_Stack b3_Put b3_Drop) (shrO ob3_Put) ob3_Drop), (r_Srule_Rule b4)] ?_
  refine zo (.p (.agg (k_Srule_Rule b4))) ?_
  refine zo (.p (.lst .ex (([b4] : List Srule_Rule).map e_Srule_Rule))) ?_
  refine zi fun a1 ha1 => ?_
  refine zo (.p (.lst .un (a1.map e_Srule_Rule))) ?_ (Eq.trans (by kernel_rfl) <| xapp_of (n := 5) (o := ob3_Put) (o' := .ex) (e := e_Srule_Rule) (ys := ([b4] : List Srule_Rule)) (fun _ => rfl) (by decide) hob3_Put ha1)
  refine zo (.ptr 3 4) ?_
  refine zt [(r_Srule_Set b0 ob0_Rules), (r_Srule_Set b1 ob1_Rules), (r_Srule_Delta b2 ob2_Put ob2_Drop), (r_Srule_Delta (Srule_Delta.mk b3_Default b3_Closed b3_Fuel b3_Stack a1 b3_Drop) .un ob3_Drop), (r_Srule_Rule b4)] ?_
  exact zk (g22_r10_sim (x46) (x47) (x48) (b0) (b1) (b2) (b3_Default) (b3_Closed) (b3_Fuel) (b3_Stack) (a1) (b3_Drop) ox46 ob0_Rules ob1_Rules ob2_Put ob2_Drop .un ob3_Drop hob2_Put hob2_Drop rfl hob3_Drop)
noncomputable def b22_r6 (x46 : List Srule_Rule) (x47 : Int) (x48 : Int) (b0 : Srule_Set) (b1 : Srule_Set) (b3_Default : Int) (b3_Closed : Int) (b3_Fuel : Int) (b3_Stack : Int) (b3_Put : List Srule_Rule) (b3_Drop : List Int) : Option (Srule_Delta × Int) :=
 (lget x46 x48).bind fun a1 =>
 (g20 b0 a1.ID).bind fun r2 =>
 if ((!r2.2)) = true then
 (b22_r9 x46 x47 x48 b0 b1 b3_Default b3_Closed b3_Fuel b3_Stack b3_Put b3_Drop a1)
 else
 (if ((!((r2.1.ID == a1.ID) && ((r2.1.Priority == a1.Priority) && ((r2.1.Action == a1.Action) && ((r2.1.Scope == a1.Scope) && ((seq r2.1.Pattern a1.Pattern) && true))))))) = true then
 (b22_r9 x46 x47 x48 b0 b1 b3_Default b3_Closed b3_Fuel b3_Stack b3_Put b3_Drop a1)
 else
 (b22_r10 x46 x47 x48 b0 b1 b3_Default b3_Closed b3_Fuel b3_Stack b3_Put b3_Drop))
theorem g22_r6_sim (x46 : List Srule_Rule) (x47 : Int) (x48 : Int) (b0 : Srule_Set) (b1 : Srule_Set) (b2 : Srule_Delta) (b3_Default : Int) (b3_Closed : Int) (b3_Fuel : Int) (b3_Stack : Int) (b3_Put : List Srule_Rule) (b3_Drop : List Int) (ox46 : Own) (ob0_Rules : Own) (ob1_Rules : Own) (ob2_Put : Own) (ob2_Drop : Own) (ob3_Put : Own) (ob3_Drop : Own) (hob2_Put : okApp ob2_Put = true) (hob2_Drop : okApp ob2_Drop = true) (hob3_Put : okApp ob3_Put = true) (hob3_Drop : okApp ob3_Drop = true) : Sim (Q22) (b22_r6 x46 x47 x48 b0 b1 b3_Default b3_Closed b3_Fuel b3_Stack b3_Put b3_Drop) (f22_r6 0 (.ptr 0 0) (.ptr 1 0) (.ptr 2 0) (.ptr 3 0) (.p (.lst ox46 (x46.map e_Srule_Rule))) (iv x47) (iv x48) [(r_Srule_Set b0 ob0_Rules), (r_Srule_Set b1 ob1_Rules), (r_Srule_Delta b2 ob2_Put ob2_Drop), (r_Srule_Delta (Srule_Delta.mk b3_Default b3_Closed b3_Fuel b3_Stack b3_Put b3_Drop) ob3_Put ob3_Drop)]) := by
  unfold b22_r6
  refine zf (f22_r6_eq ..) ?_
  refine ze ?_
  refine zi fun a1 ha1 => ?_
  refine zo (.cptr (k_Srule_Rule a1)) ?_ (Eq.trans (by kernel_rfl) (xidx_of (o := ox46) (k := .i64) (n := 5) (e := e_Srule_Rule) (cs := c_Srule_Rule) (fun _ => rfl) (fun _ => rfl) (by decide) ha1))
  refine zo (.p (.agg (k_Srule_Rule a1))) ?_
  refine zz (.ptr 4 0) [(r_Srule_Set b0 ob0_Rules), (r_Srule_Set b1 ob1_Rules), (r_Srule_Delta b2 ob2_Put ob2_Drop), (r_Srule_Delta (Srule_Delta.mk b3_Default b3_Closed b3_Fuel b3_Stack b3_Put b3_Drop) ob3_Put ob3_Drop), (r_Srule_Rule (Srule_Rule.mk 0 0 0 0 (ByteArray.mk #[])))] ?_
  refine zt [(r_Srule_Set b0 ob0_Rules), (r_Srule_Set b1 ob1_Rules), (r_Srule_Delta b2 ob2_Put ob2_Drop), (r_Srule_Delta (Srule_Delta.mk b3_Default b3_Closed b3_Fuel b3_Stack b3_Put b3_Drop) ob3_Put ob3_Drop), (r_Srule_Rule a1)] ?_
  refine ze ?_
  refine zo (.p (.agg (k_Srule_Set b0 (shrO ob0_Rules)))) ?_
  refine zo (.ptr 4 0) ?_
  refine zo (iv a1.ID) ?_
  refine zi fun r2 hr2 => ?_
  obtain ⟨qr2, er2, exr2, rfl⟩ := g20_to (b0) (a1.ID) .sh r2 hr2
  refine zc [] (.p (.tup [(.agg (k_Srule_Rule r2.1)), (.v (.bool r2.2))])) [(r_Srule_Set b0 ob0_Rules), (r_Srule_Set b1 ob1_Rules), (r_Srule_Delta b2 ob2_Put ob2_Drop), (r_Srule_Delta (Srule_Delta.mk b3_Default b3_Closed b3_Fuel b3_Stack b3_Put b3_Drop) ob3_Put ob3_Drop), (r_Srule_Rule a1)] er2 ?_
  refine zo (.p (.agg (k_Srule_Rule r2.1))) ?_
  refine zo (bv r2.2) ?_
  refine zz (.ptr 5 0) [(r_Srule_Set b0 ob0_Rules), (r_Srule_Set b1 ob1_Rules), (r_Srule_Delta b2 ob2_Put ob2_Drop), (r_Srule_Delta (Srule_Delta.mk b3_Default b3_Closed b3_Fuel b3_Stack b3_Put b3_Drop) ob3_Put ob3_Drop), (r_Srule_Rule a1), (r_Srule_Rule (Srule_Rule.mk 0 0 0 0 (ByteArray.mk #[])))] ?_
  refine zt [(r_Srule_Set b0 ob0_Rules), (r_Srule_Set b1 ob1_Rules), (r_Srule_Delta b2 ob2_Put ob2_Drop), (r_Srule_Delta (Srule_Delta.mk b3_Default b3_Closed b3_Fuel b3_Stack b3_Put b3_Drop) ob3_Put ob3_Drop), (r_Srule_Rule a1), (r_Srule_Rule r2.1)] ?_
  refine ze ?_
  refine zo (bv (!r2.2)) ?_
  refine za ((!r2.2)) ?_ ?_
  · exact zk (g22_r9_sim (x46) (x47) (x48) (b0) (b1) (b2) (b3_Default) (b3_Closed) (b3_Fuel) (b3_Stack) (b3_Put) (b3_Drop) (a1) ox46 ob0_Rules ob1_Rules ob2_Put ob2_Drop ob3_Put ob3_Drop hob2_Put hob2_Drop hob3_Put hob3_Drop)
  · refine zo (.p (.agg (k_Srule_Rule r2.1))) ?_
    refine zo (.p (.agg (k_Srule_Rule a1))) ?_
    refine zo (bv (!((r2.1.ID == a1.ID) && ((r2.1.Priority == a1.Priority) && ((r2.1.Action == a1.Action) && ((r2.1.Scope == a1.Scope) && ((seq r2.1.Pattern a1.Pattern) && true))))))) ?_ (Eq.trans (b := xbin PP .neq 43 (.p (.agg (k_Srule_Rule r2.1))) (.p (.agg (k_Srule_Rule a1)))) (by kernel_rfl) (xeq_neq (by kernel_rfl) (by kernel_rfl) (by kernel_rfl) (by kernel_rfl) (by kernel_rfl)))
    refine za ((!((r2.1.ID == a1.ID) && ((r2.1.Priority == a1.Priority) && ((r2.1.Action == a1.Action) && ((r2.1.Scope == a1.Scope) && ((seq r2.1.Pattern a1.Pattern) && true))))))) ?_ ?_
    · exact zk (g22_r9_sim (x46) (x47) (x48) (b0) (b1) (b2) (b3_Default) (b3_Closed) (b3_Fuel) (b3_Stack) (b3_Put) (b3_Drop) (a1) ox46 ob0_Rules ob1_Rules ob2_Put ob2_Drop ob3_Put ob3_Drop hob2_Put hob2_Drop hob3_Put hob3_Drop)
    · exact zk (g22_r10_sim (x46) (x47) (x48) (b0) (b1) (b2) (b3_Default) (b3_Closed) (b3_Fuel) (b3_Stack) (b3_Put) (b3_Drop) ox46 ob0_Rules ob1_Rules ob2_Put ob2_Drop ob3_Put ob3_Drop hob2_Put hob2_Drop hob3_Put hob3_Drop)
noncomputable def b22_r11 (b0 : Srule_Set) (b1 : Srule_Set) (b3_Default : Int) (b3_Closed : Int) (b3_Fuel : Int) (b3_Stack : Int) (b3_Put : List Srule_Rule) (b3_Drop : List Int) : Option (Srule_Delta × Int) :=
 g22_l12 b0.Rules ((b0.Rules.length : Int)) 0 b1 b3_Default b3_Closed b3_Fuel b3_Stack b3_Put b3_Drop
theorem g22_r11_sim (b0 : Srule_Set) (b1 : Srule_Set) (b2 : Srule_Delta) (b3_Default : Int) (b3_Closed : Int) (b3_Fuel : Int) (b3_Stack : Int) (b3_Put : List Srule_Rule) (b3_Drop : List Int) (ob0_Rules : Own) (ob1_Rules : Own) (ob2_Put : Own) (ob2_Drop : Own) (ob3_Put : Own) (ob3_Drop : Own) (hob2_Put : okApp ob2_Put = true) (hob2_Drop : okApp ob2_Drop = true) (hob3_Put : okApp ob3_Put = true) (hob3_Drop : okApp ob3_Drop = true) : Sim (Q22) (b22_r11 b0 b1 b3_Default b3_Closed b3_Fuel b3_Stack b3_Put b3_Drop) (f22_r11 0 (.ptr 0 0) (.ptr 1 0) (.ptr 2 0) (.ptr 3 0) [(r_Srule_Set b0 ob0_Rules), (r_Srule_Set b1 ob1_Rules), (r_Srule_Delta b2 ob2_Put ob2_Drop), (r_Srule_Delta (Srule_Delta.mk b3_Default b3_Closed b3_Fuel b3_Stack b3_Put b3_Drop) ob3_Put ob3_Drop)]) := by
  unfold b22_r11
  refine zf (f22_r11_eq ..) ?_
  refine ze ?_
  refine zo (.ptr 0 4) ?_
  refine zo (.p (.lst (shrO ob0_Rules) (b0.Rules.map e_Srule_Rule))) ?_
  refine zo (iv (b0.Rules.length : Int)) ?_ (Eq.trans (by kernel_rfl) (xlen_of (P := PP) (t := 22) (d := 43) (by kernel_rfl) e_Srule_Rule (shrO ob0_Rules) b0.Rules))
  exact zk (g22_l12_to (b0.Rules) ((b0.Rules.length : Int)) (0) (b0) (b1) (b2) (b3_Default) (b3_Closed) (b3_Fuel) (b3_Stack) (b3_Put) (b3_Drop) (shrO ob0_Rules) ob0_Rules ob1_Rules ob2_Put ob2_Drop ob3_Put ob3_Drop hob2_Put hob2_Drop hob3_Put hob3_Drop)
noncomputable def b22_l5 (x46 : List Srule_Rule) (x47 : Int) (x48 : Int) (b0 : Srule_Set) (b1 : Srule_Set) (b3_Default : Int) (b3_Closed : Int) (b3_Fuel : Int) (b3_Stack : Int) (b3_Put : List Srule_Rule) (b3_Drop : List Int) : Option (Srule_Delta × Int) :=
 if ((decide (x48 < x47))) = true then
 (b22_r6 x46 x47 x48 b0 b1 b3_Default b3_Closed b3_Fuel b3_Stack b3_Put b3_Drop)
 else
 (b22_r11 b0 b1 b3_Default b3_Closed b3_Fuel b3_Stack b3_Put b3_Drop)
theorem g22_l5_sim (x46 : List Srule_Rule) (x47 : Int) (x48 : Int) (b0 : Srule_Set) (b1 : Srule_Set) (b2 : Srule_Delta) (b3_Default : Int) (b3_Closed : Int) (b3_Fuel : Int) (b3_Stack : Int) (b3_Put : List Srule_Rule) (b3_Drop : List Int) (ox46 : Own) (ob0_Rules : Own) (ob1_Rules : Own) (ob2_Put : Own) (ob2_Drop : Own) (ob3_Put : Own) (ob3_Drop : Own) (hob2_Put : okApp ob2_Put = true) (hob2_Drop : okApp ob2_Drop = true) (hob3_Put : okApp ob3_Put = true) (hob3_Drop : okApp ob3_Drop = true) : Sim (Q22) (b22_l5 x46 x47 x48 b0 b1 b3_Default b3_Closed b3_Fuel b3_Stack b3_Put b3_Drop) (f22_l5 0 (.ptr 0 0) (.ptr 1 0) (.ptr 2 0) (.ptr 3 0) (.p (.lst ox46 (x46.map e_Srule_Rule))) (iv x47) (iv x48) [(r_Srule_Set b0 ob0_Rules), (r_Srule_Set b1 ob1_Rules), (r_Srule_Delta b2 ob2_Put ob2_Drop), (r_Srule_Delta (Srule_Delta.mk b3_Default b3_Closed b3_Fuel b3_Stack b3_Put b3_Drop) ob3_Put ob3_Drop)]) := by
  unfold b22_l5
  refine zf (f22_l5_eq ..) ?_
  refine ze ?_
  refine zo (bv (decide (x48 < x47))) ?_
  refine za ((decide (x48 < x47))) ?_ ?_
  · exact zk (g22_r6_sim (x46) (x47) (x48) (b0) (b1) (b2) (b3_Default) (b3_Closed) (b3_Fuel) (b3_Stack) (b3_Put) (b3_Drop) ox46 ob0_Rules ob1_Rules ob2_Put ob2_Drop ob3_Put ob3_Drop hob2_Put hob2_Drop hob3_Put hob3_Drop)
  · exact zk (g22_r11_sim (b0) (b1) (b2) (b3_Default) (b3_Closed) (b3_Fuel) (b3_Stack) (b3_Put) (b3_Drop) ob0_Rules ob1_Rules ob2_Put ob2_Drop ob3_Put ob3_Drop hob2_Put hob2_Drop hob3_Put hob3_Drop)
theorem g22_l5_of (x46 : List Srule_Rule) (x47 : Int) (x48 : Int) (b0 : Srule_Set) (b1 : Srule_Set) (b3_Default : Int) (b3_Closed : Int) (b3_Fuel : Int) (b3_Stack : Int) (b3_Put : List Srule_Rule) (b3_Drop : List Int) {r} (h : b22_l5 x46 x47 x48 b0 b1 b3_Default b3_Closed b3_Fuel b3_Stack b3_Put b3_Drop = some r) : g22_l5 x46 x47 x48 b0 b1 b3_Default b3_Closed b3_Fuel b3_Stack b3_Put b3_Drop = some r :=
  pick_of (fun _ _ ha hb => RRun.uniq (Q22_u) (ha default .ex .ex .ex .ex .ex .ex .ex rfl rfl rfl rfl) (hb default .ex .ex .ex .ex .ex .ex .ex rfl rfl rfl rfl)) (fun b2 ox46 ob0_Rules ob1_Rules ob2_Put ob2_Drop ob3_Put ob3_Drop hob2_Put hob2_Drop hob3_Put hob3_Drop => g22_l5_sim x46 x47 x48 b0 b1 b2 b3_Default b3_Closed b3_Fuel b3_Stack b3_Put b3_Drop ox46 ob0_Rules ob1_Rules ob2_Put ob2_Drop ob3_Put ob3_Drop hob2_Put hob2_Drop hob3_Put hob3_Drop r h)
noncomputable def b22_r17 (x74 : List Srule_Rule) (x75 : Int) (x76 : Int) (b1 : Srule_Set) (b3_Default : Int) (b3_Closed : Int) (b3_Fuel : Int) (b3_Stack : Int) (b3_Put : List Srule_Rule) (b3_Drop : List Int) : Option (Srule_Delta × Int) :=
 g22_l12 x74 x75 ((IntKind.i64.wrap (x76 + 1))) b1 b3_Default b3_Closed b3_Fuel b3_Stack b3_Put b3_Drop
theorem g22_r17_sim (x74 : List Srule_Rule) (x75 : Int) (x76 : Int) (b0 : Srule_Set) (b1 : Srule_Set) (b2 : Srule_Delta) (b3_Default : Int) (b3_Closed : Int) (b3_Fuel : Int) (b3_Stack : Int) (b3_Put : List Srule_Rule) (b3_Drop : List Int) (ox74 : Own) (ob0_Rules : Own) (ob1_Rules : Own) (ob2_Put : Own) (ob2_Drop : Own) (ob3_Put : Own) (ob3_Drop : Own) (hob2_Put : okApp ob2_Put = true) (hob2_Drop : okApp ob2_Drop = true) (hob3_Put : okApp ob3_Put = true) (hob3_Drop : okApp ob3_Drop = true) : Sim (Q22) (b22_r17 x74 x75 x76 b1 b3_Default b3_Closed b3_Fuel b3_Stack b3_Put b3_Drop) (f22_r17 0 (.ptr 1 0) (.ptr 2 0) (.ptr 3 0) (.p (.lst ox74 (x74.map e_Srule_Rule))) (iv x75) (iv x76) [(r_Srule_Set b0 ob0_Rules), (r_Srule_Set b1 ob1_Rules), (r_Srule_Delta b2 ob2_Put ob2_Drop), (r_Srule_Delta (Srule_Delta.mk b3_Default b3_Closed b3_Fuel b3_Stack b3_Put b3_Drop) ob3_Put ob3_Drop)]) := by
  unfold b22_r17
  refine zf (f22_r17_eq ..) ?_
  refine ze ?_
  refine zo (iv (IntKind.i64.wrap (x76 + 1))) ?_
  exact zk (g22_l12_to (x74) (x75) ((IntKind.i64.wrap (x76 + 1))) (b0) (b1) (b2) (b3_Default) (b3_Closed) (b3_Fuel) (b3_Stack) (b3_Put) (b3_Drop) ox74 ob0_Rules ob1_Rules ob2_Put ob2_Drop ob3_Put ob3_Drop hob2_Put hob2_Drop hob3_Put hob3_Drop)
noncomputable def b22_r13 (x74 : List Srule_Rule) (x75 : Int) (x76 : Int) (b1 : Srule_Set) (b3_Default : Int) (b3_Closed : Int) (b3_Fuel : Int) (b3_Stack : Int) (b3_Put : List Srule_Rule) (b3_Drop : List Int) : Option (Srule_Delta × Int) :=
 (lget x74 x76).bind fun a1 =>
 (g20 b1 a1.ID).bind fun r2 =>
 if ((!r2.2)) = true then
 ((lapp b3_Drop ([a1.ID] : List Int)).bind fun a3 =>
 b22_r17 x74 x75 x76 b1 b3_Default b3_Closed b3_Fuel b3_Stack b3_Put a3)
 else
 (b22_r17 x74 x75 x76 b1 b3_Default b3_Closed b3_Fuel b3_Stack b3_Put b3_Drop)
theorem g22_r13_sim (x74 : List Srule_Rule) (x75 : Int) (x76 : Int) (b0 : Srule_Set) (b1 : Srule_Set) (b2 : Srule_Delta) (b3_Default : Int) (b3_Closed : Int) (b3_Fuel : Int) (b3_Stack : Int) (b3_Put : List Srule_Rule) (b3_Drop : List Int) (ox74 : Own) (ob0_Rules : Own) (ob1_Rules : Own) (ob2_Put : Own) (ob2_Drop : Own) (ob3_Put : Own) (ob3_Drop : Own) (hob2_Put : okApp ob2_Put = true) (hob2_Drop : okApp ob2_Drop = true) (hob3_Put : okApp ob3_Put = true) (hob3_Drop : okApp ob3_Drop = true) : Sim (Q22) (b22_r13 x74 x75 x76 b1 b3_Default b3_Closed b3_Fuel b3_Stack b3_Put b3_Drop) (f22_r13 0 (.ptr 1 0) (.ptr 2 0) (.ptr 3 0) (.p (.lst ox74 (x74.map e_Srule_Rule))) (iv x75) (iv x76) [(r_Srule_Set b0 ob0_Rules), (r_Srule_Set b1 ob1_Rules), (r_Srule_Delta b2 ob2_Put ob2_Drop), (r_Srule_Delta (Srule_Delta.mk b3_Default b3_Closed b3_Fuel b3_Stack b3_Put b3_Drop) ob3_Put ob3_Drop)]) := by
  unfold b22_r13
  refine zf (f22_r13_eq ..) ?_
  refine ze ?_
  refine zi fun a1 ha1 => ?_
  refine zo (.cptr (k_Srule_Rule a1)) ?_ (Eq.trans (by kernel_rfl) (xidx_of (o := ox74) (k := .i64) (n := 5) (e := e_Srule_Rule) (cs := c_Srule_Rule) (fun _ => rfl) (fun _ => rfl) (by decide) ha1))
  refine zo (.p (.agg (k_Srule_Rule a1))) ?_
  refine zz (.ptr 4 0) [(r_Srule_Set b0 ob0_Rules), (r_Srule_Set b1 ob1_Rules), (r_Srule_Delta b2 ob2_Put ob2_Drop), (r_Srule_Delta (Srule_Delta.mk b3_Default b3_Closed b3_Fuel b3_Stack b3_Put b3_Drop) ob3_Put ob3_Drop), (r_Srule_Rule (Srule_Rule.mk 0 0 0 0 (ByteArray.mk #[])))] ?_
  refine zt [(r_Srule_Set b0 ob0_Rules), (r_Srule_Set b1 ob1_Rules), (r_Srule_Delta b2 ob2_Put ob2_Drop), (r_Srule_Delta (Srule_Delta.mk b3_Default b3_Closed b3_Fuel b3_Stack b3_Put b3_Drop) ob3_Put ob3_Drop), (r_Srule_Rule a1)] ?_
  refine ze ?_
  refine zo (.p (.agg (k_Srule_Set b1 (shrO ob1_Rules)))) ?_
  refine zo (.ptr 4 0) ?_
  refine zo (iv a1.ID) ?_
  refine zi fun r2 hr2 => ?_
  obtain ⟨qr2, er2, exr2, rfl⟩ := g20_to (b1) (a1.ID) .sh r2 hr2
  refine zc [] (.p (.tup [(.agg (k_Srule_Rule r2.1)), (.v (.bool r2.2))])) [(r_Srule_Set b0 ob0_Rules), (r_Srule_Set b1 ob1_Rules), (r_Srule_Delta b2 ob2_Put ob2_Drop), (r_Srule_Delta (Srule_Delta.mk b3_Default b3_Closed b3_Fuel b3_Stack b3_Put b3_Drop) ob3_Put ob3_Drop), (r_Srule_Rule a1)] er2 ?_
  refine zo (.p (.agg (k_Srule_Rule r2.1))) ?_
  refine zo (bv r2.2) ?_
  refine zz (.ptr 5 0) [(r_Srule_Set b0 ob0_Rules), (r_Srule_Set b1 ob1_Rules), (r_Srule_Delta b2 ob2_Put ob2_Drop), (r_Srule_Delta (Srule_Delta.mk b3_Default b3_Closed b3_Fuel b3_Stack b3_Put b3_Drop) ob3_Put ob3_Drop), (r_Srule_Rule a1), (r_Srule_Rule (Srule_Rule.mk 0 0 0 0 (ByteArray.mk #[])))] ?_
  refine zt [(r_Srule_Set b0 ob0_Rules), (r_Srule_Set b1 ob1_Rules), (r_Srule_Delta b2 ob2_Put ob2_Drop), (r_Srule_Delta (Srule_Delta.mk b3_Default b3_Closed b3_Fuel b3_Stack b3_Put b3_Drop) ob3_Put ob3_Drop), (r_Srule_Rule a1), (r_Srule_Rule r2.1)] ?_
  refine ze ?_
  refine zo (bv (!r2.2)) ?_
  refine za ((!r2.2)) ?_ ?_
  · refine ze ?_
    refine zo (.ptr 3 5) ?_
    refine zw (.p (.lst ob3_Drop (b3_Drop.map (eI .i64)))) [(r_Srule_Set b0 ob0_Rules), (r_Srule_Set b1 ob1_Rules), (r_Srule_Delta b2 ob2_Put ob2_Drop), (r_Srule_Delta (Srule_Delta.mk b3_Default b3_Closed b3_Fuel b3_Stack b3_Put b3_Drop) ob3_Put (shrO ob3_Drop)), (r_Srule_Rule a1), (r_Srule_Rule r2.1)] ?_
    refine zo (.ptr 4 0) ?_
    refine zo (iv a1.ID) ?_
    refine zo (.p (.lst .ex (([a1.ID] : List Int).map (eI .i64)))) ?_
    refine zi fun a3 ha3 => ?_
    refine zo (.p (.lst .un (a3.map (eI .i64)))) ?_ (Eq.trans (by kernel_rfl) <| xapp_of (n := 1) (o := ob3_Drop) (o' := .ex) (e := (eI .i64)) (ys := ([a1.ID] : List Int)) (fun _ => rfl) (by decide) hob3_Drop ha3)
    refine zo (.ptr 3 5) ?_
    refine zt [(r_Srule_Set b0 ob0_Rules), (r_Srule_Set b1 ob1_Rules), (r_Srule_Delta b2 ob2_Put ob2_Drop), (r_Srule_Delta (Srule_Delta.mk b3_Default b3_Closed b3_Fuel b3_Stack b3_Put a3) ob3_Put .un), (r_Srule_Rule a1), (r_Srule_Rule r2.1)] ?_
    exact zk (g22_r17_sim (x74) (x75) (x76) (b0) (b1) (b2) (b3_Default) (b3_Closed) (b3_Fuel) (b3_Stack) (b3_Put) (a3) ox74 ob0_Rules ob1_Rules ob2_Put ob2_Drop ob3_Put .un hob2_Put hob2_Drop hob3_Put rfl)
  · exact zk (g22_r17_sim (x74) (x75) (x76) (b0) (b1) (b2) (b3_Default) (b3_Closed) (b3_Fuel) (b3_Stack) (b3_Put) (b3_Drop) ox74 ob0_Rules ob1_Rules ob2_Put ob2_Drop ob3_Put ob3_Drop hob2_Put hob2_Drop hob3_Put hob3_Drop)
noncomputable def b22_r18 (b3_Default : Int) (b3_Closed : Int) (b3_Fuel : Int) (b3_Stack : Int) (b3_Put : List Srule_Rule) (b3_Drop : List Int) : Option (Srule_Delta × Int) :=
 some ((Srule_Delta.mk b3_Default b3_Closed b3_Fuel b3_Stack b3_Put b3_Drop), 0)
theorem g22_r18_sim (b0 : Srule_Set) (b1 : Srule_Set) (b2 : Srule_Delta) (b3_Default : Int) (b3_Closed : Int) (b3_Fuel : Int) (b3_Stack : Int) (b3_Put : List Srule_Rule) (b3_Drop : List Int) (ob0_Rules : Own) (ob1_Rules : Own) (ob2_Put : Own) (ob2_Drop : Own) (ob3_Put : Own) (ob3_Drop : Own) (hob2_Put : okApp ob2_Put = true) (hob2_Drop : okApp ob2_Drop = true) (hob3_Put : okApp ob3_Put = true) (hob3_Drop : okApp ob3_Drop = true) : Sim (Q22) (b22_r18 b3_Default b3_Closed b3_Fuel b3_Stack b3_Put b3_Drop) (f22_r18 0 (.ptr 2 0) (.ptr 3 0) [(r_Srule_Set b0 ob0_Rules), (r_Srule_Set b1 ob1_Rules), (r_Srule_Delta b2 ob2_Put ob2_Drop), (r_Srule_Delta (Srule_Delta.mk b3_Default b3_Closed b3_Fuel b3_Stack b3_Put b3_Drop) ob3_Put ob3_Drop)]) := by
  unfold b22_r18
  refine zf (f22_r18_eq ..) ?_
  refine ze ?_
  refine zo (.p (.agg (k_Srule_Delta (Srule_Delta.mk b3_Default b3_Closed b3_Fuel b3_Stack b3_Put b3_Drop) (shrO ob3_Put) (shrO ob3_Drop)))) ?_
  refine zt [(r_Srule_Set b0 ob0_Rules), (r_Srule_Set b1 ob1_Rules), (r_Srule_Delta (Srule_Delta.mk b3_Default b3_Closed b3_Fuel b3_Stack b3_Put b3_Drop) (shrO ob3_Put) (shrO ob3_Drop)), (r_Srule_Delta (Srule_Delta.mk b3_Default b3_Closed b3_Fuel b3_Stack b3_Put b3_Drop) ob3_Put ob3_Drop)] ?_
  exact zr ((.p (.tup [(.agg (k_Srule_Delta (Srule_Delta.mk b3_Default b3_Closed b3_Fuel b3_Stack b3_Put b3_Drop) .sh .sh)), (.v (.int .i64 0))])), [(r_Srule_Set b0 ob0_Rules), (r_Srule_Set b1 ob1_Rules), (r_Srule_Delta (Srule_Delta.mk b3_Default b3_Closed b3_Fuel b3_Stack b3_Put b3_Drop) (shrO ob3_Put) (shrO ob3_Drop)), (r_Srule_Delta (Srule_Delta.mk b3_Default b3_Closed b3_Fuel b3_Stack b3_Put b3_Drop) ob3_Put ob3_Drop)]) ⟨_, rfl⟩
noncomputable def b22_l12 (x74 : List Srule_Rule) (x75 : Int) (x76 : Int) (b1 : Srule_Set) (b3_Default : Int) (b3_Closed : Int) (b3_Fuel : Int) (b3_Stack : Int) (b3_Put : List Srule_Rule) (b3_Drop : List Int) : Option (Srule_Delta × Int) :=
 if ((decide (x76 < x75))) = true then
 (b22_r13 x74 x75 x76 b1 b3_Default b3_Closed b3_Fuel b3_Stack b3_Put b3_Drop)
 else
 (b22_r18 b3_Default b3_Closed b3_Fuel b3_Stack b3_Put b3_Drop)
theorem g22_l12_sim (x74 : List Srule_Rule) (x75 : Int) (x76 : Int) (b0 : Srule_Set) (b1 : Srule_Set) (b2 : Srule_Delta) (b3_Default : Int) (b3_Closed : Int) (b3_Fuel : Int) (b3_Stack : Int) (b3_Put : List Srule_Rule) (b3_Drop : List Int) (ox74 : Own) (ob0_Rules : Own) (ob1_Rules : Own) (ob2_Put : Own) (ob2_Drop : Own) (ob3_Put : Own) (ob3_Drop : Own) (hob2_Put : okApp ob2_Put = true) (hob2_Drop : okApp ob2_Drop = true) (hob3_Put : okApp ob3_Put = true) (hob3_Drop : okApp ob3_Drop = true) : Sim (Q22) (b22_l12 x74 x75 x76 b1 b3_Default b3_Closed b3_Fuel b3_Stack b3_Put b3_Drop) (f22_l12 0 (.ptr 1 0) (.ptr 2 0) (.ptr 3 0) (.p (.lst ox74 (x74.map e_Srule_Rule))) (iv x75) (iv x76) [(r_Srule_Set b0 ob0_Rules), (r_Srule_Set b1 ob1_Rules), (r_Srule_Delta b2 ob2_Put ob2_Drop), (r_Srule_Delta (Srule_Delta.mk b3_Default b3_Closed b3_Fuel b3_Stack b3_Put b3_Drop) ob3_Put ob3_Drop)]) := by
  unfold b22_l12
  refine zf (f22_l12_eq ..) ?_
  refine ze ?_
  refine zo (bv (decide (x76 < x75))) ?_
  refine za ((decide (x76 < x75))) ?_ ?_
  · exact zk (g22_r13_sim (x74) (x75) (x76) (b0) (b1) (b2) (b3_Default) (b3_Closed) (b3_Fuel) (b3_Stack) (b3_Put) (b3_Drop) ox74 ob0_Rules ob1_Rules ob2_Put ob2_Drop ob3_Put ob3_Drop hob2_Put hob2_Drop hob3_Put hob3_Drop)
  · exact zk (g22_r18_sim (b0) (b1) (b2) (b3_Default) (b3_Closed) (b3_Fuel) (b3_Stack) (b3_Put) (b3_Drop) ob0_Rules ob1_Rules ob2_Put ob2_Drop ob3_Put ob3_Drop hob2_Put hob2_Drop hob3_Put hob3_Drop)
theorem g22_l12_of (x74 : List Srule_Rule) (x75 : Int) (x76 : Int) (b1 : Srule_Set) (b3_Default : Int) (b3_Closed : Int) (b3_Fuel : Int) (b3_Stack : Int) (b3_Put : List Srule_Rule) (b3_Drop : List Int) {r} (h : b22_l12 x74 x75 x76 b1 b3_Default b3_Closed b3_Fuel b3_Stack b3_Put b3_Drop = some r) : g22_l12 x74 x75 x76 b1 b3_Default b3_Closed b3_Fuel b3_Stack b3_Put b3_Drop = some r :=
  pick_of (fun _ _ ha hb => RRun.uniq (Q22_u) (ha default default .ex .ex .ex .ex .ex .ex .ex rfl rfl rfl rfl) (hb default default .ex .ex .ex .ex .ex .ex .ex rfl rfl rfl rfl)) (fun b0 b2 ox74 ob0_Rules ob1_Rules ob2_Put ob2_Drop ob3_Put ob3_Drop hob2_Put hob2_Drop hob3_Put hob3_Drop => g22_l12_sim x74 x75 x76 b0 b1 b2 b3_Default b3_Closed b3_Fuel b3_Stack b3_Put b3_Drop ox74 ob0_Rules ob1_Rules ob2_Put ob2_Drop ob3_Put ob3_Drop hob2_Put hob2_Drop hob3_Put hob3_Drop r h)
end Go.Proofs.Ytbmmhbpalkepeaa.N2
end

section
set_option linter.unusedSimpArgs false
set_option linter.unusedVariables false
namespace Go.Proofs.Ytbmmhbpalkepeaa.N2
open Go Go.Abs
set_option linter.unusedVariables false
set_option maxRecDepth 100000
/-! "colander/rule.unlike": g38 -/
noncomputable def b38_r3 (x1 : Int) : Option (Int) :=
 some (x1)
theorem g38_r3_sim (x1 : Int) : Sim (Q38) (b38_r3 x1) (f38_r3 0 (iv x1) []) := by
  unfold b38_r3
  refine zf (f38_r3_eq ..) ?_
  refine ze ?_
  exact zr ((iv x1), []) ⟨_, rfl⟩
noncomputable def b38 (x0 : Int) (x1 : Int) : Option (Int) :=
 if ((x0 == x1)) = true then
 (some ((-1)))
 else
 (b38_r3 x1)
theorem g38_sim (x0 : Int) (x1 : Int) : Sim (Q38) (b38 x0 x1) (EE 38 [(iv x0), (iv x1)] []) := by
  unfold b38
  refine zf (f38_eq ..) ?_
  refine ze ?_
  refine ze ?_
  refine zo (bv (x0 == x1)) ?_
  refine za ((x0 == x1)) ?_ ?_
  · refine ze ?_
    exact zr ((iv (-1)), []) ⟨_, rfl⟩
  · exact zk (g38_r3_sim (x1))
theorem g38_of (x0 : Int) (x1 : Int) {r} (h : b38 x0 x1 = some r) : g38 x0 x1 = some r :=
  pick_of (fun _ _ ha hb => RRun.uniq (Q38_u) (ha ) (hb )) (g38_sim x0 x1 r h)
/-! "colander/colanderlaw07.RuleOrders": g9 -/
noncomputable def b9_r11 (x5 : List Int) (x6 : List Int) : Option (Bool) :=
 g9_l12 x6 x5 ((x5.length : Int)) 0
theorem g9_r11_sim (x5 : List Int) (x6 : List Int) (ox5 : Own) (ox6 : Own) : Sim (Q9) (b9_r11 x5 x6) (f9_r11 0 (.p (.lst ox5 (x5.map (eI .i64)))) (.p (.lst ox6 (x6.map (eI .i64)))) []) := by
  unfold b9_r11
  refine zf (f9_r11_eq ..) ?_
  refine ze ?_
  refine zo (iv (x5.length : Int)) ?_ (Eq.trans (by kernel_rfl) (xlen_of (P := PP) (t := 25) (d := 3) (by kernel_rfl) (eI .i64) (shrO ox5) x5))
  exact zk (g9_l12_to (x6) (x5) ((x5.length : Int)) (0) ox6 (shrO ox5))
noncomputable def b9_r8 (x1 : Int) (x5 : List Int) (b0 : Srule_Set) : Option (Bool) :=
 (g14 b0).bind fun r1 =>
 (g24 r1 x1).bind fun r2 =>
 if (((x5.length : Int) != (r2.length : Int))) = true then
 (some (false))
 else
 (b9_r11 x5 r2)
theorem g9_r8_sim (x1 : Int) (x5 : List Int) (b0 : Srule_Set) (ox5 : Own) (ob0_Rules : Own) : Sim (Q9) (b9_r8 x1 x5 b0) (f9_r8 0 (iv x1) (.ptr 0 0) (.p (.lst ox5 (x5.map (eI .i64)))) [(r_Srule_Set b0 ob0_Rules)]) := by
  unfold b9_r8
  refine zf (f9_r8_eq ..) ?_
  refine ze ?_
  refine zo (.p (.agg (k_Srule_Set b0 (shrO ob0_Rules)))) ?_
  refine zi fun r1 hr1 => ?_
  obtain ⟨qr1, er1, exr1, rfl⟩ := g14_to (b0) .sh r1 hr1
  refine zc [] (.p (.agg (k_Scolanderref07_Set r1 .sh))) [(r_Srule_Set b0 ob0_Rules)] er1 ?_
  refine zi fun r2 hr2 => ?_
  obtain ⟨qr2, er2, exr2, rfl⟩ := g24_to (r1) (x1) .sh r2 hr2
  refine zc [] (.p (.lst .sh (r2.map (eI .i64)))) [(r_Srule_Set b0 ob0_Rules)] er2 ?_
  refine ze ?_
  refine zo (iv (x5.length : Int)) ?_ (Eq.trans (by kernel_rfl) (xlen_of (P := PP) (t := 25) (d := 3) (by kernel_rfl) (eI .i64) (shrO ox5) x5))
  refine zo (iv (r2.length : Int)) ?_ (Eq.trans (by kernel_rfl) (xlen_of (P := PP) (t := 25) (d := 3) (by kernel_rfl) (eI .i64) .sh r2))
  refine zo (bv ((x5.length : Int) != (r2.length : Int))) ?_
  refine za (((x5.length : Int) != (r2.length : Int))) ?_ ?_
  · refine ze ?_
    exact zr ((bv false), [(r_Srule_Set b0 ob0_Rules)]) ⟨_, rfl⟩
  · exact zk (g9_r11_sim (x5) (r2) ox5 .sh)
noncomputable def b9_r5 (x1 : Int) (b0 : Srule_Set) : Option (Bool) :=
 (g23 b0 x1).bind fun r1 =>
 (g14 b0).bind fun r2 =>
 (g19 r2).bind fun r3 =>
 if ((!r3)) = true then
 (some (((r1.length : Int) == 0)))
 else
 (b9_r8 x1 r1 b0)
theorem g9_r5_sim (x1 : Int) (b0 : Srule_Set) (ob0_Rules : Own) : Sim (Q9) (b9_r5 x1 b0) (f9_r5 0 (iv x1) (.ptr 0 0) [(r_Srule_Set b0 ob0_Rules)]) := by
  unfold b9_r5
  refine zf (f9_r5_eq ..) ?_
  refine ze ?_
  refine zo (.p (.agg (k_Srule_Set b0 (shrO ob0_Rules)))) ?_
  refine zi fun r1 hr1 => ?_
  obtain ⟨qr1, er1, exr1, rfl⟩ := g23_to (b0) (x1) .sh r1 hr1
  refine zc [] (.p (.lst .sh (r1.map (eI .i64)))) [(r_Srule_Set b0 ob0_Rules)] er1 ?_
  refine ze ?_
  refine zo (.p (.agg (k_Srule_Set b0 (shrO ob0_Rules)))) ?_
  refine zi fun r2 hr2 => ?_
  obtain ⟨qr2, er2, exr2, rfl⟩ := g14_to (b0) .sh r2 hr2
  refine zc [] (.p (.agg (k_Scolanderref07_Set r2 .sh))) [(r_Srule_Set b0 ob0_Rules)] er2 ?_
  refine zi fun r3 hr3 => ?_
  obtain ⟨qr3, er3, exr3, rfl⟩ := g19_to (r2) .sh r3 hr3
  refine zc [] (bv r3) [(r_Srule_Set b0 ob0_Rules)] er3 ?_
  refine zo (bv (!r3)) ?_
  refine za ((!r3)) ?_ ?_
  · refine ze ?_
    refine zo (iv (r1.length : Int)) ?_ (Eq.trans (by kernel_rfl) (xlen_of (P := PP) (t := 25) (d := 3) (by kernel_rfl) (eI .i64) .sh r1))
    refine zo (bv ((r1.length : Int) == 0)) ?_
    exact zr ((bv ((r1.length : Int) == 0)), [(r_Srule_Set b0 ob0_Rules)]) ⟨_, rfl⟩
  · exact zk (g9_r8_sim (x1) (r1) (b0) .sh ob0_Rules)
noncomputable def b9_r3 (x1 : Int) (b0 : Srule_Set) : Option (Bool) :=
 (g11 b0 ((Srule_Delta.mk 0 0 0 0 ([] : List Srule_Rule) ([] : List Int)))).bind fun r1 =>
 if ((!r1)) = true then
 (some (true))
 else
 (b9_r5 x1 b0)
theorem g9_r3_sim (x1 : Int) (b0 : Srule_Set) (ob0_Rules : Own) : Sim (Q9) (b9_r3 x1 b0) (f9_r3 0 (iv x1) (.ptr 0 0) [(r_Srule_Set b0 ob0_Rules)]) := by
  unfold b9_r3
  refine zf (f9_r3_eq ..) ?_
  refine ze ?_
  refine zo (.p (.agg (k_Srule_Set b0 (shrO ob0_Rules)))) ?_
  refine zo (.p (.agg (k_Srule_Delta (Srule_Delta.mk 0 0 0 0 ([] : List Srule_Rule) ([] : List Int)) .nl .nl))) ?_
  refine zi fun r1 hr1 => ?_
  obtain ⟨qr1, er1, exr1, rfl⟩ := g11_to (b0) ((Srule_Delta.mk 0 0 0 0 ([] : List Srule_Rule) ([] : List Int))) .sh .sh .sh r1 hr1
  refine zc [] (bv r1) [(r_Srule_Set b0 ob0_Rules)] er1 ?_
  refine zo (bv (!r1)) ?_
  refine za ((!r1)) ?_ ?_
  · refine ze ?_
    exact zr ((bv true), [(r_Srule_Set b0 ob0_Rules)]) ⟨_, rfl⟩
  · exact zk (g9_r5_sim (x1) (b0) ob0_Rules)
noncomputable def b9 (x0 : Srule_Set) (x1 : Int) : Option (Bool) :=
 (g10).bind fun r1 =>
 if ((!r1)) = true then
 (some (false))
 else
 (b9_r3 x1 x0)
theorem g9_sim (x0 : Srule_Set) (x1 : Int) (ox0_Rules : Own) : Sim (Q9) (b9 x0 x1) (EE 9 [(.p (.agg (k_Srule_Set x0 ox0_Rules))), (iv x1)] []) := by
  unfold b9
  refine zf (f9_eq ..) ?_
  refine ze ?_
  refine zx (.ptr 0 0) [(r_Srule_Set x0 ox0_Rules)] ?_
  refine ze ?_
  refine zi fun r1 hr1 => ?_
  obtain ⟨qr1, er1, exr1, rfl⟩ := g10_to  r1 hr1
  refine zc [] (bv r1) [(r_Srule_Set x0 ox0_Rules)] er1 ?_
  refine zo (bv (!r1)) ?_
  refine za ((!r1)) ?_ ?_
  · refine ze ?_
    exact zr ((bv false), [(r_Srule_Set x0 ox0_Rules)]) ⟨_, rfl⟩
  · exact zk (g9_r3_sim (x1) (x0) ox0_Rules)
theorem g9_of (x0 : Srule_Set) (x1 : Int) {r} (h : b9 x0 x1 = some r) : g9 x0 x1 = some r :=
  pick_of (fun _ _ ha hb => RRun.uniq (Q9_u) (ha .ex) (hb .ex)) (fun ox0_Rules => g9_sim x0 x1 ox0_Rules r h)
noncomputable def b9_r16 (x6 : List Int) (x34 : List Int) (x35 : Int) (x36 : Int) : Option (Bool) :=
 g9_l12 x6 x34 x35 ((IntKind.i64.wrap (x36 + 1)))
theorem g9_r16_sim (x6 : List Int) (x34 : List Int) (x35 : Int) (x36 : Int) (ox6 : Own) (ox34 : Own) : Sim (Q9) (b9_r16 x6 x34 x35 x36) (f9_r16 0 (.p (.lst ox6 (x6.map (eI .i64)))) (.p (.lst ox34 (x34.map (eI .i64)))) (iv x35) (iv x36) []) := by
  unfold b9_r16
  refine zf (f9_r16_eq ..) ?_
  refine ze ?_
  refine zo (iv (IntKind.i64.wrap (x36 + 1))) ?_
  exact zk (g9_l12_to (x6) (x34) (x35) ((IntKind.i64.wrap (x36 + 1))) ox6 ox34)
noncomputable def b9_r13 (x6 : List Int) (x34 : List Int) (x35 : Int) (x36 : Int) : Option (Bool) :=
 (lget x34 x36).bind fun a1 =>
 (lget x6 x36).bind fun a2 =>
 if ((a1 != a2)) = true then
 (some (false))
 else
 (b9_r16 x6 x34 x35 x36)
theorem g9_r13_sim (x6 : List Int) (x34 : List Int) (x35 : Int) (x36 : Int) (ox6 : Own) (ox34 : Own) : Sim (Q9) (b9_r13 x6 x34 x35 x36) (f9_r13 0 (.p (.lst ox6 (x6.map (eI .i64)))) (.p (.lst ox34 (x34.map (eI .i64)))) (iv x35) (iv x36) []) := by
  unfold b9_r13
  refine zf (f9_r13_eq ..) ?_
  refine ze ?_
  refine zi fun a1 ha1 => ?_
  refine zo (.cptr [(.v (.int .i64 a1))]) ?_ (Eq.trans (by kernel_rfl) (xidx_of (o := ox34) (k := .i64) (n := 1) (e := (eI .i64)) (cs := (fun a => [(eI .i64) a])) (fun _ => rfl) (fun _ => rfl) (by decide) ha1))
  refine zo (iv a1) ?_
  refine ze ?_
  refine zi fun a2 ha2 => ?_
  refine zo (.cptr [(.v (.int .i64 a2))]) ?_ (Eq.trans (by kernel_rfl) (xidx_of (o := (shrO ox6)) (k := .i64) (n := 1) (e := (eI .i64)) (cs := (fun a => [(eI .i64) a])) (fun _ => rfl) (fun _ => rfl) (by decide) ha2))
  refine zo (iv a2) ?_
  refine zo (bv (a1 != a2)) ?_
  refine za ((a1 != a2)) ?_ ?_
  · refine ze ?_
    exact zr ((bv false), []) ⟨_, rfl⟩
  · exact zk (g9_r16_sim (x6) (x34) (x35) (x36) ox6 ox34)
noncomputable def b9_r17  : Option (Bool) :=
 some (true)
theorem g9_r17_sim  : Sim (Q9) (b9_r17) (f9_r17 0  []) := by
  unfold b9_r17
  refine zf (f9_r17_eq ..) ?_
  refine ze ?_
  exact zr ((bv true), []) ⟨_, rfl⟩
noncomputable def b9_l12 (x6 : List Int) (x34 : List Int) (x35 : Int) (x36 : Int) : Option (Bool) :=
 if ((decide (x36 < x35))) = true then
 (b9_r13 x6 x34 x35 x36)
 else
 (b9_r17)
theorem g9_l12_sim (x6 : List Int) (x34 : List Int) (x35 : Int) (x36 : Int) (ox6 : Own) (ox34 : Own) : Sim (Q9) (b9_l12 x6 x34 x35 x36) (f9_l12 0 (.p (.lst ox6 (x6.map (eI .i64)))) (.p (.lst ox34 (x34.map (eI .i64)))) (iv x35) (iv x36) []) := by
  unfold b9_l12
  refine zf (f9_l12_eq ..) ?_
  refine ze ?_
  refine zo (bv (decide (x36 < x35))) ?_
  refine za ((decide (x36 < x35))) ?_ ?_
  · exact zk (g9_r13_sim (x6) (x34) (x35) (x36) ox6 ox34)
  · exact zk (g9_r17_sim )
theorem g9_l12_of (x6 : List Int) (x34 : List Int) (x35 : Int) (x36 : Int) {r} (h : b9_l12 x6 x34 x35 x36 = some r) : g9_l12 x6 x34 x35 x36 = some r :=
  pick_of (fun _ _ ha hb => RRun.uniq (Q9_u) (ha .ex .ex) (hb .ex .ex)) (fun ox6 ox34 => g9_l12_sim x6 x34 x35 x36 ox6 ox34 r h)
/-! "(colander/rule.Set).Order": g23 -/
noncomputable def b23_r3 (x1 : Int) (b0 : Srule_Set) : Option ((List Int)) :=
 g23_l5 x1 (([] : List Int)) b0.Rules ((b0.Rules.length : Int)) 0 b0
theorem g23_r3_sim (x1 : Int) (b0 : Srule_Set) (ob0_Rules : Own) : Sim (Q23) (b23_r3 x1 b0) (f23_r3 0 (iv x1) (.ptr 0 0) [(r_Srule_Set b0 ob0_Rules)]) := by
  unfold b23_r3
  refine zf (f23_r3_eq ..) ?_
  refine ze ?_
  refine ze ?_
  refine zo (.ptr 0 4) ?_
  refine zo (.p (.lst (shrO ob0_Rules) (b0.Rules.map e_Srule_Rule))) ?_
  refine zo (iv (b0.Rules.length : Int)) ?_ (Eq.trans (by kernel_rfl) (xlen_of (P := PP) (t := 22) (d := 43) (by kernel_rfl) e_Srule_Rule (shrO ob0_Rules) b0.Rules))
  exact zk (g23_l5_to (x1) (([] : List Int)) (b0.Rules) ((b0.Rules.length : Int)) (0) (b0) .nl (shrO ob0_Rules) ob0_Rules rfl)
noncomputable def b23 (x0 : Srule_Set) (x1 : Int) : Option ((List Int)) :=
 (g16 x0).bind fun r1 =>
 if ((!r1)) = true then
 (some (([] : List Int)))
 else
 (b23_r3 x1 x0)
theorem g23_sim (x0 : Srule_Set) (x1 : Int) (ox0_Rules : Own) : Sim (Q23) (b23 x0 x1) (EE 23 [(.p (.agg (k_Srule_Set x0 ox0_Rules))), (iv x1)] []) := by
  unfold b23
  refine zf (f23_eq ..) ?_
  refine ze ?_
  refine zx (.ptr 0 0) [(r_Srule_Set x0 ox0_Rules)] ?_
  refine ze ?_
  refine zo (.p (.agg (k_Srule_Set x0 (shrO ox0_Rules)))) ?_
  refine zi fun r1 hr1 => ?_
  obtain ⟨qr1, er1, exr1, rfl⟩ := g16_to (x0) .sh r1 hr1
  refine zc [] (bv r1) [(r_Srule_Set x0 ox0_Rules)] er1 ?_
  refine zo (bv (!r1)) ?_
  refine za ((!r1)) ?_ ?_
  · refine ze ?_
    exact zr ((.p (.lst .sh [])), [(r_Srule_Set x0 ox0_Rules)]) ⟨_, rfl⟩
  · exact zk (g23_r3_sim (x1) (x0) ox0_Rules)
theorem g23_of (x0 : Srule_Set) (x1 : Int) {r} (h : b23 x0 x1 = some r) : g23 x0 x1 = some r :=
  pick_of (fun _ _ ha hb => RRun.uniq (Q23_u) (ha .ex) (hb .ex)) (fun ox0_Rules => g23_sim x0 x1 ox0_Rules r h)
noncomputable def b23_r9 (x1 : Int) (x5 : List Int) (x12 : List Srule_Rule) (x13 : Int) (x14 : Int) (b0 : Srule_Set) : Option ((List Int)) :=
 g23_l5 x1 x5 x12 x13 ((IntKind.i64.wrap (x14 + 1))) b0
theorem g23_r9_sim (x1 : Int) (x5 : List Int) (x12 : List Srule_Rule) (x13 : Int) (x14 : Int) (b0 : Srule_Set) (ox5 : Own) (ox12 : Own) (ob0_Rules : Own) (hox5 : okApp ox5 = true) : Sim (Q23) (b23_r9 x1 x5 x12 x13 x14 b0) (f23_r9 0 (iv x1) (.ptr 0 0) (.p (.lst ox5 (x5.map (eI .i64)))) (.p (.lst ox12 (x12.map e_Srule_Rule))) (iv x13) (iv x14) [(r_Srule_Set b0 ob0_Rules)]) := by
  unfold b23_r9
  refine zf (f23_r9_eq ..) ?_
  refine ze ?_
  refine zo (iv (IntKind.i64.wrap (x14 + 1))) ?_
  exact zk (g23_l5_to (x1) (x5) (x12) (x13) ((IntKind.i64.wrap (x14 + 1))) (b0) ox5 ox12 ob0_Rules hox5)
noncomputable def b23_r6 (x1 : Int) (x5 : List Int) (x12 : List Srule_Rule) (x13 : Int) (x14 : Int) (b0 : Srule_Set) : Option ((List Int)) :=
 (lget x12 x14).bind fun a1 =>
 if (((iand .i64 a1.Scope x1) != 0)) = true then
 ((lapp x5 ([x14] : List Int)).bind fun a2 =>
 b23_r9 x1 a2 x12 x13 x14 b0)
 else
 (b23_r9 x1 x5 x12 x13 x14 b0)
theorem g23_r6_sim (x1 : Int) (x5 : List Int) (x12 : List Srule_Rule) (x13 : Int) (x14 : Int) (b0 : Srule_Set) (ox5 : Own) (ox12 : Own) (ob0_Rules : Own) (hox5 : okApp ox5 = true) : Sim (Q23) (b23_r6 x1 x5 x12 x13 x14 b0) (f23_r6 0 (iv x1) (.ptr 0 0) (.p (.lst ox5 (x5.map (eI .i64)))) (.p (.lst ox12 (x12.map e_Srule_Rule))) (iv x13) (iv x14) [(r_Srule_Set b0 ob0_Rules)]) := by
  unfold b23_r6
  refine zf (f23_r6_eq ..) ?_
  refine ze ?_
  refine zi fun a1 ha1 => ?_
  refine zo (.cptr (k_Srule_Rule a1)) ?_ (Eq.trans (by kernel_rfl) (xidx_of (o := ox12) (k := .i64) (n := 5) (e := e_Srule_Rule) (cs := c_Srule_Rule) (fun _ => rfl) (fun _ => rfl) (by decide) ha1))
  refine zo (.p (.agg (k_Srule_Rule a1))) ?_
  refine zz (.ptr 1 0) [(r_Srule_Set b0 ob0_Rules), (r_Srule_Rule (Srule_Rule.mk 0 0 0 0 (ByteArray.mk #[])))] ?_
  refine zt [(r_Srule_Set b0 ob0_Rules), (r_Srule_Rule a1)] ?_
  refine ze ?_
  refine zo (.ptr 1 3) ?_
  refine zo (iv a1.Scope) ?_
  refine zo (iv (iand .i64 a1.Scope x1)) ?_
  refine zo (bv ((iand .i64 a1.Scope x1) != 0)) ?_
  refine za (((iand .i64 a1.Scope x1) != 0)) ?_ ?_
  · refine ze ?_
    refine zo (.p (.lst .ex (([x14] : List Int).map (eI .i64)))) ?_
    refine zi fun a2 ha2 => ?_
    refine zo (.p (.lst .un (a2.map (eI .i64)))) ?_ (Eq.trans (by kernel_rfl) <| xapp_of (n := 1) (o := ox5) (o' := .ex) (e := (eI .i64)) (ys := ([x14] : List Int)) (fun _ => rfl) (by decide) hox5 ha2)
    exact zk (g23_r9_sim (x1) (a2) (x12) (x13) (x14) (b0) .un ox12 ob0_Rules rfl)
  · exact zk (g23_r9_sim (x1) (x5) (x12) (x13) (x14) (b0) ox5 ox12 ob0_Rules hox5)
noncomputable def b23_r10 (x5 : List Int) (b0 : Srule_Set) : Option ((List Int)) :=
 (g39 x5 b0).bind fun r1 =>
 some (x5)
theorem g23_r10_sim (x5 : List Int) (b0 : Srule_Set) (ox5 : Own) (ob0_Rules : Own) (hox5 : okApp ox5 = true) : Sim (Q23) (b23_r10 x5 b0) (f23_r10 0 (.ptr 0 0) (.p (.lst ox5 (x5.map (eI .i64)))) [(r_Srule_Set b0 ob0_Rules)]) := by
  unfold b23_r10
  refine zf (f23_r10_eq ..) ?_
  refine ze ?_
  refine zi fun r1 hr1 => ?_
  obtain ⟨qr1, er1, exr1, rfl⟩ := g39_to (x5) (b0) .sh ob0_Rules r1 hr1
  refine zc [0] (.p (.tup [])) [(r_Srule_Set b0 ob0_Rules)] er1 ?_
  refine ze ?_
  exact zr ((.p (.lst .sh (x5.map (eI .i64)))), [(r_Srule_Set b0 ob0_Rules)]) ⟨_, rfl⟩
noncomputable def b23_l5 (x1 : Int) (x5 : List Int) (x12 : List Srule_Rule) (x13 : Int) (x14 : Int) (b0 : Srule_Set) : Option ((List Int)) :=
 if ((decide (x14 < x13))) = true then
 (b23_r6 x1 x5 x12 x13 x14 b0)
 else
 (b23_r10 x5 b0)
theorem g23_l5_sim (x1 : Int) (x5 : List Int) (x12 : List Srule_Rule) (x13 : Int) (x14 : Int) (b0 : Srule_Set) (ox5 : Own) (ox12 : Own) (ob0_Rules : Own) (hox5 : okApp ox5 = true) : Sim (Q23) (b23_l5 x1 x5 x12 x13 x14 b0) (f23_l5 0 (iv x1) (.ptr 0 0) (.p (.lst ox5 (x5.map (eI .i64)))) (.p (.lst ox12 (x12.map e_Srule_Rule))) (iv x13) (iv x14) [(r_Srule_Set b0 ob0_Rules)]) := by
  unfold b23_l5
  refine zf (f23_l5_eq ..) ?_
  refine ze ?_
  refine zo (bv (decide (x14 < x13))) ?_
  refine za ((decide (x14 < x13))) ?_ ?_
  · exact zk (g23_r6_sim (x1) (x5) (x12) (x13) (x14) (b0) ox5 ox12 ob0_Rules hox5)
  · exact zk (g23_r10_sim (x5) (b0) ox5 ob0_Rules hox5)
theorem g23_l5_of (x1 : Int) (x5 : List Int) (x12 : List Srule_Rule) (x13 : Int) (x14 : Int) (b0 : Srule_Set) {r} (h : b23_l5 x1 x5 x12 x13 x14 b0 = some r) : g23_l5 x1 x5 x12 x13 x14 b0 = some r :=
  pick_of (fun _ _ ha hb => RRun.uniq (Q23_u) (ha .ex .ex .ex rfl) (hb .ex .ex .ex rfl)) (fun ox5 ox12 ob0_Rules hox5 => g23_l5_sim x1 x5 x12 x13 x14 b0 ox5 ox12 ob0_Rules hox5 r h)
/-! "(colander/colanderref07.Set).Order": g24 -/
noncomputable def b24 (x0 : Scolanderref07_Set) (x1 : Int) : Option ((List Int)) :=
 g24_l3 x1 (([] : List Int)) 1000 x0
theorem g24_sim (x0 : Scolanderref07_Set) (x1 : Int) (ox0_Rules : Own) : Sim (Q24) (b24 x0 x1) (EE 24 [(.p (.agg (k_Scolanderref07_Set x0 ox0_Rules))), (iv x1)] []) := by
  unfold b24
  refine zf (f24_eq ..) ?_
  refine ze ?_
  refine zx (.ptr 0 0) [(r_Scolanderref07_Set x0 ox0_Rules)] ?_
  refine ze ?_
  refine ze ?_
  exact zk (g24_l3_to (x1) (([] : List Int)) (1000) (x0) .nl ox0_Rules rfl)
theorem g24_of (x0 : Scolanderref07_Set) (x1 : Int) {r} (h : b24 x0 x1 = some r) : g24 x0 x1 = some r :=
  pick_of (fun _ _ ha hb => RRun.uniq (Q24_u) (ha .ex) (hb .ex)) (fun ox0_Rules => g24_sim x0 x1 ox0_Rules r h)
noncomputable def b24_r5 (x1 : Int) (x5 : List Int) (x6 : Int) (b0 : Scolanderref07_Set) : Option ((List Int)) :=
 g24_l6 x1 x5 x6 0 b0
theorem g24_r5_sim (x1 : Int) (x5 : List Int) (x6 : Int) (b0 : Scolanderref07_Set) (ox5 : Own) (ob0_Rules : Own) (hox5 : okApp ox5 = true) : Sim (Q24) (b24_r5 x1 x5 x6 b0) (f24_r5 0 (iv x1) (.ptr 0 0) (.p (.lst ox5 (x5.map (eI .i64)))) (iv x6) [(r_Scolanderref07_Set b0 ob0_Rules)]) := by
  unfold b24_r5
  refine zf (f24_r5_eq ..) ?_
  refine ze ?_
  exact zk (g24_l6_to (x1) (x5) (x6) (0) (b0) ox5 ob0_Rules hox5)
noncomputable def b24_r10 (x5 : List Int) : Option ((List Int)) :=
 some (x5)
theorem g24_r10_sim (x5 : List Int) (ox5 : Own) (hox5 : okApp ox5 = true) : Sim (Q24) (b24_r10 x5) (f24_r10 0 (.p (.lst ox5 (x5.map (eI .i64)))) []) := by
  unfold b24_r10
  refine zf (f24_r10_eq ..) ?_
  refine ze ?_
  exact zr ((.p (.lst .sh (x5.map (eI .i64)))), []) ⟨_, rfl⟩
noncomputable def b24_l3 (x1 : Int) (x5 : List Int) (x6 : Int) (b0 : Scolanderref07_Set) : Option ((List Int)) :=
 if ((decide (0 ≤ x6))) = true then
 (b24_r5 x1 x5 x6 b0)
 else
 (b24_r10 x5)
theorem g24_l3_sim (x1 : Int) (x5 : List Int) (x6 : Int) (b0 : Scolanderref07_Set) (ox5 : Own) (ob0_Rules : Own) (hox5 : okApp ox5 = true) : Sim (Q24) (b24_l3 x1 x5 x6 b0) (f24_l3 0 (iv x1) (.ptr 0 0) (.p (.lst ox5 (x5.map (eI .i64)))) (iv x6) [(r_Scolanderref07_Set b0 ob0_Rules)]) := by
  unfold b24_l3
  refine zf (f24_l3_eq ..) ?_
  refine ze ?_
  refine zo (bv (decide (0 ≤ x6))) ?_
  refine za ((decide (0 ≤ x6))) ?_ ?_
  · exact zk (g24_r5_sim (x1) (x5) (x6) (b0) ox5 ob0_Rules hox5)
  · exact zk (g24_r10_sim (x5) ox5 hox5)
theorem g24_l3_of (x1 : Int) (x5 : List Int) (x6 : Int) (b0 : Scolanderref07_Set) {r} (h : b24_l3 x1 x5 x6 b0 = some r) : g24_l3 x1 x5 x6 b0 = some r :=
  pick_of (fun _ _ ha hb => RRun.uniq (Q24_u) (ha .ex .ex rfl) (hb .ex .ex rfl)) (fun ox5 ob0_Rules hox5 => g24_l3_sim x1 x5 x6 b0 ox5 ob0_Rules hox5 r h)
noncomputable def b24_r7 (x1 : Int) (x5 : List Int) (x6 : Int) (x7 : Int) (b0 : Scolanderref07_Set) : Option ((List Int)) :=
 g24_l6 x1 x5 x6 ((IntKind.i64.wrap (x7 + 1))) b0
theorem g24_r7_sim (x1 : Int) (x5 : List Int) (x6 : Int) (x7 : Int) (b0 : Scolanderref07_Set) (ox5 : Own) (ob0_Rules : Own) (hox5 : okApp ox5 = true) : Sim (Q24) (b24_r7 x1 x5 x6 x7 b0) (f24_r7 0 (iv x1) (.ptr 0 0) (.p (.lst ox5 (x5.map (eI .i64)))) (iv x6) (iv x7) [(r_Scolanderref07_Set b0 ob0_Rules)]) := by
  unfold b24_r7
  refine zf (f24_r7_eq ..) ?_
  refine ze ?_
  refine zo (iv (IntKind.i64.wrap (x7 + 1))) ?_
  exact zk (g24_l6_to (x1) (x5) (x6) ((IntKind.i64.wrap (x7 + 1))) (b0) ox5 ob0_Rules hox5)
noncomputable def b24_r9 (x1 : Int) (x5 : List Int) (x6 : Int) (x7 : Int) (b0 : Scolanderref07_Set) : Option ((List Int)) :=
 (lapp x5 ([x7] : List Int)).bind fun a1 =>
 b24_r7 x1 a1 x6 x7 b0
theorem g24_r9_sim (x1 : Int) (x5 : List Int) (x6 : Int) (x7 : Int) (b0 : Scolanderref07_Set) (ox5 : Own) (ob0_Rules : Own) (hox5 : okApp ox5 = true) : Sim (Q24) (b24_r9 x1 x5 x6 x7 b0) (f24_r9 0 (iv x1) (.ptr 0 0) (.p (.lst ox5 (x5.map (eI .i64)))) (iv x6) (iv x7) [(r_Scolanderref07_Set b0 ob0_Rules)]) := by
  unfold b24_r9
  refine zf (f24_r9_eq ..) ?_
  refine ze ?_
  refine zo (.p (.lst .ex (([x7] : List Int).map (eI .i64)))) ?_
  refine zi fun a1 ha1 => ?_
  refine zo (.p (.lst .un (a1.map (eI .i64)))) ?_ (Eq.trans (by kernel_rfl) <| xapp_of (n := 1) (o := ox5) (o' := .ex) (e := (eI .i64)) (ys := ([x7] : List Int)) (fun _ => rfl) (by decide) hox5 ha1)
  exact zk (g24_r7_sim (x1) (a1) (x6) (x7) (b0) .un ob0_Rules rfl)
noncomputable def b24_r8 (x1 : Int) (x5 : List Int) (x6 : Int) (x7 : Int) (b0 : Scolanderref07_Set) : Option ((List Int)) :=
 (lget b0.Rules x7).bind fun a1 =>
 if ((a1.Priority == x6)) = true then
 ((lget b0.Rules x7).bind fun a2 =>
 if (((iand .i64 a2.Scope x1) != 0)) = true then
 (b24_r9 x1 x5 x6 x7 b0)
 else
 (b24_r7 x1 x5 x6 x7 b0))
 else
 (b24_r7 x1 x5 x6 x7 b0)
theorem g24_r8_sim (x1 : Int) (x5 : List Int) (x6 : Int) (x7 : Int) (b0 : Scolanderref07_Set) (ox5 : Own) (ob0_Rules : Own) (hox5 : okApp ox5 = true) : Sim (Q24) (b24_r8 x1 x5 x6 x7 b0) (f24_r8 0 (iv x1) (.ptr 0 0) (.p (.lst ox5 (x5.map (eI .i64)))) (iv x6) (iv x7) [(r_Scolanderref07_Set b0 ob0_Rules)]) := by
  unfold b24_r8
  refine zf (f24_r8_eq ..) ?_
  refine ze ?_
  refine zo (.ptr 0 4) ?_
  refine zo (.p (.lst (shrO ob0_Rules) (b0.Rules.map e_Srule_Rule))) ?_
  refine zi fun a1 ha1 => ?_
  refine zo (.cptr (k_Srule_Rule a1)) ?_ (Eq.trans (by kernel_rfl) (xidx_of (o := (shrO ob0_Rules)) (k := .i64) (n := 5) (e := e_Srule_Rule) (cs := c_Srule_Rule) (fun _ => rfl) (fun _ => rfl) (by decide) ha1))
  refine zo (.cptr [(.v (.int .i64 a1.Priority)), (.v (.int .i64 a1.Action)), (.v (.int .i64 a1.Scope)), (.v (.string a1.Pattern))]) ?_
  refine zo (iv a1.Priority) ?_
  refine zo (bv (a1.Priority == x6)) ?_
  refine za ((a1.Priority == x6)) ?_ ?_
  · refine zo (.ptr 0 4) ?_
    refine zo (.p (.lst (shrO ob0_Rules) (b0.Rules.map e_Srule_Rule))) ?_
    refine zi fun a2 ha2 => ?_
    refine zo (.cptr (k_Srule_Rule a2)) ?_ (Eq.trans (by kernel_rfl) (xidx_of (o := (shrO ob0_Rules)) (k := .i64) (n := 5) (e := e_Srule_Rule) (cs := c_Srule_Rule) (fun _ => rfl) (fun _ => rfl) (by decide) ha2))
    refine zo (.cptr [(.v (.int .i64 a2.Scope)), (.v (.string a2.Pattern))]) ?_
    refine zo (iv a2.Scope) ?_
    refine zo (iv (iand .i64 a2.Scope x1)) ?_
    refine zo (bv ((iand .i64 a2.Scope x1) != 0)) ?_
    refine za (((iand .i64 a2.Scope x1) != 0)) ?_ ?_
    · exact zk (g24_r9_sim (x1) (x5) (x6) (x7) (b0) ox5 ob0_Rules hox5)
    · exact zk (g24_r7_sim (x1) (x5) (x6) (x7) (b0) ox5 ob0_Rules hox5)
  · exact zk (g24_r7_sim (x1) (x5) (x6) (x7) (b0) ox5 ob0_Rules hox5)
noncomputable def b24_r4 (x1 : Int) (x5 : List Int) (x6 : Int) (b0 : Scolanderref07_Set) : Option ((List Int)) :=
 g24_l3 x1 x5 ((IntKind.i64.wrap (x6 - 1))) b0
theorem g24_r4_sim (x1 : Int) (x5 : List Int) (x6 : Int) (b0 : Scolanderref07_Set) (ox5 : Own) (ob0_Rules : Own) (hox5 : okApp ox5 = true) : Sim (Q24) (b24_r4 x1 x5 x6 b0) (f24_r4 0 (iv x1) (.ptr 0 0) (.p (.lst ox5 (x5.map (eI .i64)))) (iv x6) [(r_Scolanderref07_Set b0 ob0_Rules)]) := by
  unfold b24_r4
  refine zf (f24_r4_eq ..) ?_
  refine ze ?_
  refine zo (iv (IntKind.i64.wrap (x6 - 1))) ?_
  exact zk (g24_l3_to (x1) (x5) ((IntKind.i64.wrap (x6 - 1))) (b0) ox5 ob0_Rules hox5)
noncomputable def b24_l6 (x1 : Int) (x5 : List Int) (x6 : Int) (x7 : Int) (b0 : Scolanderref07_Set) : Option ((List Int)) :=
 if ((decide (x7 < (b0.Rules.length : Int)))) = true then
 (b24_r8 x1 x5 x6 x7 b0)
 else
 (b24_r4 x1 x5 x6 b0)
theorem g24_l6_sim (x1 : Int) (x5 : List Int) (x6 : Int) (x7 : Int) (b0 : Scolanderref07_Set) (ox5 : Own) (ob0_Rules : Own) (hox5 : okApp ox5 = true) : Sim (Q24) (b24_l6 x1 x5 x6 x7 b0) (f24_l6 0 (iv x1) (.ptr 0 0) (.p (.lst ox5 (x5.map (eI .i64)))) (iv x6) (iv x7) [(r_Scolanderref07_Set b0 ob0_Rules)]) := by
  unfold b24_l6
  refine zf (f24_l6_eq ..) ?_
  refine ze ?_
  refine zo (.ptr 0 4) ?_
  refine zo (.p (.lst (shrO ob0_Rules) (b0.Rules.map e_Srule_Rule))) ?_
  refine zo (iv (b0.Rules.length : Int)) ?_ (Eq.trans (by kernel_rfl) (xlen_of (P := PP) (t := 34) (d := 69) (by kernel_rfl) e_Srule_Rule (shrO ob0_Rules) b0.Rules))
  refine zo (bv (decide (x7 < (b0.Rules.length : Int)))) ?_
  refine za ((decide (x7 < (b0.Rules.length : Int)))) ?_ ?_
  · exact zk (g24_r8_sim (x1) (x5) (x6) (x7) (b0) ox5 ob0_Rules hox5)
  · exact zk (g24_r4_sim (x1) (x5) (x6) (b0) ox5 ob0_Rules hox5)
theorem g24_l6_of (x1 : Int) (x5 : List Int) (x6 : Int) (x7 : Int) (b0 : Scolanderref07_Set) {r} (h : b24_l6 x1 x5 x6 x7 b0 = some r) : g24_l6 x1 x5 x6 x7 b0 = some r :=
  pick_of (fun _ _ ha hb => RRun.uniq (Q24_u) (ha .ex .ex rfl) (hb .ex .ex rfl)) (fun ox5 ob0_Rules hox5 => g24_l6_sim x1 x5 x6 x7 b0 ox5 ob0_Rules hox5 r h)
/-! "colander/colanderlaw07.RuleTwice": g3 -/
noncomputable def b3_r4  : Option (Bool) :=
 some (true)
theorem g3_r4_sim  : Sim (Q3) (b3_r4) (f3_r4 0  []) := by
  unfold b3_r4
  refine zf (f3_r4_eq ..) ?_
  refine ze ?_
  exact zr ((bv true), []) ⟨_, rfl⟩
noncomputable def b3_r10  : Option (Bool) :=
 some (false)
theorem g3_r10_sim  : Sim (Q3) (b3_r10) (f3_r10 0  []) := by
  unfold b3_r10
  refine zf (f3_r10_eq ..) ?_
  refine ze ?_
  exact zr ((bv false), []) ⟨_, rfl⟩
noncomputable def b3_r11 (b0 : Srule_Set) (b1 : Srule_Delta) (b2 : Srule_Delta) (b3 : Srule_Set) : Option (Bool) :=
 g3_l12 ((S39.mk (S38.mk b1.Default b2.Default) (S38.mk b1.Closed b2.Closed) (S38.mk b1.Fuel b2.Fuel) (S38.mk b1.Stack b2.Stack))) 0 b0 b1 b2 b3
theorem g3_r11_sim (b0 : Srule_Set) (b1 : Srule_Delta) (b2 : Srule_Delta) (b3 : Srule_Set) (ob0_Rules : Own) (ob1_Put : Own) (ob1_Drop : Own) (ob2_Put : Own) (ob2_Drop : Own) (ob3_Rules : Own) : Sim (Q3) (b3_r11 b0 b1 b2 b3) (f3_r11 0 (.ptr 0 0) (.ptr 1 0) (.ptr 2 0) (.ptr 3 0) [(r_Srule_Set b0 ob0_Rules), (r_Srule_Delta b1 ob1_Put ob1_Drop), (r_Srule_Delta b2 ob2_Put ob2_Drop), (r_Srule_Set b3 ob3_Rules)]) := by
  unfold b3_r11
  refine zf (f3_r11_eq ..) ?_
  refine ze ?_
  refine zo (.ptr 1 0) ?_
  refine zo (iv b1.Default) ?_
  refine zo (.ptr 2 0) ?_
  refine zo (iv b2.Default) ?_
  refine zo (.p (.agg (k_S38 (S38.mk b1.Default b2.Default)))) ?_
  refine zo (.ptr 1 1) ?_
  refine zo (iv b1.Closed) ?_
  refine zo (.ptr 2 1) ?_
  refine zo (iv b2.Closed) ?_
  refine zo (.p (.agg (k_S38 (S38.mk b1.Closed b2.Closed)))) ?_
  refine zo (.ptr 1 2) ?_
  refine zo (iv b1.Fuel) ?_
  refine zo (.ptr 2 2) ?_
  refine zo (iv b2.Fuel) ?_
  refine zo (.p (.agg (k_S38 (S38.mk b1.Fuel b2.Fuel)))) ?_
  refine zo (.ptr 1 3) ?_
  refine zo (iv b1.Stack) ?_
  refine zo (.ptr 2 3) ?_
  refine zo (iv b2.Stack) ?_
  refine zo (.p (.agg (k_S38 (S38.mk b1.Stack b2.Stack)))) ?_
  refine zo (.p (.agg (k_S39 (S39.mk (S38.mk b1.Default b2.Default) (S38.mk b1.Closed b2.Closed) (S38.mk b1.Fuel b2.Fuel) (S38.mk b1.Stack b2.Stack))))) ?_
  exact zk (g3_l12_to ((S39.mk (S38.mk b1.Default b2.Default) (S38.mk b1.Closed b2.Closed) (S38.mk b1.Fuel b2.Fuel) (S38.mk b1.Stack b2.Stack))) (0) (b0) (b1) (b2) (b3) ob0_Rules ob1_Put ob1_Drop ob2_Put ob2_Drop ob3_Rules)
noncomputable def b3_r8 (b0 : Srule_Set) (b1 : Srule_Delta) (b2 : Srule_Delta) (b3 : Srule_Set) : Option (Bool) :=
 (g12 b3 b1).bind fun r1 =>
 if (((b1.Drop.length : Int) == 0)) = true then
 (if ((r1.2 != 0)) = true then
 (b3_r10)
 else
 ((g14 b3).bind fun r2 =>
 (g14 r1.1).bind fun r3 =>
 (g13 r2 r3).bind fun r4 =>
 if ((!r4)) = true then
 (b3_r10)
 else
 (b3_r11 b0 b1 b2 b3)))
 else
 (b3_r11 b0 b1 b2 b3)
theorem g3_r8_sim (b0 : Srule_Set) (b1 : Srule_Delta) (b2 : Srule_Delta) (b3 : Srule_Set) (ob0_Rules : Own) (ob1_Put : Own) (ob1_Drop : Own) (ob2_Put : Own) (ob2_Drop : Own) (ob3_Rules : Own) : Sim (Q3) (b3_r8 b0 b1 b2 b3) (f3_r8 0 (.ptr 0 0) (.ptr 1 0) (.ptr 2 0) (.ptr 3 0) [(r_Srule_Set b0 ob0_Rules), (r_Srule_Delta b1 ob1_Put ob1_Drop), (r_Srule_Delta b2 ob2_Put ob2_Drop), (r_Srule_Set b3 ob3_Rules)]) := by
  unfold b3_r8
  refine zf (f3_r8_eq ..) ?_
  refine ze ?_
  refine zo (.p (.agg (k_Srule_Set b3 (shrO ob3_Rules)))) ?_
  refine zo (.p (.agg (k_Srule_Delta b1 (shrO ob1_Put) (shrO ob1_Drop)))) ?_
  refine zi fun r1 hr1 => ?_
  obtain ⟨qr1, er1, exr1, rfl⟩ := g12_to (b3) (b1) .sh .sh .sh r1 hr1
  refine zc [] (.p (.tup [(.agg (k_Srule_Set r1.1 .sh)), (.v (.int .i64 r1.2))])) [(r_Srule_Set b0 ob0_Rules), (r_Srule_Delta b1 ob1_Put ob1_Drop), (r_Srule_Delta b2 ob2_Put ob2_Drop), (r_Srule_Set b3 ob3_Rules)] er1 ?_
  refine zo (.p (.agg (k_Srule_Set r1.1 .sh))) ?_
  refine zo (iv r1.2) ?_
  refine zz (.ptr 4 0) [(r_Srule_Set b0 ob0_Rules), (r_Srule_Delta b1 ob1_Put ob1_Drop), (r_Srule_Delta b2 ob2_Put ob2_Drop), (r_Srule_Set b3 ob3_Rules), (r_Srule_Set (Srule_Set.mk 0 0 0 0 ([] : List Srule_Rule)) .nl)] ?_
  refine zt [(r_Srule_Set b0 ob0_Rules), (r_Srule_Delta b1 ob1_Put ob1_Drop), (r_Srule_Delta b2 ob2_Put ob2_Drop), (r_Srule_Set b3 ob3_Rules), (r_Srule_Set r1.1 .sh)] ?_
  refine ze ?_
  refine zo (.ptr 1 5) ?_
  refine zo (.p (.lst (shrO ob1_Drop) (b1.Drop.map (eI .i64)))) ?_
  refine zo (iv (b1.Drop.length : Int)) ?_ (Eq.trans (by kernel_rfl) (xlen_of (P := PP) (t := 25) (d := 3) (by kernel_rfl) (eI .i64) (shrO ob1_Drop) b1.Drop))
  refine zo (bv ((b1.Drop.length : Int) == 0)) ?_
  refine za (((b1.Drop.length : Int) == 0)) ?_ ?_
  · refine zo (bv (r1.2 != 0)) ?_
    refine za ((r1.2 != 0)) ?_ ?_
    · refine zg ?_
      exact zk (g3_r10_sim )
    · refine zo (.p (.agg (k_Srule_Set b3 (shrO ob3_Rules)))) ?_
      refine zi fun r2 hr2 => ?_
      obtain ⟨qr2, er2, exr2, rfl⟩ := g14_to (b3) .sh r2 hr2
      refine zc [] (.p (.agg (k_Scolanderref07_Set r2 .sh))) [(r_Srule_Set b0 ob0_Rules), (r_Srule_Delta b1 ob1_Put ob1_Drop), (r_Srule_Delta b2 ob2_Put ob2_Drop), (r_Srule_Set b3 ob3_Rules), (r_Srule_Set r1.1 .sh)] er2 ?_
      refine zo (.p (.agg (k_Srule_Set r1.1 .sh))) ?_
      refine zi fun r3 hr3 => ?_
      obtain ⟨qr3, er3, exr3, rfl⟩ := g14_to (r1.1) .sh r3 hr3
      refine zc [] (.p (.agg (k_Scolanderref07_Set r3 .sh))) [(r_Srule_Set b0 ob0_Rules), (r_Srule_Delta b1 ob1_Put ob1_Drop), (r_Srule_Delta b2 ob2_Put ob2_Drop), (r_Srule_Set b3 ob3_Rules), (r_Srule_Set r1.1 .sh)] er3 ?_
      refine zi fun r4 hr4 => ?_
      obtain ⟨qr4, er4, exr4, rfl⟩ := g13_to (r2) (r3) .sh .sh r4 hr4
      refine zc [] (bv r4) [(r_Srule_Set b0 ob0_Rules), (r_Srule_Delta b1 ob1_Put ob1_Drop), (r_Srule_Delta b2 ob2_Put ob2_Drop), (r_Srule_Set b3 ob3_Rules), (r_Srule_Set r1.1 .sh)] er4 ?_
      refine zo (bv (!r4)) ?_
      refine zg ?_
      refine za ((!r4)) ?_ ?_
      · exact zk (g3_r10_sim )
      · exact zk (g3_r11_sim (b0) (b1) (b2) (b3) ob0_Rules ob1_Put ob1_Drop ob2_Put ob2_Drop ob3_Rules)
  · refine zg ?_
    exact zk (g3_r11_sim (b0) (b1) (b2) (b3) ob0_Rules ob1_Put ob1_Drop ob2_Put ob2_Drop ob3_Rules)
noncomputable def b3_r5 (b0 : Srule_Set) (b1 : Srule_Delta) (b2 : Srule_Delta) : Option (Bool) :=
 (g12 b0 b1).bind fun r1 =>
 if ((r1.2 != 0)) = true then
 (some (true))
 else
 (b3_r8 b0 b1 b2 r1.1)
theorem g3_r5_sim (b0 : Srule_Set) (b1 : Srule_Delta) (b2 : Srule_Delta) (ob0_Rules : Own) (ob1_Put : Own) (ob1_Drop : Own) (ob2_Put : Own) (ob2_Drop : Own) : Sim (Q3) (b3_r5 b0 b1 b2) (f3_r5 0 (.ptr 0 0) (.ptr 1 0) (.ptr 2 0) [(r_Srule_Set b0 ob0_Rules), (r_Srule_Delta b1 ob1_Put ob1_Drop), (r_Srule_Delta b2 ob2_Put ob2_Drop)]) := by
  unfold b3_r5
  refine zf (f3_r5_eq ..) ?_
  refine ze ?_
  refine zo (.p (.agg (k_Srule_Set b0 (shrO ob0_Rules)))) ?_
  refine zo (.p (.agg (k_Srule_Delta b1 (shrO ob1_Put) (shrO ob1_Drop)))) ?_
  refine zi fun r1 hr1 => ?_
  obtain ⟨qr1, er1, exr1, rfl⟩ := g12_to (b0) (b1) .sh .sh .sh r1 hr1
  refine zc [] (.p (.tup [(.agg (k_Srule_Set r1.1 .sh)), (.v (.int .i64 r1.2))])) [(r_Srule_Set b0 ob0_Rules), (r_Srule_Delta b1 ob1_Put ob1_Drop), (r_Srule_Delta b2 ob2_Put ob2_Drop)] er1 ?_
  refine zo (.p (.agg (k_Srule_Set r1.1 .sh))) ?_
  refine zo (iv r1.2) ?_
  refine zz (.ptr 3 0) [(r_Srule_Set b0 ob0_Rules), (r_Srule_Delta b1 ob1_Put ob1_Drop), (r_Srule_Delta b2 ob2_Put ob2_Drop), (r_Srule_Set (Srule_Set.mk 0 0 0 0 ([] : List Srule_Rule)) .nl)] ?_
  refine zt [(r_Srule_Set b0 ob0_Rules), (r_Srule_Delta b1 ob1_Put ob1_Drop), (r_Srule_Delta b2 ob2_Put ob2_Drop), (r_Srule_Set r1.1 .sh)] ?_
  refine ze ?_
  refine zo (bv (r1.2 != 0)) ?_
  refine za ((r1.2 != 0)) ?_ ?_
  · refine ze ?_
    exact zr ((bv true), [(r_Srule_Set b0 ob0_Rules), (r_Srule_Delta b1 ob1_Put ob1_Drop), (r_Srule_Delta b2 ob2_Put ob2_Drop), (r_Srule_Set r1.1 .sh)]) ⟨_, rfl⟩
  · exact zk (g3_r8_sim (b0) (b1) (b2) (r1.1) ob0_Rules ob1_Put ob1_Drop ob2_Put ob2_Drop .sh)
noncomputable def b3_r3 (b0 : Srule_Set) (b1 : Srule_Delta) (b2 : Srule_Delta) : Option (Bool) :=
 (g11 b0 b1).bind fun r1 =>
 if ((!r1)) = true then
 (b3_r4)
 else
 ((g11 b0 b2).bind fun r2 =>
 if ((!r2)) = true then
 (b3_r4)
 else
 (b3_r5 b0 b1 b2))
theorem g3_r3_sim (b0 : Srule_Set) (b1 : Srule_Delta) (b2 : Srule_Delta) (ob0_Rules : Own) (ob1_Put : Own) (ob1_Drop : Own) (ob2_Put : Own) (ob2_Drop : Own) : Sim (Q3) (b3_r3 b0 b1 b2) (f3_r3 0 (.ptr 0 0) (.ptr 1 0) (.ptr 2 0) [(r_Srule_Set b0 ob0_Rules), (r_Srule_Delta b1 ob1_Put ob1_Drop), (r_Srule_Delta b2 ob2_Put ob2_Drop)]) := by
  unfold b3_r3
  refine zf (f3_r3_eq ..) ?_
  refine ze ?_
  refine zo (.p (.agg (k_Srule_Set b0 (shrO ob0_Rules)))) ?_
  refine zo (.p (.agg (k_Srule_Delta b1 (shrO ob1_Put) (shrO ob1_Drop)))) ?_
  refine zi fun r1 hr1 => ?_
  obtain ⟨qr1, er1, exr1, rfl⟩ := g11_to (b0) (b1) .sh .sh .sh r1 hr1
  refine zc [] (bv r1) [(r_Srule_Set b0 ob0_Rules), (r_Srule_Delta b1 ob1_Put ob1_Drop), (r_Srule_Delta b2 ob2_Put ob2_Drop)] er1 ?_
  refine zo (bv (!r1)) ?_
  refine za ((!r1)) ?_ ?_
  · exact zk (g3_r4_sim )
  · refine zo (.p (.agg (k_Srule_Set b0 (shrO ob0_Rules)))) ?_
    refine zo (.p (.agg (k_Srule_Delta b2 (shrO ob2_Put) (shrO ob2_Drop)))) ?_
    refine zi fun r2 hr2 => ?_
    obtain ⟨qr2, er2, exr2, rfl⟩ := g11_to (b0) (b2) .sh .sh .sh r2 hr2
    refine zc [] (bv r2) [(r_Srule_Set b0 ob0_Rules), (r_Srule_Delta b1 ob1_Put ob1_Drop), (r_Srule_Delta b2 ob2_Put ob2_Drop)] er2 ?_
    refine zo (bv (!r2)) ?_
    refine za ((!r2)) ?_ ?_
    · exact zk (g3_r4_sim )
    · exact zk (g3_r5_sim (b0) (b1) (b2) ob0_Rules ob1_Put ob1_Drop ob2_Put ob2_Drop)
noncomputable def b3 (x0 : Srule_Set) (x1 : Srule_Delta) (x2 : Srule_Delta) : Option (Bool) :=
 (g10).bind fun r1 =>
 if ((!r1)) = true then
 (some (false))
 else
 (b3_r3 x0 x1 x2)
theorem g3_sim (x0 : Srule_Set) (x1 : Srule_Delta) (x2 : Srule_Delta) (ox0_Rules : Own) (ox1_Put : Own) (ox1_Drop : Own) (ox2_Put : Own) (ox2_Drop : Own) : Sim (Q3) (b3 x0 x1 x2) (EE 3 [(.p (.agg (k_Srule_Set x0 ox0_Rules))), (.p (.agg (k_Srule_Delta x1 ox1_Put ox1_Drop))), (.p (.agg (k_Srule_Delta x2 ox2_Put ox2_Drop)))] []) := by
  unfold b3
  refine zf (f3_eq ..) ?_
  refine ze ?_
  refine zx (.ptr 0 0) [(r_Srule_Set x0 ox0_Rules)] ?_
  refine zx (.ptr 1 0) [(r_Srule_Set x0 ox0_Rules), (r_Srule_Delta x1 ox1_Put ox1_Drop)] ?_
  refine zx (.ptr 2 0) [(r_Srule_Set x0 ox0_Rules), (r_Srule_Delta x1 ox1_Put ox1_Drop), (r_Srule_Delta x2 ox2_Put ox2_Drop)] ?_
  refine ze ?_
  refine zi fun r1 hr1 => ?_
  obtain ⟨qr1, er1, exr1, rfl⟩ := g10_to  r1 hr1
  refine zc [] (bv r1) [(r_Srule_Set x0 ox0_Rules), (r_Srule_Delta x1 ox1_Put ox1_Drop), (r_Srule_Delta x2 ox2_Put ox2_Drop)] er1 ?_
  refine zo (bv (!r1)) ?_
  refine za ((!r1)) ?_ ?_
  · refine ze ?_
    exact zr ((bv false), [(r_Srule_Set x0 ox0_Rules), (r_Srule_Delta x1 ox1_Put ox1_Drop), (r_Srule_Delta x2 ox2_Put ox2_Drop)]) ⟨_, rfl⟩
  · exact zk (g3_r3_sim (x0) (x1) (x2) ox0_Rules ox1_Put ox1_Drop ox2_Put ox2_Drop)
theorem g3_of (x0 : Srule_Set) (x1 : Srule_Delta) (x2 : Srule_Delta) {r} (h : b3 x0 x1 x2 = some r) : g3 x0 x1 x2 = some r :=
  pick_of (fun _ _ ha hb => RRun.uniq (Q3_u) (ha .ex .ex .ex .ex .ex) (hb .ex .ex .ex .ex .ex)) (fun ox0_Rules ox1_Put ox1_Drop ox2_Put ox2_Drop => g3_sim x0 x1 x2 ox0_Rules ox1_Put ox1_Drop ox2_Put ox2_Drop r h)
noncomputable def b3_r15  : Option (Bool) :=
 some (true)
theorem g3_r15_sim  : Sim (Q3) (b3_r15) (f3_r15 0  []) := by
  unfold b3_r15
  refine zf (f3_r15_eq ..) ?_
  refine ze ?_
  exact zr ((bv true), []) ⟨_, rfl⟩
noncomputable def b3_r16 (x85 : S39) (x86 : Int) (b0 : Srule_Set) (b1 : Srule_Delta) (b2 : Srule_Delta) (b3 : Srule_Set) : Option (Bool) :=
 g3_l12 x85 ((IntKind.i64.wrap (x86 + 1))) b0 b1 b2 b3
theorem g3_r16_sim (x85 : S39) (x86 : Int) (b0 : Srule_Set) (b1 : Srule_Delta) (b2 : Srule_Delta) (b3 : Srule_Set) (ob0_Rules : Own) (ob1_Put : Own) (ob1_Drop : Own) (ob2_Put : Own) (ob2_Drop : Own) (ob3_Rules : Own) : Sim (Q3) (b3_r16 x85 x86 b0 b1 b2 b3) (f3_r16 0 (.ptr 0 0) (.ptr 1 0) (.ptr 2 0) (.ptr 3 0) (.p (.agg (k_S39 x85))) (iv x86) [(r_Srule_Set b0 ob0_Rules), (r_Srule_Delta b1 ob1_Put ob1_Drop), (r_Srule_Delta b2 ob2_Put ob2_Drop), (r_Srule_Set b3 ob3_Rules)]) := by
  unfold b3_r16
  refine zf (f3_r16_eq ..) ?_
  refine ze ?_
  refine zo (iv (IntKind.i64.wrap (x86 + 1))) ?_
  exact zk (g3_l12_to (x85) ((IntKind.i64.wrap (x86 + 1))) (b0) (b1) (b2) (b3) ob0_Rules ob1_Put ob1_Drop ob2_Put ob2_Drop ob3_Rules)
noncomputable def b3_r13 (x85 : S39) (x86 : Int) (b0 : Srule_Set) (b1 : Srule_Delta) (b2 : Srule_Delta) (b3 : Srule_Set) : Option (Bool) :=
 (lget ([(S38.mk x85.c0.c0 x85.c0.c1), (S38.mk x85.c1.c0 x85.c1.c1), (S38.mk x85.c2.c0 x85.c2.c1), (S38.mk x85.c3.c0 x85.c3.c1)] : List S38) x86).bind fun a1 =>
 if ((a1.c0 != (-1))) = true then
 (if ((a1.c1 != (-1))) = true then
 (b3_r15)
 else
 (b3_r16 x85 x86 b0 b1 b2 b3))
 else
 (b3_r16 x85 x86 b0 b1 b2 b3)
theorem g3_r13_sim (x85 : S39) (x86 : Int) (b0 : Srule_Set) (b1 : Srule_Delta) (b2 : Srule_Delta) (b3 : Srule_Set) (ob0_Rules : Own) (ob1_Put : Own) (ob1_Drop : Own) (ob2_Put : Own) (ob2_Drop : Own) (ob3_Rules : Own) : Sim (Q3) (b3_r13 x85 x86 b0 b1 b2 b3) (f3_r13 0 (.ptr 0 0) (.ptr 1 0) (.ptr 2 0) (.ptr 3 0) (.p (.agg (k_S39 x85))) (iv x86) [(r_Srule_Set b0 ob0_Rules), (r_Srule_Delta b1 ob1_Put ob1_Drop), (r_Srule_Delta b2 ob2_Put ob2_Drop), (r_Srule_Set b3 ob3_Rules)]) := by
  unfold b3_r13
  refine zf (f3_r13_eq ..) ?_
  refine ze ?_
  refine zi fun a1 ha1 => ?_
  refine zo (.p (.agg (k_S38 a1))) ?_ (Eq.trans (b := xat PP 39 (.p (.agg (([(S38.mk x85.c0.c0 x85.c0.c1), (S38.mk x85.c1.c0 x85.c1.c1), (S38.mk x85.c2.c0 x85.c2.c1), (S38.mk x85.c3.c0 x85.c3.c1)] : List S38).flatMap c_S38))) (.p (.v (.int .i64 x86)))) (by kernel_rfl) (xat_agg (P := PP) (t := 39) (c := c_S38) (n := 2) (m := 4) (k := .i64) (e := 38) (by kernel_rfl) (by kernel_rfl) (fun _ => rfl) (by kernel_rfl) ha1))
  refine zz (.ptr 4 0) [(r_Srule_Set b0 ob0_Rules), (r_Srule_Delta b1 ob1_Put ob1_Drop), (r_Srule_Delta b2 ob2_Put ob2_Drop), (r_Srule_Set b3 ob3_Rules), (r_S38 (S38.mk 0 0))] ?_
  refine zt [(r_Srule_Set b0 ob0_Rules), (r_Srule_Delta b1 ob1_Put ob1_Drop), (r_Srule_Delta b2 ob2_Put ob2_Drop), (r_Srule_Set b3 ob3_Rules), (r_S38 a1)] ?_
  refine ze ?_
  refine zo (.ptr 4 0) ?_
  refine zo (iv a1.c0) ?_
  refine zo (bv (a1.c0 != (-1))) ?_
  refine za ((a1.c0 != (-1))) ?_ ?_
  · refine zo (.ptr 4 1) ?_
    refine zo (iv a1.c1) ?_
    refine zo (bv (a1.c1 != (-1))) ?_
    refine za ((a1.c1 != (-1))) ?_ ?_
    · exact zk (g3_r15_sim )
    · exact zk (g3_r16_sim (x85) (x86) (b0) (b1) (b2) (b3) ob0_Rules ob1_Put ob1_Drop ob2_Put ob2_Drop ob3_Rules)
  · exact zk (g3_r16_sim (x85) (x86) (b0) (b1) (b2) (b3) ob0_Rules ob1_Put ob1_Drop ob2_Put ob2_Drop ob3_Rules)
noncomputable def b3_r17 (b0 : Srule_Set) (b1 : Srule_Delta) (b2 : Srule_Delta) (b3 : Srule_Set) : Option (Bool) :=
 (g15 b1).bind fun r1 =>
 g3_l18 r1 ((r1.length : Int)) 0 b0 b1 b2 b3
theorem g3_r17_sim (b0 : Srule_Set) (b1 : Srule_Delta) (b2 : Srule_Delta) (b3 : Srule_Set) (ob0_Rules : Own) (ob1_Put : Own) (ob1_Drop : Own) (ob2_Put : Own) (ob2_Drop : Own) (ob3_Rules : Own) : Sim (Q3) (b3_r17 b0 b1 b2 b3) (f3_r17 0 (.ptr 0 0) (.ptr 1 0) (.ptr 2 0) (.ptr 3 0) [(r_Srule_Set b0 ob0_Rules), (r_Srule_Delta b1 ob1_Put ob1_Drop), (r_Srule_Delta b2 ob2_Put ob2_Drop), (r_Srule_Set b3 ob3_Rules)]) := by
  unfold b3_r17
  refine zf (f3_r17_eq ..) ?_
  refine ze ?_
  refine zo (.p (.agg (k_Srule_Delta b1 (shrO ob1_Put) (shrO ob1_Drop)))) ?_
  refine zi fun r1 hr1 => ?_
  obtain ⟨qr1, er1, exr1, rfl⟩ := g15_to (b1) .sh .sh r1 hr1
  refine zc [] (.p (.lst .sh (r1.map (eI .i64)))) [(r_Srule_Set b0 ob0_Rules), (r_Srule_Delta b1 ob1_Put ob1_Drop), (r_Srule_Delta b2 ob2_Put ob2_Drop), (r_Srule_Set b3 ob3_Rules)] er1 ?_
  refine zo (iv (r1.length : Int)) ?_ (Eq.trans (by kernel_rfl) (xlen_of (P := PP) (t := 25) (d := 3) (by kernel_rfl) (eI .i64) .sh r1))
  exact zk (g3_l18_to (r1) ((r1.length : Int)) (0) (b0) (b1) (b2) (b3) .sh ob0_Rules ob1_Put ob1_Drop ob2_Put ob2_Drop ob3_Rules)
noncomputable def b3_l12 (x85 : S39) (x86 : Int) (b0 : Srule_Set) (b1 : Srule_Delta) (b2 : Srule_Delta) (b3 : Srule_Set) : Option (Bool) :=
 if ((decide (x86 < 4))) = true then
 (b3_r13 x85 x86 b0 b1 b2 b3)
 else
 (b3_r17 b0 b1 b2 b3)
theorem g3_l12_sim (x85 : S39) (x86 : Int) (b0 : Srule_Set) (b1 : Srule_Delta) (b2 : Srule_Delta) (b3 : Srule_Set) (ob0_Rules : Own) (ob1_Put : Own) (ob1_Drop : Own) (ob2_Put : Own) (ob2_Drop : Own) (ob3_Rules : Own) : Sim (Q3) (b3_l12 x85 x86 b0 b1 b2 b3) (f3_l12 0 (.ptr 0 0) (.ptr 1 0) (.ptr 2 0) (.ptr 3 0) (.p (.agg (k_S39 x85))) (iv x86) [(r_Srule_Set b0 ob0_Rules), (r_Srule_Delta b1 ob1_Put ob1_Drop), (r_Srule_Delta b2 ob2_Put ob2_Drop), (r_Srule_Set b3 ob3_Rules)]) := by
  unfold b3_l12
  refine zf (f3_l12_eq ..) ?_
  refine ze ?_
  refine zo (bv (decide (x86 < 4))) ?_
  refine za ((decide (x86 < 4))) ?_ ?_
  · exact zk (g3_r13_sim (x85) (x86) (b0) (b1) (b2) (b3) ob0_Rules ob1_Put ob1_Drop ob2_Put ob2_Drop ob3_Rules)
  · exact zk (g3_r17_sim (b0) (b1) (b2) (b3) ob0_Rules ob1_Put ob1_Drop ob2_Put ob2_Drop ob3_Rules)
theorem g3_l12_of (x85 : S39) (x86 : Int) (b0 : Srule_Set) (b1 : Srule_Delta) (b2 : Srule_Delta) (b3 : Srule_Set) {r} (h : b3_l12 x85 x86 b0 b1 b2 b3 = some r) : g3_l12 x85 x86 b0 b1 b2 b3 = some r :=
  pick_of (fun _ _ ha hb => RRun.uniq (Q3_u) (ha .ex .ex .ex .ex .ex .ex) (hb .ex .ex .ex .ex .ex .ex)) (fun ob0_Rules ob1_Put ob1_Drop ob2_Put ob2_Drop ob3_Rules => g3_l12_sim x85 x86 b0 b1 b2 b3 ob0_Rules ob1_Put ob1_Drop ob2_Put ob2_Drop ob3_Rules r h)
noncomputable def b3_r19 (x99 : List Int) (x100 : Int) (x101 : Int) (b0 : Srule_Set) (b1 : Srule_Delta) (b2 : Srule_Delta) (b3 : Srule_Set) : Option (Bool) :=
 (lget x99 x101).bind fun a1 =>
 (g15 b2).bind fun r2 =>
 g3_l21 a1 x99 x100 x101 r2 ((r2.length : Int)) 0 b0 b1 b2 b3
theorem g3_r19_sim (x99 : List Int) (x100 : Int) (x101 : Int) (b0 : Srule_Set) (b1 : Srule_Delta) (b2 : Srule_Delta) (b3 : Srule_Set) (ox99 : Own) (ob0_Rules : Own) (ob1_Put : Own) (ob1_Drop : Own) (ob2_Put : Own) (ob2_Drop : Own) (ob3_Rules : Own) : Sim (Q3) (b3_r19 x99 x100 x101 b0 b1 b2 b3) (f3_r19 0 (.ptr 0 0) (.ptr 1 0) (.ptr 2 0) (.ptr 3 0) (.p (.lst ox99 (x99.map (eI .i64)))) (iv x100) (iv x101) [(r_Srule_Set b0 ob0_Rules), (r_Srule_Delta b1 ob1_Put ob1_Drop), (r_Srule_Delta b2 ob2_Put ob2_Drop), (r_Srule_Set b3 ob3_Rules)]) := by
  unfold b3_r19
  refine zf (f3_r19_eq ..) ?_
  refine ze ?_
  refine zi fun a1 ha1 => ?_
  refine zo (.cptr [(.v (.int .i64 a1))]) ?_ (Eq.trans (by kernel_rfl) (xidx_of (o := ox99) (k := .i64) (n := 1) (e := (eI .i64)) (cs := (fun a => [(eI .i64) a])) (fun _ => rfl) (fun _ => rfl) (by decide) ha1))
  refine zo (iv a1) ?_
  refine ze ?_
  refine zo (.p (.agg (k_Srule_Delta b2 (shrO ob2_Put) (shrO ob2_Drop)))) ?_
  refine zi fun r2 hr2 => ?_
  obtain ⟨qr2, er2, exr2, rfl⟩ := g15_to (b2) .sh .sh r2 hr2
  refine zc [] (.p (.lst .sh (r2.map (eI .i64)))) [(r_Srule_Set b0 ob0_Rules), (r_Srule_Delta b1 ob1_Put ob1_Drop), (r_Srule_Delta b2 ob2_Put ob2_Drop), (r_Srule_Set b3 ob3_Rules)] er2 ?_
  refine zo (iv (r2.length : Int)) ?_ (Eq.trans (by kernel_rfl) (xlen_of (P := PP) (t := 25) (d := 3) (by kernel_rfl) (eI .i64) .sh r2))
  exact zk (g3_l21_to (a1) (x99) (x100) (x101) (r2) ((r2.length : Int)) (0) (b0) (b1) (b2) (b3) ox99 .sh ob0_Rules ob1_Put ob1_Drop ob2_Put ob2_Drop ob3_Rules)
noncomputable def b3_r30  : Option (Bool) :=
 some (true)
theorem g3_r30_sim  : Sim (Q3) (b3_r30) (f3_r30 0  []) := by
  unfold b3_r30
  refine zf (f3_r30_eq ..) ?_
  refine ze ?_
  exact zr ((bv true), []) ⟨_, rfl⟩
noncomputable def b3_r31 (b1 : Srule_Delta) (b4 : Srule_Set) (b5 : Srule_Set) : Option (Bool) :=
 (g12 b5 b1).bind fun r1 =>
 if ((r1.2 != 0)) = true then
 (some (true))
 else
 ((g14 b4).bind fun r2 =>
 (g14 r1.1).bind fun r3 =>
 (g13 r2 r3).bind fun r4 =>
 some (r4))
theorem g3_r31_sim (b0 : Srule_Set) (b1 : Srule_Delta) (b2 : Srule_Delta) (b3 : Srule_Set) (b4 : Srule_Set) (b5 : Srule_Set) (ob0_Rules : Own) (ob1_Put : Own) (ob1_Drop : Own) (ob2_Put : Own) (ob2_Drop : Own) (ob3_Rules : Own) (ob4_Rules : Own) (ob5_Rules : Own) : Sim (Q3) (b3_r31 b1 b4 b5) (f3_r31 0 (.ptr 1 0) (.ptr 4 0) (.ptr 5 0) [(r_Srule_Set b0 ob0_Rules), (r_Srule_Delta b1 ob1_Put ob1_Drop), (r_Srule_Delta b2 ob2_Put ob2_Drop), (r_Srule_Set b3 ob3_Rules), (r_Srule_Set b4 ob4_Rules), (r_Srule_Set b5 ob5_Rules)]) := by
  unfold b3_r31
  refine zf (f3_r31_eq ..) ?_
  refine ze ?_
  refine zo (.p (.agg (k_Srule_Set b5 (shrO ob5_Rules)))) ?_
  refine zo (.p (.agg (k_Srule_Delta b1 (shrO ob1_Put) (shrO ob1_Drop)))) ?_
  refine zi fun r1 hr1 => ?_
  obtain ⟨qr1, er1, exr1, rfl⟩ := g12_to (b5) (b1) .sh .sh .sh r1 hr1
  refine zc [] (.p (.tup [(.agg (k_Srule_Set r1.1 .sh)), (.v (.int .i64 r1.2))])) [(r_Srule_Set b0 ob0_Rules), (r_Srule_Delta b1 ob1_Put ob1_Drop), (r_Srule_Delta b2 ob2_Put ob2_Drop), (r_Srule_Set b3 ob3_Rules), (r_Srule_Set b4 ob4_Rules), (r_Srule_Set b5 ob5_Rules)] er1 ?_
  refine zo (.p (.agg (k_Srule_Set r1.1 .sh))) ?_
  refine zo (iv r1.2) ?_
  refine zz (.ptr 6 0) [(r_Srule_Set b0 ob0_Rules), (r_Srule_Delta b1 ob1_Put ob1_Drop), (r_Srule_Delta b2 ob2_Put ob2_Drop), (r_Srule_Set b3 ob3_Rules), (r_Srule_Set b4 ob4_Rules), (r_Srule_Set b5 ob5_Rules), (r_Srule_Set (Srule_Set.mk 0 0 0 0 ([] : List Srule_Rule)) .nl)] ?_
  refine zt [(r_Srule_Set b0 ob0_Rules), (r_Srule_Delta b1 ob1_Put ob1_Drop), (r_Srule_Delta b2 ob2_Put ob2_Drop), (r_Srule_Set b3 ob3_Rules), (r_Srule_Set b4 ob4_Rules), (r_Srule_Set b5 ob5_Rules), (r_Srule_Set r1.1 .sh)] ?_
  refine ze ?_
  refine zo (bv (r1.2 != 0)) ?_
  refine za ((r1.2 != 0)) ?_ ?_
  · refine zg ?_
    exact zr ((bv true), [(r_Srule_Set b0 ob0_Rules), (r_Srule_Delta b1 ob1_Put ob1_Drop), (r_Srule_Delta b2 ob2_Put ob2_Drop), (r_Srule_Set b3 ob3_Rules), (r_Srule_Set b4 ob4_Rules), (r_Srule_Set b5 ob5_Rules), (r_Srule_Set r1.1 .sh)]) ⟨_, rfl⟩
  · refine zo (.p (.agg (k_Srule_Set b4 (shrO ob4_Rules)))) ?_
    refine zi fun r2 hr2 => ?_
    obtain ⟨qr2, er2, exr2, rfl⟩ := g14_to (b4) .sh r2 hr2
    refine zc [] (.p (.agg (k_Scolanderref07_Set r2 .sh))) [(r_Srule_Set b0 ob0_Rules), (r_Srule_Delta b1 ob1_Put ob1_Drop), (r_Srule_Delta b2 ob2_Put ob2_Drop), (r_Srule_Set b3 ob3_Rules), (r_Srule_Set b4 ob4_Rules), (r_Srule_Set b5 ob5_Rules), (r_Srule_Set r1.1 .sh)] er2 ?_
    refine zo (.p (.agg (k_Srule_Set r1.1 .sh))) ?_
    refine zi fun r3 hr3 => ?_
    obtain ⟨qr3, er3, exr3, rfl⟩ := g14_to (r1.1) .sh r3 hr3
    refine zc [] (.p (.agg (k_Scolanderref07_Set r3 .sh))) [(r_Srule_Set b0 ob0_Rules), (r_Srule_Delta b1 ob1_Put ob1_Drop), (r_Srule_Delta b2 ob2_Put ob2_Drop), (r_Srule_Set b3 ob3_Rules), (r_Srule_Set b4 ob4_Rules), (r_Srule_Set b5 ob5_Rules), (r_Srule_Set r1.1 .sh)] er3 ?_
    refine zi fun r4 hr4 => ?_
    obtain ⟨qr4, er4, exr4, rfl⟩ := g13_to (r2) (r3) .sh .sh r4 hr4
    refine zc [] (bv r4) [(r_Srule_Set b0 ob0_Rules), (r_Srule_Delta b1 ob1_Put ob1_Drop), (r_Srule_Delta b2 ob2_Put ob2_Drop), (r_Srule_Set b3 ob3_Rules), (r_Srule_Set b4 ob4_Rules), (r_Srule_Set b5 ob5_Rules), (r_Srule_Set r1.1 .sh)] er4 ?_
    refine zg ?_
    exact zr ((bv r4), [(r_Srule_Set b0 ob0_Rules), (r_Srule_Delta b1 ob1_Put ob1_Drop), (r_Srule_Delta b2 ob2_Put ob2_Drop), (r_Srule_Set b3 ob3_Rules), (r_Srule_Set b4 ob4_Rules), (r_Srule_Set b5 ob5_Rules), (r_Srule_Set r1.1 .sh)]) ⟨_, rfl⟩
noncomputable def b3_r27 (b0 : Srule_Set) (b1 : Srule_Delta) (b2 : Srule_Delta) (b3 : Srule_Set) : Option (Bool) :=
 (g12 b3 b2).bind fun r1 =>
 (g12 b0 b2).bind fun r2 =>
 if ((r1.2 != 0)) = true then
 (b3_r30)
 else
 (if ((r2.2 != 0)) = true then
 (b3_r30)
 else
 (b3_r31 b1 r1.1 r2.1))
theorem g3_r27_sim (b0 : Srule_Set) (b1 : Srule_Delta) (b2 : Srule_Delta) (b3 : Srule_Set) (ob0_Rules : Own) (ob1_Put : Own) (ob1_Drop : Own) (ob2_Put : Own) (ob2_Drop : Own) (ob3_Rules : Own) : Sim (Q3) (b3_r27 b0 b1 b2 b3) (f3_r27 0 (.ptr 0 0) (.ptr 1 0) (.ptr 2 0) (.ptr 3 0) [(r_Srule_Set b0 ob0_Rules), (r_Srule_Delta b1 ob1_Put ob1_Drop), (r_Srule_Delta b2 ob2_Put ob2_Drop), (r_Srule_Set b3 ob3_Rules)]) := by
  unfold b3_r27
  refine zf (f3_r27_eq ..) ?_
  refine ze ?_
  refine zo (.p (.agg (k_Srule_Set b3 (shrO ob3_Rules)))) ?_
  refine zo (.p (.agg (k_Srule_Delta b2 (shrO ob2_Put) (shrO ob2_Drop)))) ?_
  refine zi fun r1 hr1 => ?_
  obtain ⟨qr1, er1, exr1, rfl⟩ := g12_to (b3) (b2) .sh .sh .sh r1 hr1
  refine zc [] (.p (.tup [(.agg (k_Srule_Set r1.1 .sh)), (.v (.int .i64 r1.2))])) [(r_Srule_Set b0 ob0_Rules), (r_Srule_Delta b1 ob1_Put ob1_Drop), (r_Srule_Delta b2 ob2_Put ob2_Drop), (r_Srule_Set b3 ob3_Rules)] er1 ?_
  refine zo (.p (.agg (k_Srule_Set r1.1 .sh))) ?_
  refine zo (iv r1.2) ?_
  refine zz (.ptr 4 0) [(r_Srule_Set b0 ob0_Rules), (r_Srule_Delta b1 ob1_Put ob1_Drop), (r_Srule_Delta b2 ob2_Put ob2_Drop), (r_Srule_Set b3 ob3_Rules), (r_Srule_Set (Srule_Set.mk 0 0 0 0 ([] : List Srule_Rule)) .nl)] ?_
  refine zt [(r_Srule_Set b0 ob0_Rules), (r_Srule_Delta b1 ob1_Put ob1_Drop), (r_Srule_Delta b2 ob2_Put ob2_Drop), (r_Srule_Set b3 ob3_Rules), (r_Srule_Set r1.1 .sh)] ?_
  refine ze ?_
  refine zo (.p (.agg (k_Srule_Set b0 (shrO ob0_Rules)))) ?_
  refine zo (.p (.agg (k_Srule_Delta b2 (shrO ob2_Put) (shrO ob2_Drop)))) ?_
  refine zi fun r2 hr2 => ?_
  obtain ⟨qr2, er2, exr2, rfl⟩ := g12_to (b0) (b2) .sh .sh .sh r2 hr2
  refine zc [] (.p (.tup [(.agg (k_Srule_Set r2.1 .sh)), (.v (.int .i64 r2.2))])) [(r_Srule_Set b0 ob0_Rules), (r_Srule_Delta b1 ob1_Put ob1_Drop), (r_Srule_Delta b2 ob2_Put ob2_Drop), (r_Srule_Set b3 ob3_Rules), (r_Srule_Set r1.1 .sh)] er2 ?_
  refine zo (.p (.agg (k_Srule_Set r2.1 .sh))) ?_
  refine zo (iv r2.2) ?_
  refine zz (.ptr 5 0) [(r_Srule_Set b0 ob0_Rules), (r_Srule_Delta b1 ob1_Put ob1_Drop), (r_Srule_Delta b2 ob2_Put ob2_Drop), (r_Srule_Set b3 ob3_Rules), (r_Srule_Set r1.1 .sh), (r_Srule_Set (Srule_Set.mk 0 0 0 0 ([] : List Srule_Rule)) .nl)] ?_
  refine zt [(r_Srule_Set b0 ob0_Rules), (r_Srule_Delta b1 ob1_Put ob1_Drop), (r_Srule_Delta b2 ob2_Put ob2_Drop), (r_Srule_Set b3 ob3_Rules), (r_Srule_Set r1.1 .sh), (r_Srule_Set r2.1 .sh)] ?_
  refine ze ?_
  refine zo (bv (r1.2 != 0)) ?_
  refine za ((r1.2 != 0)) ?_ ?_
  · exact zk (g3_r30_sim )
  · refine zo (bv (r2.2 != 0)) ?_
    refine za ((r2.2 != 0)) ?_ ?_
    · exact zk (g3_r30_sim )
    · exact zk (g3_r31_sim (b0) (b1) (b2) (b3) (r1.1) (r2.1) ob0_Rules ob1_Put ob1_Drop ob2_Put ob2_Drop ob3_Rules .sh .sh)
noncomputable def b3_l18 (x99 : List Int) (x100 : Int) (x101 : Int) (b0 : Srule_Set) (b1 : Srule_Delta) (b2 : Srule_Delta) (b3 : Srule_Set) : Option (Bool) :=
 if ((decide (x101 < x100))) = true then
 (b3_r19 x99 x100 x101 b0 b1 b2 b3)
 else
 (b3_r27 b0 b1 b2 b3)
theorem g3_l18_sim (x99 : List Int) (x100 : Int) (x101 : Int) (b0 : Srule_Set) (b1 : Srule_Delta) (b2 : Srule_Delta) (b3 : Srule_Set) (ox99 : Own) (ob0_Rules : Own) (ob1_Put : Own) (ob1_Drop : Own) (ob2_Put : Own) (ob2_Drop : Own) (ob3_Rules : Own) : Sim (Q3) (b3_l18 x99 x100 x101 b0 b1 b2 b3) (f3_l18 0 (.ptr 0 0) (.ptr 1 0) (.ptr 2 0) (.ptr 3 0) (.p (.lst ox99 (x99.map (eI .i64)))) (iv x100) (iv x101) [(r_Srule_Set b0 ob0_Rules), (r_Srule_Delta b1 ob1_Put ob1_Drop), (r_Srule_Delta b2 ob2_Put ob2_Drop), (r_Srule_Set b3 ob3_Rules)]) := by
  unfold b3_l18
  refine zf (f3_l18_eq ..) ?_
  refine ze ?_
  refine zo (bv (decide (x101 < x100))) ?_
  refine za ((decide (x101 < x100))) ?_ ?_
  · exact zk (g3_r19_sim (x99) (x100) (x101) (b0) (b1) (b2) (b3) ox99 ob0_Rules ob1_Put ob1_Drop ob2_Put ob2_Drop ob3_Rules)
  · exact zk (g3_r27_sim (b0) (b1) (b2) (b3) ob0_Rules ob1_Put ob1_Drop ob2_Put ob2_Drop ob3_Rules)
theorem g3_l18_of (x99 : List Int) (x100 : Int) (x101 : Int) (b0 : Srule_Set) (b1 : Srule_Delta) (b2 : Srule_Delta) (b3 : Srule_Set) {r} (h : b3_l18 x99 x100 x101 b0 b1 b2 b3 = some r) : g3_l18 x99 x100 x101 b0 b1 b2 b3 = some r :=
  pick_of (fun _ _ ha hb => RRun.uniq (Q3_u) (ha .ex .ex .ex .ex .ex .ex .ex) (hb .ex .ex .ex .ex .ex .ex .ex)) (fun ox99 ob0_Rules ob1_Put ob1_Drop ob2_Put ob2_Drop ob3_Rules => g3_l18_sim x99 x100 x101 b0 b1 b2 b3 ox99 ob0_Rules ob1_Put ob1_Drop ob2_Put ob2_Drop ob3_Rules r h)
noncomputable def b3_r25 (x14 : Int) (x99 : List Int) (x100 : Int) (x101 : Int) (x106 : List Int) (x107 : Int) (x108 : Int) (b0 : Srule_Set) (b1 : Srule_Delta) (b2 : Srule_Delta) (b3 : Srule_Set) : Option (Bool) :=
 g3_l21 x14 x99 x100 x101 x106 x107 ((IntKind.i64.wrap (x108 + 1))) b0 b1 b2 b3
theorem g3_r25_sim (x14 : Int) (x99 : List Int) (x100 : Int) (x101 : Int) (x106 : List Int) (x107 : Int) (x108 : Int) (b0 : Srule_Set) (b1 : Srule_Delta) (b2 : Srule_Delta) (b3 : Srule_Set) (ox99 : Own) (ox106 : Own) (ob0_Rules : Own) (ob1_Put : Own) (ob1_Drop : Own) (ob2_Put : Own) (ob2_Drop : Own) (ob3_Rules : Own) : Sim (Q3) (b3_r25 x14 x99 x100 x101 x106 x107 x108 b0 b1 b2 b3) (f3_r25 0 (.ptr 0 0) (.ptr 1 0) (.ptr 2 0) (.ptr 3 0) (iv x14) (.p (.lst ox99 (x99.map (eI .i64)))) (iv x100) (iv x101) (.p (.lst ox106 (x106.map (eI .i64)))) (iv x107) (iv x108) [(r_Srule_Set b0 ob0_Rules), (r_Srule_Delta b1 ob1_Put ob1_Drop), (r_Srule_Delta b2 ob2_Put ob2_Drop), (r_Srule_Set b3 ob3_Rules)]) := by
  unfold b3_r25
  refine zf (f3_r25_eq ..) ?_
  refine ze ?_
  refine zo (iv (IntKind.i64.wrap (x108 + 1))) ?_
  exact zk (g3_l21_to (x14) (x99) (x100) (x101) (x106) (x107) ((IntKind.i64.wrap (x108 + 1))) (b0) (b1) (b2) (b3) ox99 ox106 ob0_Rules ob1_Put ob1_Drop ob2_Put ob2_Drop ob3_Rules)
noncomputable def b3_r22 (x14 : Int) (x99 : List Int) (x100 : Int) (x101 : Int) (x106 : List Int) (x107 : Int) (x108 : Int) (b0 : Srule_Set) (b1 : Srule_Delta) (b2 : Srule_Delta) (b3 : Srule_Set) : Option (Bool) :=
 (lget x106 x108).bind fun a1 =>
 if ((x14 == a1)) = true then
 (some (true))
 else
 (b3_r25 x14 x99 x100 x101 x106 x107 x108 b0 b1 b2 b3)
theorem g3_r22_sim (x14 : Int) (x99 : List Int) (x100 : Int) (x101 : Int) (x106 : List Int) (x107 : Int) (x108 : Int) (b0 : Srule_Set) (b1 : Srule_Delta) (b2 : Srule_Delta) (b3 : Srule_Set) (ox99 : Own) (ox106 : Own) (ob0_Rules : Own) (ob1_Put : Own) (ob1_Drop : Own) (ob2_Put : Own) (ob2_Drop : Own) (ob3_Rules : Own) : Sim (Q3) (b3_r22 x14 x99 x100 x101 x106 x107 x108 b0 b1 b2 b3) (f3_r22 0 (.ptr 0 0) (.ptr 1 0) (.ptr 2 0) (.ptr 3 0) (iv x14) (.p (.lst ox99 (x99.map (eI .i64)))) (iv x100) (iv x101) (.p (.lst ox106 (x106.map (eI .i64)))) (iv x107) (iv x108) [(r_Srule_Set b0 ob0_Rules), (r_Srule_Delta b1 ob1_Put ob1_Drop), (r_Srule_Delta b2 ob2_Put ob2_Drop), (r_Srule_Set b3 ob3_Rules)]) := by
  unfold b3_r22
  refine zf (f3_r22_eq ..) ?_
  refine ze ?_
  refine zi fun a1 ha1 => ?_
  refine zo (.cptr [(.v (.int .i64 a1))]) ?_ (Eq.trans (by kernel_rfl) (xidx_of (o := ox106) (k := .i64) (n := 1) (e := (eI .i64)) (cs := (fun a => [(eI .i64) a])) (fun _ => rfl) (fun _ => rfl) (by decide) ha1))
  refine zo (iv a1) ?_
  refine ze ?_
  refine zo (bv (x14 == a1)) ?_
  refine za ((x14 == a1)) ?_ ?_
  · refine ze ?_
    exact zr ((bv true), [(r_Srule_Set b0 ob0_Rules), (r_Srule_Delta b1 ob1_Put ob1_Drop), (r_Srule_Delta b2 ob2_Put ob2_Drop), (r_Srule_Set b3 ob3_Rules)]) ⟨_, rfl⟩
  · exact zk (g3_r25_sim (x14) (x99) (x100) (x101) (x106) (x107) (x108) (b0) (b1) (b2) (b3) ox99 ox106 ob0_Rules ob1_Put ob1_Drop ob2_Put ob2_Drop ob3_Rules)
noncomputable def b3_r26 (x99 : List Int) (x100 : Int) (x101 : Int) (b0 : Srule_Set) (b1 : Srule_Delta) (b2 : Srule_Delta) (b3 : Srule_Set) : Option (Bool) :=
 g3_l18 x99 x100 ((IntKind.i64.wrap (x101 + 1))) b0 b1 b2 b3
theorem g3_r26_sim (x99 : List Int) (x100 : Int) (x101 : Int) (b0 : Srule_Set) (b1 : Srule_Delta) (b2 : Srule_Delta) (b3 : Srule_Set) (ox99 : Own) (ob0_Rules : Own) (ob1_Put : Own) (ob1_Drop : Own) (ob2_Put : Own) (ob2_Drop : Own) (ob3_Rules : Own) : Sim (Q3) (b3_r26 x99 x100 x101 b0 b1 b2 b3) (f3_r26 0 (.ptr 0 0) (.ptr 1 0) (.ptr 2 0) (.ptr 3 0) (.p (.lst ox99 (x99.map (eI .i64)))) (iv x100) (iv x101) [(r_Srule_Set b0 ob0_Rules), (r_Srule_Delta b1 ob1_Put ob1_Drop), (r_Srule_Delta b2 ob2_Put ob2_Drop), (r_Srule_Set b3 ob3_Rules)]) := by
  unfold b3_r26
  refine zf (f3_r26_eq ..) ?_
  refine ze ?_
  refine zo (iv (IntKind.i64.wrap (x101 + 1))) ?_
  exact zk (g3_l18_to (x99) (x100) ((IntKind.i64.wrap (x101 + 1))) (b0) (b1) (b2) (b3) ox99 ob0_Rules ob1_Put ob1_Drop ob2_Put ob2_Drop ob3_Rules)
noncomputable def b3_l21 (x14 : Int) (x99 : List Int) (x100 : Int) (x101 : Int) (x106 : List Int) (x107 : Int) (x108 : Int) (b0 : Srule_Set) (b1 : Srule_Delta) (b2 : Srule_Delta) (b3 : Srule_Set) : Option (Bool) :=
 if ((decide (x108 < x107))) = true then
 (b3_r22 x14 x99 x100 x101 x106 x107 x108 b0 b1 b2 b3)
 else
 (b3_r26 x99 x100 x101 b0 b1 b2 b3)
theorem g3_l21_sim (x14 : Int) (x99 : List Int) (x100 : Int) (x101 : Int) (x106 : List Int) (x107 : Int) (x108 : Int) (b0 : Srule_Set) (b1 : Srule_Delta) (b2 : Srule_Delta) (b3 : Srule_Set) (ox99 : Own) (ox106 : Own) (ob0_Rules : Own) (ob1_Put : Own) (ob1_Drop : Own) (ob2_Put : Own) (ob2_Drop : Own) (ob3_Rules : Own) : Sim (Q3) (b3_l21 x14 x99 x100 x101 x106 x107 x108 b0 b1 b2 b3) (f3_l21 0 (.ptr 0 0) (.ptr 1 0) (.ptr 2 0) (.ptr 3 0) (iv x14) (.p (.lst ox99 (x99.map (eI .i64)))) (iv x100) (iv x101) (.p (.lst ox106 (x106.map (eI .i64)))) (iv x107) (iv x108) [(r_Srule_Set b0 ob0_Rules), (r_Srule_Delta b1 ob1_Put ob1_Drop), (r_Srule_Delta b2 ob2_Put ob2_Drop), (r_Srule_Set b3 ob3_Rules)]) := by
  unfold b3_l21
  refine zf (f3_l21_eq ..) ?_
  refine ze ?_
  refine zo (bv (decide (x108 < x107))) ?_
  refine za ((decide (x108 < x107))) ?_ ?_
  · exact zk (g3_r22_sim (x14) (x99) (x100) (x101) (x106) (x107) (x108) (b0) (b1) (b2) (b3) ox99 ox106 ob0_Rules ob1_Put ob1_Drop ob2_Put ob2_Drop ob3_Rules)
  · exact zk (g3_r26_sim (x99) (x100) (x101) (b0) (b1) (b2) (b3) ox99 ob0_Rules ob1_Put ob1_Drop ob2_Put ob2_Drop ob3_Rules)
theorem g3_l21_of (x14 : Int) (x99 : List Int) (x100 : Int) (x101 : Int) (x106 : List Int) (x107 : Int) (x108 : Int) (b0 : Srule_Set) (b1 : Srule_Delta) (b2 : Srule_Delta) (b3 : Srule_Set) {r} (h : b3_l21 x14 x99 x100 x101 x106 x107 x108 b0 b1 b2 b3 = some r) : g3_l21 x14 x99 x100 x101 x106 x107 x108 b0 b1 b2 b3 = some r :=
  pick_of (fun _ _ ha hb => RRun.uniq (Q3_u) (ha .ex .ex .ex .ex .ex .ex .ex .ex) (hb .ex .ex .ex .ex .ex .ex .ex .ex)) (fun ox99 ox106 ob0_Rules ob1_Put ob1_Drop ob2_Put ob2_Drop ob3_Rules => g3_l21_sim x14 x99 x100 x101 x106 x107 x108 b0 b1 b2 b3 ox99 ox106 ob0_Rules ob1_Put ob1_Drop ob2_Put ob2_Drop ob3_Rules r h)
/-! "colander/colanderlaw07.ids": g15 -/
noncomputable def b15 (x0 : Srule_Delta) : Option ((List Int)) :=
 (lapp ([] : List Int) x0.Drop).bind fun a1 =>
 g15_l3 a1 x0.Put ((x0.Put.length : Int)) 0
theorem g15_sim (x0 : Srule_Delta) (ox0_Put : Own) (ox0_Drop : Own) : Sim (Q15) (b15 x0) (EE 15 [(.p (.agg (k_Srule_Delta x0 ox0_Put ox0_Drop)))] []) := by
  unfold b15
  refine zf (f15_eq ..) ?_
  refine ze ?_
  refine zx (.ptr 0 0) [(r_Srule_Delta x0 ox0_Put ox0_Drop)] ?_
  refine ze ?_
  refine zo (.p (.lst .ex [])) ?_
  refine zo (.ptr 0 5) ?_
  refine zo (.p (.lst (shrO ox0_Drop) (x0.Drop.map (eI .i64)))) ?_
  refine zi fun a1 ha1 => ?_
  refine zo (.p (.lst (apo .ex ((x0.Drop).map (eI .i64))) (a1.map (eI .i64)))) ?_ (Eq.trans (by kernel_rfl) <| xapp_of (n := 1) (o := .ex) (o' := (shrO ox0_Drop)) (e := (eI .i64)) (ys := x0.Drop) (fun _ => rfl) (by decide) rfl ha1)
  refine ze ?_
  refine zo (.ptr 0 4) ?_
  refine zo (.p (.lst (shrO ox0_Put) (x0.Put.map e_Srule_Rule))) ?_
  refine zo (iv (x0.Put.length : Int)) ?_ (Eq.trans (by kernel_rfl) (xlen_of (P := PP) (t := 22) (d := 43) (by kernel_rfl) e_Srule_Rule (shrO ox0_Put) x0.Put))
  exact zk (g15_l3_to (a1) (x0.Put) ((x0.Put.length : Int)) (0) (apo .ex ((x0.Drop).map (eI .i64))) (shrO ox0_Put) (okApp_apo rfl))
theorem g15_of (x0 : Srule_Delta) {r} (h : b15 x0 = some r) : g15 x0 = some r :=
  pick_of (fun _ _ ha hb => RRun.uniq (Q15_u) (ha .ex .ex) (hb .ex .ex)) (fun ox0_Put ox0_Drop => g15_sim x0 ox0_Put ox0_Drop r h)
noncomputable def b15_r4 (x3 : List Int) (x11 : List Srule_Rule) (x12 : Int) (x13 : Int) : Option ((List Int)) :=
 (lget x11 x13).bind fun a1 =>
 (lapp x3 ([a1.ID] : List Int)).bind fun a2 =>
 g15_l3 a2 x11 x12 ((IntKind.i64.wrap (x13 + 1)))
theorem g15_r4_sim (x3 : List Int) (x11 : List Srule_Rule) (x12 : Int) (x13 : Int) (ox3 : Own) (ox11 : Own) (hox3 : okApp ox3 = true) : Sim (Q15) (b15_r4 x3 x11 x12 x13) (f15_r4 0 (.p (.lst ox3 (x3.map (eI .i64)))) (.p (.lst ox11 (x11.map e_Srule_Rule))) (iv x12) (iv x13) []) := by
  unfold b15_r4
  refine zf (f15_r4_eq ..) ?_
  refine ze ?_
  refine zi fun a1 ha1 => ?_
  refine zo (.cptr (k_Srule_Rule a1)) ?_ (Eq.trans (by kernel_rfl) (xidx_of (o := ox11) (k := .i64) (n := 5) (e := e_Srule_Rule) (cs := c_Srule_Rule) (fun _ => rfl) (fun _ => rfl) (by decide) ha1))
  refine zo (.p (.agg (k_Srule_Rule a1))) ?_
  refine zz (.ptr 0 0) [(r_Srule_Rule (Srule_Rule.mk 0 0 0 0 (ByteArray.mk #[])))] ?_
  refine zt [(r_Srule_Rule a1)] ?_
  refine ze ?_
  refine zo (.ptr 0 0) ?_
  refine zo (iv a1.ID) ?_
  refine zo (.p (.lst .ex (([a1.ID] : List Int).map (eI .i64)))) ?_
  refine zi fun a2 ha2 => ?_
  refine zo (.p (.lst .un (a2.map (eI .i64)))) ?_ (Eq.trans (by kernel_rfl) <| xapp_of (n := 1) (o := ox3) (o' := .ex) (e := (eI .i64)) (ys := ([a1.ID] : List Int)) (fun _ => rfl) (by decide) hox3 ha2)
  refine ze ?_
  refine zo (iv (IntKind.i64.wrap (x13 + 1))) ?_
  exact zk (g15_l3_to (a2) (x11) (x12) ((IntKind.i64.wrap (x13 + 1))) .un ox11 rfl)
noncomputable def b15_r7 (x3 : List Int) : Option ((List Int)) :=
 some (x3)
theorem g15_r7_sim (x3 : List Int) (ox3 : Own) (hox3 : okApp ox3 = true) : Sim (Q15) (b15_r7 x3) (f15_r7 0 (.p (.lst ox3 (x3.map (eI .i64)))) []) := by
  unfold b15_r7
  refine zf (f15_r7_eq ..) ?_
  refine ze ?_
  exact zr ((.p (.lst .sh (x3.map (eI .i64)))), []) ⟨_, rfl⟩
noncomputable def b15_l3 (x3 : List Int) (x11 : List Srule_Rule) (x12 : Int) (x13 : Int) : Option ((List Int)) :=
 if ((decide (x13 < x12))) = true then
 (b15_r4 x3 x11 x12 x13)
 else
 (b15_r7 x3)
theorem g15_l3_sim (x3 : List Int) (x11 : List Srule_Rule) (x12 : Int) (x13 : Int) (ox3 : Own) (ox11 : Own) (hox3 : okApp ox3 = true) : Sim (Q15) (b15_l3 x3 x11 x12 x13) (f15_l3 0 (.p (.lst ox3 (x3.map (eI .i64)))) (.p (.lst ox11 (x11.map e_Srule_Rule))) (iv x12) (iv x13) []) := by
  unfold b15_l3
  refine zf (f15_l3_eq ..) ?_
  refine ze ?_
  refine zo (bv (decide (x13 < x12))) ?_
  refine za ((decide (x13 < x12))) ?_ ?_
  · exact zk (g15_r4_sim (x3) (x11) (x12) (x13) ox3 ox11 hox3)
  · exact zk (g15_r7_sim (x3) ox3 hox3)
theorem g15_l3_of (x3 : List Int) (x11 : List Srule_Rule) (x12 : Int) (x13 : Int) {r} (h : b15_l3 x3 x11 x12 x13 = some r) : g15_l3 x3 x11 x12 x13 = some r :=
  pick_of (fun _ _ ha hb => RRun.uniq (Q15_u) (ha .ex .ex rfl) (hb .ex .ex rfl)) (fun ox3 ox11 hox3 => g15_l3_sim x3 x11 x12 x13 ox3 ox11 hox3 r h)
end Go.Proofs.Ytbmmhbpalkepeaa.N2
end
