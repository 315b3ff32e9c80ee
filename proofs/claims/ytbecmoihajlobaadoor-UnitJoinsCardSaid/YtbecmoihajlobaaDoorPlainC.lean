/- Characters cut from what is beside them; UnitParts and UnitTurned in the evaluator. -/
import Derived.Test.YtbecmoihajlobaaDoorPlainB

section
set_option linter.unusedSimpArgs false
set_option linter.unusedVariables false
/- The law UnitParts. -/
namespace Go.Proofs.YtbecmoihajlobaaDoor
open Go Go.Abs Go.RowKit

theorem U_char {n : Nat} (h : n < 55296 ∨ (57343 < n ∧ n ≤ 1114111)) (b : List UInt8) : U (encB n ++ b) = ((n : Int), (encB n).length) ∧ fresh (encB n ++ b) := by
  unfold encB
  by_cases h1 : n < 128
  · rw [if_pos h1]
    have e0 : nth (UInt8.ofNat n :: b) 0 = n := u8_toNat (by omega)
    refine ⟨?_, .inl (by show nth (UInt8.ofNat n :: b) 0 / 64 ≠ 2; rw [e0]; omega)⟩
    show U (UInt8.ofNat n :: b) = _
    unfold U
    rw [e0]
    unfold dec
    rw [if_pos h1, strayed_good (.inr (by omega))]
    rfl
  · rw [if_neg h1]
    by_cases h2 : n < 2048
    · rw [if_pos h2]
      have e0 : nth (UInt8.ofNat (192 + n / 64) :: UInt8.ofNat (128 + n % 64) :: b) 0 = 192 + n / 64 := u8_toNat (by omega)
      have e1 : nth (UInt8.ofNat (192 + n / 64) :: UInt8.ofNat (128 + n % 64) :: b) 1 = 128 + n % 64 := u8_toNat (by omega)
      refine ⟨?_, .inl (by show nth (UInt8.ofNat (192 + n / 64) :: UInt8.ofNat (128 + n % 64) :: b) 0 / 64 ≠ 2; rw [e0]; omega)⟩
      show U (UInt8.ofNat (192 + n / 64) :: UInt8.ofNat (128 + n % 64) :: b) = _
      unfold U
      rw [e0, e1]
      unfold dec
      have ev : (192 + n / 64) % 32 * 64 + (128 + n % 64) % 64 = n := by omega
      rw [if_neg (by omega), if_pos ⟨by omega, by simp, by omega⟩, ev, if_pos (by omega), strayed_good (.inl (by omega))]
      rfl
    · rw [if_neg h2]
      by_cases h3 : n < 65536
      · rw [if_pos h3]
        have e0 : nth (UInt8.ofNat (224 + n / 4096) :: UInt8.ofNat (128 + n / 64 % 64) :: UInt8.ofNat (128 + n % 64) :: b) 0 = 224 + n / 4096 := u8_toNat (by omega)
        have e1 : nth (UInt8.ofNat (224 + n / 4096) :: UInt8.ofNat (128 + n / 64 % 64) :: UInt8.ofNat (128 + n % 64) :: b) 1 = 128 + n / 64 % 64 := u8_toNat (by omega)
        have e2 : nth (UInt8.ofNat (224 + n / 4096) :: UInt8.ofNat (128 + n / 64 % 64) :: UInt8.ofNat (128 + n % 64) :: b) 2 = 128 + n % 64 := u8_toNat (by omega)
        refine ⟨?_, .inl (by show nth (UInt8.ofNat (224 + n / 4096) :: UInt8.ofNat (128 + n / 64 % 64) :: UInt8.ofNat (128 + n % 64) :: b) 0 / 64 ≠ 2; rw [e0]; omega)⟩
        show U (UInt8.ofNat (224 + n / 4096) :: UInt8.ofNat (128 + n / 64 % 64) :: UInt8.ofNat (128 + n % 64) :: b) = _
        unfold U
        rw [e0, e1, e2]
        unfold dec
        have ev : (224 + n / 4096) % 16 * 4096 + (128 + n / 64 % 64) % 64 * 64 + (128 + n % 64) % 64 = n := by omega
        rw [if_neg (by omega), if_neg (by omega), if_pos ⟨by omega, ⟨by simp, by omega⟩, by simp, by omega⟩, ev, if_pos ⟨by omega, (valid_iff _).2 (by omega)⟩, strayed_good (.inl (by omega))]
        rfl
      · rw [if_neg h3]
        have e0 : nth (UInt8.ofNat (240 + n / 262144) :: UInt8.ofNat (128 + n / 4096 % 64) :: UInt8.ofNat (128 + n / 64 % 64) :: UInt8.ofNat (128 + n % 64) :: b) 0 = 240 + n / 262144 := u8_toNat (by omega)
        have e1 : nth (UInt8.ofNat (240 + n / 262144) :: UInt8.ofNat (128 + n / 4096 % 64) :: UInt8.ofNat (128 + n / 64 % 64) :: UInt8.ofNat (128 + n % 64) :: b) 1 = 128 + n / 4096 % 64 := u8_toNat (by omega)
        have e2 : nth (UInt8.ofNat (240 + n / 262144) :: UInt8.ofNat (128 + n / 4096 % 64) :: UInt8.ofNat (128 + n / 64 % 64) :: UInt8.ofNat (128 + n % 64) :: b) 2 = 128 + n / 64 % 64 := u8_toNat (by omega)
        have e3 : nth (UInt8.ofNat (240 + n / 262144) :: UInt8.ofNat (128 + n / 4096 % 64) :: UInt8.ofNat (128 + n / 64 % 64) :: UInt8.ofNat (128 + n % 64) :: b) 3 = 128 + n % 64 := u8_toNat (by omega)
        refine ⟨?_, .inl (by show nth (UInt8.ofNat (240 + n / 262144) :: UInt8.ofNat (128 + n / 4096 % 64) :: UInt8.ofNat (128 + n / 64 % 64) :: UInt8.ofNat (128 + n % 64) :: b) 0 / 64 ≠ 2; rw [e0]; omega)⟩
        show U (UInt8.ofNat (240 + n / 262144) :: UInt8.ofNat (128 + n / 4096 % 64) :: UInt8.ofNat (128 + n / 64 % 64) :: UInt8.ofNat (128 + n % 64) :: b) = _
        unfold U
        rw [e0, e1, e2, e3]
        unfold dec
        have ev : (240 + n / 262144) % 8 * 262144 + (128 + n / 4096 % 64) % 64 * 4096 + (128 + n / 64 % 64) % 64 * 64 + (128 + n % 64) % 64 = n := by omega
        rw [if_neg (by omega), if_neg (by omega), if_neg (by omega), if_pos ⟨by omega, ⟨by simp, by omega⟩, ⟨by simp, by omega⟩, by simp, by omega⟩, ev, if_pos ⟨by omega, (valid_iff _).2 (by omega)⟩, strayed_good (.inl (by omega))]
        rfl

theorem encB_ne (n : Nat) : encB n ≠ [] := by
  unfold encB
  split <;> try split <;> try split
  all_goals simp

theorem encB_len (n : Nat) : (encB n).length ≤ 4 := by
  unfold encB
  split <;> try split <;> try split
  all_goals simp

theorem units_char {n : Nat} (h : n < 55296 ∨ (57343 < n ∧ n ≤ 1114111)) (b : List UInt8) : units (encB n ++ b) = (n : Int) :: units b := by
  have hn := encB_ne n
  rw [units_step (by simp [hn]), (U_char h b).1]
  simp only
  rw [List.drop_left]

theorem units_parts {n : Nat} (h : n < 55296 ∨ (57343 < n ∧ n ≤ 1114111)) (a b : List UInt8) : units (a ++ encB n ++ b) = units a ++ [(n : Int)] ++ units b := by
  rw [List.append_assoc, units_app (U_char h b).2 _ a (Nat.le_refl _), units_char h, List.append_assoc]
  rfl

theorem xapp_ok {n : Nat} {o o' : Abs.Own} {xs ys : List PV} (ho : okApp o = true) (hs : szOk n xs = true) (hs' : szOk n ys = true) (hn : 0 < n) (hl : xs.length + ys.length ≤ lim) :
    ∃ o2, okApp o2 = true ∧ xapp n (.p (.lst o xs)) (.p (.lst o' ys)) = some (.p (.lst o2 (xs ++ ys))) := by
  refine ⟨apo o ys, by
    cases ys with
    | nil => exact ho
    | cons y r => rfl, ?_⟩
  unfold xapp
  simp only [elems, ob_sm]
  rw [if_pos]
  rw [ho, hs, hs', decide_eq_true hn, decide_eq_true hl]
  rfl

theorem shr_lst (o : Abs.Own) (xs : List PV) : ∃ o2, shr (.p (.lst o xs)) = .p (.lst o2 xs) := by cases o <;> exact ⟨_, rfl⟩

theorem szOk_bl (l : List UInt8) : szOk 1 (bl l) = true := szOk_one (fun _ => rfl) l
theorem bl_app (a b : List UInt8) : bl (a ++ b) = bl a ++ bl b := by simp [bl]
theorem il_app (a b : List Int) : il (a ++ b) = il a ++ il b := by simp [il]

theorem xapp_bl {o o' : Abs.Own} {a b : List UInt8} (ho : okApp o = true) (hl : a.length + b.length ≤ 1099511627776) : ∃ o2, okApp o2 = true ∧ xapp 1 (.p (.lst o (bl a))) (.p (.lst o' (bl b))) = some (.p (.lst o2 (bl (a ++ b)))) := by
  obtain ⟨o2, h1, h2⟩ := xapp_ok (o := o) (o' := o') (xs := bl a) (ys := bl b) ho (szOk_bl a) (szOk_bl b) (by omega) (by rw [bl_len, bl_len]; exact hl)
  exact ⟨o2, h1, by rw [h2, bl_app]⟩
theorem xapp_il2 {o o' : Abs.Own} {a b : List Int} (ho : okApp o = true) (hl : a.length + b.length ≤ 1099511627776) : ∃ o2, okApp o2 = true ∧ xapp 1 (.p (.lst o (il a))) (.p (.lst o' (il b))) = some (.p (.lst o2 (il (a ++ b)))) := by
  obtain ⟨o2, h1, h2⟩ := xapp_ok (o := o) (o' := o') (xs := il a) (ys := il b) ho (szOk_il a) (szOk_il b) (by omega) (by rw [il_len, il_len]; exact hl)
  exact ⟨o2, h1, by rw [h2, il_app]⟩

namespace N2
theorem lit0 : xlit PP 22 0 [] = some (.p (.lst .ex (bl []))) := by kernel_rfl
theorem lit0i : xlit PP 27 0 [] = some (.p (.lst .ex (il []))) := by kernel_rfl
theorem parts_val (a : List UInt8) (c : Int) (b : List UInt8) : EE 4 [.p (.lst .sh (bl a)), .p (.v (.int .i64 c)), .p (.lst .sh (bl b))] [] = some (.p (.v (.bool true)), []) := by
  rw [f4_eq]
  simp only [mk_eq, callAnchor, x_not, ob_sm, asB_b, Bool.not_true, br_f, gcB_nil, f4_r3_eq, shr_sh, shr_v, x_len Tryd.underlying22, bl_len, iv, x_gtr]
  by_cases hl : (300 : Int) < a.length
  · simp only [hl, decide_true, br_t, f4_r4_eq]
    rfl
  by_cases hl2 : (300 : Int) < b.length
  · simp only [hl, hl2, decide_true, decide_false, br_t, br_f, f4_r4_eq]
    rfl
  simp only [hl, hl2, decide_false, br_f, callChar, x_not, ob_sm, shr_v, asB_b]
  cases hc : isChar c with
  | false =>
    simp only [Bool.not_false, br_t, f4_r4_eq]
    rfl
  | true =>
    unfold isChar at hc
    have hc' := of_decide_eq_true hc
    obtain ⟨n, rfl⟩ : ∃ n : Nat, c = n := ⟨c.toNat, by omega⟩
    have hn : n < 55296 ∨ (57343 < n ∧ n ≤ 1114111) := by omega
    have hn4 := encB_len n
    have u1 := units_len a
    have u2 := units_len b
    simp only [Bool.not_true, br_f, gcB_nil]
    rw [f4_r5_eq]
    simp only [mk_eq, shr_v, callBytes (show n ≤ 1114111 by omega), shr_sh]
    rw [lit0, ob_sm]
    obtain ⟨o1, k1, e1⟩ := xapp_bl (o := .ex) (o' := .sh) (a := []) (b := a) rfl (by simp; omega)
    obtain ⟨o2, k2, e2⟩ := xapp_bl (o := o1) (o' := .sh) (a := a) (b := encB n) k1 (by omega)
    rw [List.nil_append] at e1
    rw [e1, ob_sm, e2, ob_sm]
    obtain ⟨o3, e3⟩ := shr_lst o2 (bl (a ++ encB n))
    rw [e3]
    obtain ⟨o5, k5, e5⟩ := xapp_bl (o := .ex) (o' := o3) (a := []) (b := a ++ encB n) rfl (by simp; omega)
    obtain ⟨o6, k6, e6⟩ := xapp_bl (o := o5) (o' := .sh) (a := a ++ encB n) (b := b) k5 (by simp; omega)
    rw [List.nil_append] at e5
    rw [ob_sm, e5, ob_sm, e6, ob_sm, lit0i, ob_sm]
    simp only [callSplit (show a.length ≤ 1099511627776 by omega)]
    obtain ⟨o7, k7, e7⟩ := xapp_il2 (o := .ex) (o' := accO (units a)) (a := []) (b := units a) rfl (by simp; omega)
    obtain ⟨o8, k8, e8⟩ := xapp_il2 (o := o7) (o' := .ex) (a := units a) (b := [(n : Int)]) k7 (by simp; omega)
    rw [List.nil_append] at e7
    rw [e7, ob_sm, lit27, ob_sm, e8, ob_sm]
    obtain ⟨o9, e9⟩ := shr_lst o8 (il (units a ++ [(n : Int)]))
    rw [e9]
    simp only [callSplit (show (a ++ encB n).length ≤ 1099511627776 by simp; omega)]
    have hu : units (a ++ encB n) = units a ++ [(n : Int)] := by
      have := units_parts hn a []
      simpa [units_nil] using this
    rw [hu]
    simp only [callSame (show (units a ++ [(n : Int)]).length ≤ 1099511627776 by simp; omega), decide_true, shr_v, asB_b, br_t]
    simp only [callSplit (show (a ++ encB n ++ b).length ≤ 1099511627776 by simp; omega), callSplit (show b.length ≤ 1099511627776 by omega)]
    obtain ⟨o12, k12, e12⟩ := xapp_il2 (o := o8) (o' := accO (units b)) (a := units a ++ [(n : Int)]) (b := units b) k8 (by simp; omega)
    rw [e12, ob_sm, units_parts hn]
    simp only [callSame (show (units a ++ [(n : Int)] ++ units b).length ≤ 1099511627776 by simp; omega), decide_true]
    rfl

theorem accO_ok (l : List Int) : okApp (accO l) = true := by cases l <;> rfl
theorem c83 (c : UInt8) : xcnv PP 5 3 (.p (.v (.int .u8 c.toNat))) = some (.p (.v (.int .i64 c.toNat))) := by
  have := c.toNat_lt
  rw [x_cnv Tryd.underlying5 Tryd.underlying3, wrap_i64 (by omega) (by omega)]
theorem lit1c (c : UInt8) : xlit PP 22 1 [(0, .p (.v (.int .u8 c.toNat)))] = some (.p (.lst .ex (bl [c]))) := lit1 _

theorem turned_val (a : List UInt8) (c : UInt8) (b : List UInt8) : EE 5 [.p (.lst .sh (bl a)), .p (.v (.int .u8 c.toNat)), .p (.lst .sh (bl b))] [] = some (.p (.v (.bool true)), []) := by
  rw [f5_eq]
  simp only [mk_eq, callAnchor, x_not, ob_sm, asB_b, Bool.not_true, br_f, gcB_nil, f5_r3_eq, shr_sh, shr_v, x_len Tryd.underlying22, bl_len, iv, kv, x_gtr]
  by_cases hl : (300 : Int) < a.length
  · simp only [hl, decide_true, br_t, f5_r4_eq]
    rfl
  by_cases hl2 : (300 : Int) < b.length
  · simp only [hl, hl2, decide_true, decide_false, br_t, br_f, f5_r4_eq]
    rfl
  simp only [hl, hl2, decide_false, br_f, x_geq, ob_sm, shr_v, asB_b]
  by_cases hc : (128 : Int) ≤ c.toNat
  · simp only [hc, decide_true, br_t, f5_r4_eq]
    rfl
  have hc' : c.toNat < 128 := by omega
  have u1 := units_len a
  have u2 := units_len b
  simp only [hc, decide_false, br_f, gcB_nil]
  rw [f5_r5_eq]
  simp only [mk_eq, shr_v, shr_sh]
  rw [lit0, ob_sm]
  obtain ⟨o1, k1, e1⟩ := xapp_bl (o := .ex) (o' := .sh) (a := []) (b := a) rfl (by simp; omega)
  obtain ⟨o2, k2, e2⟩ := xapp_bl (o := o1) (o' := .ex) (a := a) (b := [c]) k1 (by simp; omega)
  obtain ⟨o3, k3, e3⟩ := xapp_bl (o := o2) (o' := .sh) (a := a ++ [c]) (b := b) k2 (by simp; omega)
  rw [List.nil_append] at e1
  rw [e1, ob_sm, lit1c, ob_sm, e2, ob_sm, e3, ob_sm]
  simp only [callSplit (show a.length ≤ 1099511627776 by omega), callSplit (show b.length ≤ 1099511627776 by omega)]
  obtain ⟨o4, k4, e4⟩ := xapp_il2 (o := accO (units a)) (o' := .ex) (a := units a) (b := [(c.toNat : Int)]) (accO_ok _) (by simp; omega)
  obtain ⟨o5, k5, e5⟩ := xapp_il2 (o := o4) (o' := accO (units b)) (a := units a ++ [(c.toNat : Int)]) (b := units b) k4 (by simp; omega)
  rw [c83, ob_sm, lit27, ob_sm, e4, ob_sm, e5, ob_sm]
  obtain ⟨o6, e6⟩ := shr_lst o5 (il (units a ++ [(c.toNat : Int)] ++ units b))
  obtain ⟨o7, e7⟩ := shr_lst o6 (il (units a ++ [(c.toNat : Int)] ++ units b))
  rw [e6, e7]
  simp only [callSplit (show (a ++ [c] ++ b).length ≤ 1099511627776 by simp; omega), units_turned a c b hc']
  simp only [callSame (show (units a ++ [(c.toNat : Int)] ++ units b).length ≤ 1099511627776 by simp; omega), decide_true]
  rfl
end N2
end Go.Proofs.YtbecmoihajlobaaDoor
end
