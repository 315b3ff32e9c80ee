/- The functions in plain words. -/
import Derived.Test.YtbecmoihajlobaaDoorEqs

section
set_option linter.unusedSimpArgs false
set_option linter.unusedVariables false
/- What the small functions come to: same; guess; Character; Bytes. -/
namespace Go.Proofs.YtbecmoihajlobaaDoor
open Go Go.Abs Go.RowKit

theorem il_len (l : List Int) : (il l).length = l.length := by simp [il]
theorem il_get {l : List Int} {i : Nat} {x : Int} (h : l[i]? = some x) : (il l)[i]? = some (.v (.int .i64 x)) := by simp [il, h]
theorem xidx_il {l : List Int} {o : Abs.Own} {i : Nat} {k : IntKind} (h : i < l.length) : xidx 1 (.p (.lst o (il l))) (.p (.v (.int k i))) = some (.cptr [.v (.int .i64 l[i])]) :=
  xidx_one (by omega) (il_get (by simp [h])) rfl
theorem xidx_bl {l : List UInt8} {o : Abs.Own} {i : Nat} {k : IntKind} (h : i < l.length) : xidx 1 (.p (.lst o (bl l))) (.p (.v (.int k i))) = some (.cptr [.v (.int .u8 l[i].toNat)]) :=
  xidx_one (by omega) (bl_get (by simp [h])) rfl

namespace N2
theorem same_loop {a b : List Int} (hl : a.length = b.length) (hb : a.length ≤ 1099511627776) (m0 : Nat) : ∀ d i, i + d = a.length →
    f12_l4 m0 (.p (.lst .sh (il b))) (.p (.lst .sh (il a))) (.p (.v (.int .i64 a.length))) (.p (.v (.int .i64 i))) [] = some (.p (.v (.bool (decide (a.drop i = b.drop i)))), [])
  | 0, i, h => by
    have h0 : ¬ (i : Int) < a.length := by omega
    rw [f12_l4_eq]
    simp only [mk_eq, lp_eq, iv, kv, bv, shr_v, shr_sh, shr_un, shr_ex, shr_nl, shr_tup, shr_agg, List.map_cons, List.map_nil, shrP_v, shrP_sh, nrm_v, nrm_lst, x_ext0, x_ext1, x_ext2, ob_sm, asB_b, gcB_nil, x_lss, x_leq, x_gtr, x_geq, x_eql, x_neq, x_add, x_sub, x_mul, x_not, x_seql, x_sneq, decide_true, decide_false, br_t, br_f, h0, f12_r9_eq]
    rw [List.drop_of_length_le (by omega), List.drop_of_length_le (by omega)]
    rfl
  | d + 1, i, h => by
    have h0 : (i : Int) < a.length := by omega
    have hia : i < a.length := by omega
    have hib : i < b.length := by omega
    rw [f12_l4_eq]
    simp only [mk_eq, lp_eq, iv, kv, bv, shr_v, shr_sh, shr_un, shr_ex, shr_nl, shr_tup, shr_agg, List.map_cons, List.map_nil, shrP_v, shrP_sh, nrm_v, nrm_lst, x_ext0, x_ext1, x_ext2, ob_sm, asB_b, gcB_nil, x_lss, x_leq, x_gtr, x_geq, x_eql, x_neq, x_add, x_sub, x_mul, x_not, x_seql, x_sneq, decide_true, decide_false, br_t, br_f, h0, f12_r5_eq, xidx_il hia, xidx_il hib, ldN_one]
    rw [List.drop_eq_getElem_cons hia, List.drop_eq_getElem_cons hib]
    by_cases e : a[i] = b[i]
    · have e1 : (a[i] != b[i]) = false := by simpa using e
      simp only [e1, mk_eq, lp_eq, iv, kv, bv, shr_v, shr_sh, shr_un, shr_ex, shr_nl, shr_tup, shr_agg, List.map_cons, List.map_nil, shrP_v, shrP_sh, nrm_v, nrm_lst, x_ext0, x_ext1, x_ext2, ob_sm, asB_b, gcB_nil, x_lss, x_leq, x_gtr, x_geq, x_eql, x_neq, x_add, x_sub, x_mul, x_not, x_seql, x_sneq, decide_true, decide_false, br_t, br_f, f12_r8_eq]
      rw [wrap_i64 (by omega) (by omega), show (i : Int) + 1 = ((i + 1 : Nat) : Int) by omega, same_loop hl hb m0 d (i + 1) (by omega)]
      have : decide (a[i] :: a.drop (i + 1) = b[i] :: b.drop (i + 1)) = decide (a.drop (i + 1) = b.drop (i + 1)) := by simp only [e, List.cons.injEq, true_and]
      rw [this]
    · have e1 : (a[i] != b[i]) = true := by simpa using e
      simp only [e1, mk_eq, lp_eq, iv, kv, bv, shr_v, shr_sh, shr_un, shr_ex, shr_nl, shr_tup, shr_agg, List.map_cons, List.map_nil, shrP_v, shrP_sh, nrm_v, nrm_lst, x_ext0, x_ext1, x_ext2, ob_sm, asB_b, gcB_nil, x_lss, x_leq, x_gtr, x_geq, x_eql, x_neq, x_add, x_sub, x_mul, x_not, x_seql, x_sneq, decide_true, decide_false, br_t, br_f]
      have : decide (a[i] :: a.drop (i + 1) = b[i] :: b.drop (i + 1)) = false := by simp only [List.cons.injEq, e, false_and, decide_false]
      rw [this]
      rfl

theorem same_val {a b : List Int} (ha : a.length ≤ 1099511627776) : EE 12 [.p (.lst .sh (il a)), .p (.lst .sh (il b))] [] = some (.p (.v (.bool (decide (a = b)))), []) := by
  rw [f12_eq]
  simp only [mk_eq, lp_eq, iv, kv, bv, shr_v, shr_sh, shr_un, shr_ex, shr_nl, shr_tup, shr_agg, List.map_cons, List.map_nil, shrP_v, shrP_sh, nrm_v, nrm_lst, x_ext0, x_ext1, x_ext2, ob_sm, asB_b, gcB_nil, x_lss, x_leq, x_gtr, x_geq, x_eql, x_neq, x_add, x_sub, x_mul, x_not, x_seql, x_sneq, decide_true, decide_false, br_t, br_f, x_len Tryd.underlying27, il_len]
  by_cases e : a.length = b.length
  · have e1 : ((a.length : Int) != b.length) = false := by simpa using (show (a.length : Int) = b.length by omega)
    simp only [e1, mk_eq, lp_eq, iv, kv, bv, shr_v, shr_sh, shr_un, shr_ex, shr_nl, shr_tup, shr_agg, List.map_cons, List.map_nil, shrP_v, shrP_sh, nrm_v, nrm_lst, x_ext0, x_ext1, x_ext2, ob_sm, asB_b, gcB_nil, x_lss, x_leq, x_gtr, x_geq, x_eql, x_neq, x_add, x_sub, x_mul, x_not, x_seql, x_sneq, decide_true, decide_false, br_t, br_f, f12_r3_eq, x_len Tryd.underlying27, il_len]
    have := same_loop e ha ([] : List Row).length a.length 0 (by omega)
    simpa using this
  · have e1 : ((a.length : Int) != b.length) = true := by simpa using (show ¬ (a.length : Int) = b.length by omega)
    simp only [e1, mk_eq, lp_eq, iv, kv, bv, shr_v, shr_sh, shr_un, shr_ex, shr_nl, shr_tup, shr_agg, List.map_cons, List.map_nil, shrP_v, shrP_sh, nrm_v, nrm_lst, x_ext0, x_ext1, x_ext2, ob_sm, asB_b, gcB_nil, x_lss, x_leq, x_gtr, x_geq, x_eql, x_neq, x_add, x_sub, x_mul, x_not, x_seql, x_sneq, decide_true, decide_false, br_t, br_f]
    have : decide (a = b) = false := by
      simp only [decide_eq_false_iff_not]
      rintro rfl
      exact e rfl
    rw [this]
    rfl

/-- The number that would begin with a byte, and how many bytes would follow. -/
def guess (c : Int) : Int × Int :=
  if c < 128 then (c, 0) else if 192 ≤ c ∧ c < 224 then (c - 192, 1) else if 224 ≤ c ∧ c < 240 then (c - 224, 2) else if 240 ≤ c ∧ c < 248 then (c - 240, 3) else (-1, 0)

theorem guess_val {c : Int} (h0 : 0 ≤ c) (h1 : c < 256) : EE 22 [.p (.v (.int .i64 c))] [] = some (.p (.tup [.v (.int .i64 (guess c).1), .v (.int .i64 (guess c).2)]), []) := by
  rw [f22_eq]
  unfold guess
  by_cases a1 : c < 128
  · simp only [mk_eq, lp_eq, iv, kv, bv, shr_v, shr_sh, shr_un, shr_ex, shr_nl, shr_tup, shr_agg, List.map_cons, List.map_nil, shrP_v, shrP_sh, nrm_v, nrm_lst, x_ext0, x_ext1, x_ext2, ob_sm, asB_b, gcB_nil, x_lss, x_leq, x_gtr, x_geq, x_eql, x_neq, x_add, x_sub, x_mul, x_not, x_seql, x_sneq, decide_true, decide_false, br_t, br_f, a1, if_true]
    rfl
  · by_cases a2 : 192 ≤ c
    · by_cases a3 : c < 224
      · simp only [mk_eq, lp_eq, iv, kv, bv, shr_v, shr_sh, shr_un, shr_ex, shr_nl, shr_tup, shr_agg, List.map_cons, List.map_nil, shrP_v, shrP_sh, nrm_v, nrm_lst, x_ext0, x_ext1, x_ext2, ob_sm, asB_b, gcB_nil, x_lss, x_leq, x_gtr, x_geq, x_eql, x_neq, x_add, x_sub, x_mul, x_not, x_seql, x_sneq, decide_true, decide_false, br_t, br_f, a1, a2, a3, f22_r4_eq, if_true, if_false, and_self]
        rw [wrap_i64 (by omega) (by omega)]
        rfl
      · by_cases a4 : c < 240
        · have a5 : 224 ≤ c := by omega
          simp only [mk_eq, lp_eq, iv, kv, bv, shr_v, shr_sh, shr_un, shr_ex, shr_nl, shr_tup, shr_agg, List.map_cons, List.map_nil, shrP_v, shrP_sh, nrm_v, nrm_lst, x_ext0, x_ext1, x_ext2, ob_sm, asB_b, gcB_nil, x_lss, x_leq, x_gtr, x_geq, x_eql, x_neq, x_add, x_sub, x_mul, x_not, x_seql, x_sneq, decide_true, decide_false, br_t, br_f, a1, a2, a3, a4, a5, f22_r5_eq, f22_r6_eq, if_true, if_false, and_self, and_false]
          rw [wrap_i64 (by omega) (by omega)]
          rfl
        · have a5 : 224 ≤ c := by omega
          have a6 : 240 ≤ c := by omega
          by_cases a7 : c < 248
          · simp only [mk_eq, lp_eq, iv, kv, bv, shr_v, shr_sh, shr_un, shr_ex, shr_nl, shr_tup, shr_agg, List.map_cons, List.map_nil, shrP_v, shrP_sh, nrm_v, nrm_lst, x_ext0, x_ext1, x_ext2, ob_sm, asB_b, gcB_nil, x_lss, x_leq, x_gtr, x_geq, x_eql, x_neq, x_add, x_sub, x_mul, x_not, x_seql, x_sneq, decide_true, decide_false, br_t, br_f, a1, a2, a3, a4, a5, a6, a7, f22_r5_eq, f22_r7_eq, f22_r8_eq, if_true, if_false, and_self, and_false]
            rw [wrap_i64 (by omega) (by omega)]
            rfl
          · simp only [mk_eq, lp_eq, iv, kv, bv, shr_v, shr_sh, shr_un, shr_ex, shr_nl, shr_tup, shr_agg, List.map_cons, List.map_nil, shrP_v, shrP_sh, nrm_v, nrm_lst, x_ext0, x_ext1, x_ext2, ob_sm, asB_b, gcB_nil, x_lss, x_leq, x_gtr, x_geq, x_eql, x_neq, x_add, x_sub, x_mul, x_not, x_seql, x_sneq, decide_true, decide_false, br_t, br_f, a1, a2, a3, a4, a5, a6, a7, f22_r5_eq, f22_r7_eq, f22_r9_eq, if_true, if_false, and_self, and_false]
            rfl
    · have a5 : ¬ 224 ≤ c := by omega
      have a6 : ¬ 240 ≤ c := by omega
      simp only [mk_eq, lp_eq, iv, kv, bv, shr_v, shr_sh, shr_un, shr_ex, shr_nl, shr_tup, shr_agg, List.map_cons, List.map_nil, shrP_v, shrP_sh, nrm_v, nrm_lst, x_ext0, x_ext1, x_ext2, ob_sm, asB_b, gcB_nil, x_lss, x_leq, x_gtr, x_geq, x_eql, x_neq, x_add, x_sub, x_mul, x_not, x_seql, x_sneq, decide_true, decide_false, br_t, br_f, a1, a2, a5, a6, f22_r5_eq, f22_r7_eq, f22_r9_eq, if_true, if_false, false_and]
      rfl

/-- Is a number a character? -/
def isChar (n : Int) : Bool := decide (0 ≤ n ∧ n ≤ 1114111 ∧ (n < 55296 ∨ 57343 < n))

theorem char_val (n : Int) : EE 15 [.p (.v (.int .i64 n))] [] = some (.p (.v (.bool (isChar n))), []) := by
  rw [f15_eq]
  unfold isChar
  by_cases a1 : 0 ≤ n
  · by_cases a2 : n ≤ 1114111
    · by_cases a3 : n < 55296
      · simp only [mk_eq, lp_eq, iv, kv, bv, shr_v, shr_sh, shr_un, shr_ex, shr_nl, shr_tup, shr_agg, List.map_cons, List.map_nil, shrP_v, shrP_sh, nrm_v, nrm_lst, x_ext0, x_ext1, x_ext2, ob_sm, asB_b, gcB_nil, x_lss, x_leq, x_gtr, x_geq, x_eql, x_neq, x_add, x_sub, x_mul, x_not, x_seql, x_sneq, decide_true, decide_false, br_t, br_f, a1, a2, a3, true_and, true_or]
        rfl
      · by_cases a4 : 57343 < n
        · simp only [mk_eq, lp_eq, iv, kv, bv, shr_v, shr_sh, shr_un, shr_ex, shr_nl, shr_tup, shr_agg, List.map_cons, List.map_nil, shrP_v, shrP_sh, nrm_v, nrm_lst, x_ext0, x_ext1, x_ext2, ob_sm, asB_b, gcB_nil, x_lss, x_leq, x_gtr, x_geq, x_eql, x_neq, x_add, x_sub, x_mul, x_not, x_seql, x_sneq, decide_true, decide_false, br_t, br_f, a1, a2, a3, a4, true_and, or_true]
          rfl
        · simp only [mk_eq, lp_eq, iv, kv, bv, shr_v, shr_sh, shr_un, shr_ex, shr_nl, shr_tup, shr_agg, List.map_cons, List.map_nil, shrP_v, shrP_sh, nrm_v, nrm_lst, x_ext0, x_ext1, x_ext2, ob_sm, asB_b, gcB_nil, x_lss, x_leq, x_gtr, x_geq, x_eql, x_neq, x_add, x_sub, x_mul, x_not, x_seql, x_sneq, decide_true, decide_false, br_t, br_f, a1, a2, a3, a4, true_and, or_self]
          rfl
    · simp only [mk_eq, lp_eq, iv, kv, bv, shr_v, shr_sh, shr_un, shr_ex, shr_nl, shr_tup, shr_agg, List.map_cons, List.map_nil, shrP_v, shrP_sh, nrm_v, nrm_lst, x_ext0, x_ext1, x_ext2, ob_sm, asB_b, gcB_nil, x_lss, x_leq, x_gtr, x_geq, x_eql, x_neq, x_add, x_sub, x_mul, x_not, x_seql, x_sneq, decide_true, decide_false, br_t, br_f, a1, a2, true_and, false_and]
      rfl
  · simp only [mk_eq, lp_eq, iv, kv, bv, shr_v, shr_sh, shr_un, shr_ex, shr_nl, shr_tup, shr_agg, List.map_cons, List.map_nil, shrP_v, shrP_sh, nrm_v, nrm_lst, x_ext0, x_ext1, x_ext2, ob_sm, asB_b, gcB_nil, x_lss, x_leq, x_gtr, x_geq, x_eql, x_neq, x_add, x_sub, x_mul, x_not, x_seql, x_sneq, decide_true, decide_false, br_t, br_f, a1, false_and]
    rfl
end N2
end Go.Proofs.YtbecmoihajlobaaDoor
end

section
set_option linter.unusedSimpArgs false
set_option linter.unusedVariables false
/- A character's bytes; the reference's Next. -/
namespace Go.Proofs.YtbecmoihajlobaaDoor
open Go Go.Abs Go.RowKit

/-- A character's bytes. -/
def encB (n : Nat) : List UInt8 :=
  if n < 128 then [UInt8.ofNat n]
  else if n < 2048 then [UInt8.ofNat (192 + n / 64), UInt8.ofNat (128 + n % 64)]
  else if n < 65536 then [UInt8.ofNat (224 + n / 4096), UInt8.ofNat (128 + n / 64 % 64), UInt8.ofNat (128 + n % 64)]
  else [UInt8.ofNat (240 + n / 262144), UInt8.ofNat (128 + n / 4096 % 64), UInt8.ofNat (128 + n / 64 % 64), UInt8.ofNat (128 + n % 64)]

theorem u8_toNat {n : Nat} (h : n < 256) : (UInt8.ofNat n).toNat = n := by simp; omega

theorem tdiv_nat (n k : Nat) : ((n : Int)).tdiv (k : Int) = ((n / k : Nat) : Int) := rfl
theorem tmod_nat (n k : Nat) : ((n : Int)).tmod (k : Int) = ((n % k : Nat) : Int) := rfl

theorem lit1 (a : Int) : xlit N2.PP 22 1 [(0, .p (.v (.int .u8 a)))] = some (.p (.lst .ex [.v (.int .u8 a)])) := by kernel_rfl
theorem lit2 (a b : Int) : xlit N2.PP 22 2 [(0, .p (.v (.int .u8 a))), (1, .p (.v (.int .u8 b)))] = some (.p (.lst .ex [.v (.int .u8 a), .v (.int .u8 b)])) := by kernel_rfl
theorem lit3 (a b c : Int) : xlit N2.PP 22 3 [(0, .p (.v (.int .u8 a))), (1, .p (.v (.int .u8 b))), (2, .p (.v (.int .u8 c)))] = some (.p (.lst .ex [.v (.int .u8 a), .v (.int .u8 b), .v (.int .u8 c)])) := by kernel_rfl
theorem lit4 (a b c d : Int) : xlit N2.PP 22 4 [(0, .p (.v (.int .u8 a))), (1, .p (.v (.int .u8 b))), (2, .p (.v (.int .u8 c))), (3, .p (.v (.int .u8 d)))] =
    some (.p (.lst .ex [.v (.int .u8 a), .v (.int .u8 b), .v (.int .u8 c), .v (.int .u8 d)])) := by kernel_rfl

namespace N2
theorem c8 (a : Int) (h0 : 0 ≤ a) (h1 : a < 256) : xcnv PP 3 5 (.p (.v (.int .i64 a))) = some (.p (.v (.int .u8 a))) := by
  rw [x_cnv Tryd.underlying3 Tryd.underlying5, wrap_u8 h0 h1]
theorem q64 (n k : Nat) (hk : k ≠ 0) (hn : n < 9223372036854775808) : xbin PP .quo 3 (.p (.v (.int .i64 n))) (.p (.v (.int .i64 k))) = some (.p (.v (.int .i64 ((n / k : Nat) : Int)))) := by
  have h1 := Nat.div_le_self n k
  rw [x_quo (by omega), tdiv_nat]
  generalize n / k = q at *
  rw [wrap_i64 (by omega) (by omega)]
theorem r64 (n k : Nat) (hk : k ≠ 0) : xbin PP .rem 3 (.p (.v (.int .i64 n))) (.p (.v (.int .i64 k))) = some (.p (.v (.int .i64 ((n % k : Nat) : Int)))) := by
  rw [x_rem (by omega), tmod_nat]
theorem a64 (a b : Int) (h0 : 0 ≤ a + b) (h1 : a + b < 9223372036854775808) : xbin PP .add 3 (.p (.v (.int .i64 a))) (.p (.v (.int .i64 b))) = some (.p (.v (.int .i64 (a + b)))) := by
  rw [x_add, wrap_i64 (by omega) (by omega)]

theorem bytes_val {n : Nat} (h : n ≤ 1114111) : EE 16 [.p (.v (.int .i64 n))] [] = some (.p (.lst .sh (bl (encB n))), []) := by
  have e64 : (64 : Int) = ((64 : Nat) : Int) := rfl
  have e4k : (4096 : Int) = ((4096 : Nat) : Int) := rfl
  have e2m : (262144 : Int) = ((262144 : Nat) : Int) := rfl
  rw [f16_eq]
  unfold encB
  by_cases h1 : n < 128
  · have i1 : (n : Int) < 128 := by omega
    simp only [mk_eq, iv, shr_v, ob_sm, asB_b, x_lss, i1, decide_true, br_t, c8 _ (show (0 : Int) ≤ n by omega) (by omega), lit1, shr_ex, if_pos h1]
    simp only [bl, List.map_cons, List.map_nil, u8_toNat (show n < 256 by omega)]
    rfl
  · have i1 : ¬ (n : Int) < 128 := by omega
    by_cases h2 : n < 2048
    · have i2 : (n : Int) < 2048 := by omega
      simp only [mk_eq, iv, shr_v, ob_sm, asB_b, gcB_nil, x_lss, i1, i2, decide_true, decide_false, br_t, br_f, f16_r3_eq]
      rw [e64, q64 n 64 (by omega) (by omega), ob_sm, a64 _ _ (by omega) (by omega), ob_sm, c8 _ (by omega) (by omega), ob_sm, r64 n 64 (by omega), ob_sm, a64 _ _ (by omega) (by omega), ob_sm, c8 _ (by omega) (by omega), ob_sm, lit2, ob_sm, if_neg h1, if_pos h2]
      simp only [bl, List.map_cons, List.map_nil, u8_toNat (show 192 + n / 64 < 256 by omega), u8_toNat (show 128 + n % 64 < 256 by omega)]
      rfl
    · have i2 : ¬ (n : Int) < 2048 := by omega
      by_cases h3 : n < 65536
      · have i3 : (n : Int) < 65536 := by omega
        simp only [mk_eq, iv, shr_v, ob_sm, asB_b, gcB_nil, x_lss, i1, i2, i3, decide_true, decide_false, br_t, br_f, f16_r3_eq, f16_r5_eq]
        rw [e64, e4k, q64 n 4096 (by omega) (by omega), ob_sm, a64 _ _ (by omega) (by omega), ob_sm, c8 _ (by omega) (by omega), ob_sm, q64 n 64 (by omega) (by omega), ob_sm, r64 (n / 64) 64 (by omega), ob_sm, a64 _ _ (by omega) (by omega), ob_sm, c8 _ (by omega) (by omega), ob_sm,
          r64 n 64 (by omega), ob_sm, a64 _ _ (by omega) (by omega), ob_sm, c8 _ (by omega) (by omega), ob_sm, lit3, ob_sm, if_neg h1, if_neg h2, if_pos h3]
        simp only [bl, List.map_cons, List.map_nil, u8_toNat (show 224 + n / 4096 < 256 by omega), u8_toNat (show 128 + n / 64 % 64 < 256 by omega), u8_toNat (show 128 + n % 64 < 256 by omega)]
        rfl
      · have i3 : ¬ (n : Int) < 65536 := by omega
        simp only [mk_eq, iv, shr_v, ob_sm, asB_b, gcB_nil, x_lss, i1, i2, i3, decide_true, decide_false, br_t, br_f, f16_r3_eq, f16_r5_eq, f16_r7_eq]
        rw [e64, e4k, e2m, q64 n 262144 (by omega) (by omega), ob_sm, a64 _ _ (by omega) (by omega), ob_sm, c8 _ (by omega) (by omega), ob_sm, q64 n 4096 (by omega) (by omega), ob_sm, r64 (n / 4096) 64 (by omega), ob_sm, a64 _ _ (by omega) (by omega), ob_sm, c8 _ (by omega) (by omega), ob_sm,
          q64 n 64 (by omega) (by omega), ob_sm, r64 (n / 64) 64 (by omega), ob_sm, a64 _ _ (by omega) (by omega), ob_sm, c8 _ (by omega) (by omega), ob_sm,
          r64 n 64 (by omega), ob_sm, a64 _ _ (by omega) (by omega), ob_sm, c8 _ (by omega) (by omega), ob_sm, lit4, ob_sm, if_neg h1, if_neg h2, if_neg h3]
        simp only [bl, List.map_cons, List.map_nil, u8_toNat (show 240 + n / 262144 < 256 by omega), u8_toNat (show 128 + n / 4096 % 64 < 256 by omega), u8_toNat (show 128 + n / 64 % 64 < 256 by omega), u8_toNat (show 128 + n % 64 < 256 by omega)]
        rfl

end N2
end Go.Proofs.YtbecmoihajlobaaDoor
end

section
set_option linter.unusedSimpArgs false
set_option linter.unusedVariables false
/- The document's unit at a place is what the decoder tells: plain arithmetic. -/
namespace Go.Proofs.YtbecmoihajlobaaDoor
open Go Go.Abs Go.RowKit

theorem u8_ext {x : UInt8} {n : Nat} (h : n < 256) : UInt8.ofNat n = x ↔ n = x.toNat := by
  constructor
  · rintro rfl
    rw [u8_toNat h]
  · intro e
    apply UInt8.toNat_inj.1
    rw [u8_toNat h, e]

theorem enc_len1 {m : Nat} {x0 : UInt8} (hm : m ≤ 1114111) : encB m = [x0] ↔ m < 128 ∧ m = x0.toNat := by
  unfold encB
  split
  · rename_i h
    simp only [List.cons.injEq, and_true, u8_ext (show m < 256 by omega)]
    exact ⟨fun e => ⟨h, e⟩, fun e => e.2⟩
  · split
    · simp; omega
    · split <;> (simp; omega)

theorem enc_len2 {m : Nat} {x0 x1 : UInt8} (hm : m ≤ 1114111) : encB m = [x0, x1] ↔ 128 ≤ m ∧ m < 2048 ∧ 192 + m / 64 = x0.toNat ∧ 128 + m % 64 = x1.toNat := by
  unfold encB
  split
  · simp; omega
  · rename_i h1
    split
    · rename_i h2
      simp only [List.cons.injEq, and_true, u8_ext (show 192 + m / 64 < 256 by omega), u8_ext (show 128 + m % 64 < 256 by omega)]
      exact ⟨fun e => ⟨by omega, h2, e.1, e.2⟩, fun e => ⟨e.2.2.1, e.2.2.2⟩⟩
    · split <;> (simp; omega)

theorem enc_len3 {m : Nat} {x0 x1 x2 : UInt8} (hm : m ≤ 1114111) : encB m = [x0, x1, x2] ↔ 2048 ≤ m ∧ m < 65536 ∧ 224 + m / 4096 = x0.toNat ∧ 128 + m / 64 % 64 = x1.toNat ∧ 128 + m % 64 = x2.toNat := by
  unfold encB
  split
  · simp; omega
  · rename_i h1
    split
    · simp; omega
    · rename_i h2
      split
      · rename_i h3
        simp only [List.cons.injEq, and_true, u8_ext (show 224 + m / 4096 < 256 by omega), u8_ext (show 128 + m / 64 % 64 < 256 by omega), u8_ext (show 128 + m % 64 < 256 by omega)]
        exact ⟨fun e => ⟨by omega, h3, e.1, e.2.1, e.2.2⟩, fun e => ⟨e.2.2.1, e.2.2.2.1, e.2.2.2.2⟩⟩
      · simp; omega

theorem enc_len4 {m : Nat} {x0 x1 x2 x3 : UInt8} (hm : m ≤ 1114111) : encB m = [x0, x1, x2, x3] ↔ 65536 ≤ m ∧ 240 + m / 262144 = x0.toNat ∧ 128 + m / 4096 % 64 = x1.toNat ∧ 128 + m / 64 % 64 = x2.toNat ∧ 128 + m % 64 = x3.toNat := by
  unfold encB
  split
  · simp; omega
  · rename_i h1
    split
    · simp; omega
    · rename_i h2
      split
      · simp; omega
      · rename_i h3
        simp only [List.cons.injEq, and_true, u8_ext (show 240 + m / 262144 < 256 by omega), u8_ext (show 128 + m / 4096 % 64 < 256 by omega), u8_ext (show 128 + m / 64 % 64 < 256 by omega), u8_ext (show 128 + m % 64 < 256 by omega)]
        exact ⟨fun e => ⟨by omega, e.1, e.2.1, e.2.2.1, e.2.2.2⟩, fun e => ⟨e.2.1, e.2.2.1, e.2.2.2.1, e.2.2.2.2⟩⟩

theorem get_bangD (l : List UInt8) (j : Nat) : (⟨l.toArray⟩ : ByteArray).get! j = l.getD j 0 := by
  by_cases h : j < l.length
  · rw [get_bang (x := l[j]) (by simp [h])]
    simp [h]
  · show l.toArray[j]! = _
    rw [getElem!_neg l.toArray j (by simpa using h)]
    rw [List.getD_eq_getElem?_getD, List.getElem?_eq_none (by omega)]
    rfl

/-- The decoder, over numbers: how many bytes there are, and the first four. -/
def dec (n a b c d : Nat) : Nat × Nat :=
  if a < 128 then (a, 1)
  else if a / 32 = 6 ∧ 1 < n ∧ b / 64 = 2 then (if (a % 32) * 64 + b % 64 ≥ 128 then ((a % 32) * 64 + b % 64, 2) else (65533, 1))
  else if a / 16 = 14 ∧ (1 < n ∧ b / 64 = 2) ∧ 2 < n ∧ c / 64 = 2 then
    (if (a % 16) * 4096 + (b % 64) * 64 + c % 64 ≥ 2048 ∧ Utf8.valid (((a % 16) * 4096 + (b % 64) * 64 + c % 64 : Nat) : Int) = true then ((a % 16) * 4096 + (b % 64) * 64 + c % 64, 3) else (65533, 1))
  else if a / 8 = 30 ∧ (1 < n ∧ b / 64 = 2) ∧ (2 < n ∧ c / 64 = 2) ∧ 3 < n ∧ d / 64 = 2 then
    (if (a % 8) * 262144 + (b % 64) * 4096 + (c % 64) * 64 + d % 64 ≥ 65536 ∧ Utf8.valid (((a % 8) * 262144 + (b % 64) * 4096 + (c % 64) * 64 + d % 64 : Nat) : Int) = true then ((a % 8) * 262144 + (b % 64) * 4096 + (c % 64) * 64 + d % 64, 4) else (65533, 1))
  else (65533, 1)

theorem dec_eq {l : List UInt8} (h : l ≠ []) : Lib.decodeGo ⟨l.toArray⟩ = dec l.length (l.getD 0 0).toNat (l.getD 1 0).toNat (l.getD 2 0).toNat (l.getD 3 0).toNat := by
  have hs : (⟨l.toArray⟩ : ByteArray).size ≠ 0 := by
    rw [size_mk]
    exact fun e => h (List.length_eq_zero_iff.1 e)
  unfold Lib.decodeGo
  rw [if_neg hs]
  unfold Utf8.decode dec Utf8.runeError
  simp only [get_bangD, size_mk, Nat.zero_add, Nat.add_zero, Bool.and_eq_true, decide_eq_true_eq, beq_iff_eq, ge_iff_le, and_assoc]

abbrev isC (n : Int) : Prop := 0 ≤ n ∧ n ≤ 1114111 ∧ (n < 55296 ∨ 57343 < n)

/-- The reference's, over numbers. -/
def ref (n a b c d : Nat) : Int × Nat :=
  if a < 128 then (a, 1)
  else if 192 ≤ a ∧ a < 224 ∧ 1 < n then
    (let m : Int := ((a : Int) - 192) * 64 + b - 128
     if isC m ∧ 128 ≤ m.toNat ∧ m.toNat < 2048 ∧ 192 + m.toNat / 64 = a ∧ 128 + m.toNat % 64 = b then (m, 2) else (1114112 + (a : Int), 1))
  else if 224 ≤ a ∧ a < 240 ∧ 2 < n then
    (let m : Int := (((a : Int) - 224) * 64 + b - 128) * 64 + c - 128
     if isC m ∧ 2048 ≤ m.toNat ∧ m.toNat < 65536 ∧ 224 + m.toNat / 4096 = a ∧ 128 + m.toNat / 64 % 64 = b ∧ 128 + m.toNat % 64 = c then (m, 3) else (1114112 + (a : Int), 1))
  else if 240 ≤ a ∧ a < 248 ∧ 3 < n then
    (let m : Int := ((((a : Int) - 240) * 64 + b - 128) * 64 + c - 128) * 64 + d - 128
     if isC m ∧ 65536 ≤ m.toNat ∧ 240 + m.toNat / 262144 = a ∧ 128 + m.toNat / 4096 % 64 = b ∧ 128 + m.toNat / 64 % 64 = c ∧ 128 + m.toNat % 64 = d then (m, 4) else (1114112 + (a : Int), 1))
  else (1114112 + (a : Int), 1)

theorem valid_iff (n : Nat) : Utf8.valid (n : Int) = true ↔ n < 55296 ∨ (57344 ≤ n ∧ n ≤ 1114111) := by
  unfold Utf8.valid
  simp
  omega

/-- What is no decoded character is a stray. -/
def strayed (a : Nat) (r : Nat × Nat) : Int × Nat := if r.1 = 65533 ∧ r.2 = 1 then (1114112 + (a : Int), 1) else ((r.1 : Int), r.2)

theorem strayed_bad (a : Nat) : strayed a (65533, 1) = (1114112 + (a : Int), 1) := by simp [strayed]
theorem strayed_good {a m k : Nat} (h : k ≠ 1 ∨ m ≠ 65533) : strayed a (m, k) = ((m : Int), k) := by
  unfold strayed
  rw [if_neg]
  rintro ⟨h1, h2⟩
  rcases h with h | h
  · exact h h2
  · exact h h1

theorem ref_dec (n a b c d : Nat) (ha : a < 256) (hb : b < 256) (hc : c < 256) (hd : d < 256) : ref n a b c d = strayed a (dec n a b c d) := by
  have bad : ref n a b c d = (1114112 + (a : Int), 1) → dec n a b c d = (65533, 1) → ref n a b c d = strayed a (dec n a b c d) := fun h k => by rw [h, k, strayed_bad]
  have good : ∀ m k : Nat, ref n a b c d = ((m : Int), k) → dec n a b c d = (m, k) → (k ≠ 1 ∨ m ≠ 65533) → ref n a b c d = strayed a (dec n a b c d) := fun m k h h' hk => by rw [h, h', strayed_good hk]
  by_cases h0 : a < 128
  · refine good a 1 (by unfold ref; rw [if_pos h0]) (by unfold dec; rw [if_pos h0]) (.inr (by omega))
  · by_cases h1 : 192 ≤ a ∧ a < 224
    · have g1 : a / 32 = 6 := by omega
      have g2 : ¬ (a / 16 = 14) := by omega
      have g3 : ¬ (a / 8 = 30) := by omega
      by_cases hn : 1 < n
      · have er : ref n a b c d = ref n a b c d := rfl
        conv at er => rhs; unfold ref; rw [if_neg h0, if_pos ⟨h1.1, h1.2, hn⟩]
        by_cases hb2 : b / 64 = 2
        · have ed : dec n a b c d = dec n a b c d := rfl
          conv at ed => rhs; unfold dec; rw [if_neg h0, if_pos ⟨g1, hn, hb2⟩]
          have em : ((a : Int) - 192) * 64 + b - 128 = (((a % 32) * 64 + b % 64 : Nat) : Int) := by omega
          simp only [em] at er
          by_cases h128 : (a % 32) * 64 + b % 64 ≥ 128
          · rw [if_pos h128] at ed
            refine good _ _ (er.trans (if_pos ?_)) ed (.inl (by omega))
            unfold isC
            omega
          · rw [if_neg h128] at ed
            refine bad (er.trans (if_neg ?_)) ed
            unfold isC
            omega
        · refine bad (er.trans (if_neg ?_)) (by unfold dec; rw [if_neg h0, if_neg (fun h => hb2 h.2.2), if_neg (fun h => g2 h.1), if_neg (fun h => g3 h.1)])
          unfold isC
          omega
      · refine bad (by unfold ref; rw [if_neg h0, if_neg (fun h => hn h.2.2), if_neg (by omega), if_neg (by omega)]) (by unfold dec; rw [if_neg h0, if_neg (fun h => hn h.2.1), if_neg (fun h => g2 h.1), if_neg (fun h => g3 h.1)])
    · have n1 : ¬ (a / 32 = 6 ∧ 1 < n ∧ b / 64 = 2) := by omega
      have m1 : ¬ (192 ≤ a ∧ a < 224 ∧ 1 < n) := fun h => h1 ⟨h.1, h.2.1⟩
      by_cases h2 : 224 ≤ a ∧ a < 240
      · have g2 : a / 16 = 14 := by omega
        have g3 : ¬ (a / 8 = 30) := by omega
        by_cases hn : 2 < n
        · have er : ref n a b c d = ref n a b c d := rfl
          conv at er => rhs; unfold ref; rw [if_neg h0, if_neg m1, if_pos ⟨h2.1, h2.2, hn⟩]
          by_cases hb2 : b / 64 = 2 ∧ c / 64 = 2
          · have ed : dec n a b c d = dec n a b c d := rfl
            conv at ed => rhs; unfold dec; rw [if_neg h0, if_neg n1, if_pos ⟨g2, ⟨by omega, hb2.1⟩, hn, hb2.2⟩]
            have em : (((a : Int) - 224) * 64 + b - 128) * 64 + c - 128 = (((a % 16) * 4096 + (b % 64) * 64 + c % 64 : Nat) : Int) := by omega
            simp only [em] at er
            simp only [valid_iff] at ed
            by_cases hg : (a % 16) * 4096 + (b % 64) * 64 + c % 64 ≥ 2048 ∧ ((a % 16) * 4096 + (b % 64) * 64 + c % 64 < 55296 ∨ 57344 ≤ (a % 16) * 4096 + (b % 64) * 64 + c % 64 ∧ (a % 16) * 4096 + (b % 64) * 64 + c % 64 ≤ 1114111)
            · rw [if_pos hg] at ed
              refine good _ _ (er.trans (if_pos ?_)) ed (.inl (by omega))
              unfold isC
              omega
            · rw [if_neg hg] at ed
              refine bad (er.trans (if_neg ?_)) ed
              unfold isC
              omega
          · refine bad (er.trans (if_neg ?_)) (by unfold dec; rw [if_neg h0, if_neg n1, if_neg (fun h => hb2 ⟨h.2.1.2, h.2.2.2⟩), if_neg (fun h => g3 h.1)])
            unfold isC
            omega
        · refine bad (by unfold ref; rw [if_neg h0, if_neg m1, if_neg (fun h => hn h.2.2), if_neg (by omega)]) (by unfold dec; rw [if_neg h0, if_neg n1, if_neg (fun h => hn h.2.2.1), if_neg (fun h => g3 h.1)])
      · have n2 : ¬ (a / 16 = 14 ∧ (1 < n ∧ b / 64 = 2) ∧ 2 < n ∧ c / 64 = 2) := by omega
        have m2 : ¬ (224 ≤ a ∧ a < 240 ∧ 2 < n) := fun h => h2 ⟨h.1, h.2.1⟩
        by_cases h3 : 240 ≤ a ∧ a < 248
        · have g3 : a / 8 = 30 := by omega
          by_cases hn : 3 < n
          · have er : ref n a b c d = ref n a b c d := rfl
            conv at er => rhs; unfold ref; rw [if_neg h0, if_neg m1, if_neg m2, if_pos ⟨h3.1, h3.2, hn⟩]
            by_cases hb2 : b / 64 = 2 ∧ c / 64 = 2 ∧ d / 64 = 2
            · have ed : dec n a b c d = dec n a b c d := rfl
              conv at ed => rhs; unfold dec; rw [if_neg h0, if_neg n1, if_neg n2, if_pos ⟨g3, ⟨by omega, hb2.1⟩, ⟨by omega, hb2.2.1⟩, hn, hb2.2.2⟩]
              have em : ((((a : Int) - 240) * 64 + b - 128) * 64 + c - 128) * 64 + d - 128 = (((a % 8) * 262144 + (b % 64) * 4096 + (c % 64) * 64 + d % 64 : Nat) : Int) := by omega
              simp only [em] at er
              simp only [valid_iff] at ed
              by_cases hg : (a % 8) * 262144 + (b % 64) * 4096 + (c % 64) * 64 + d % 64 ≥ 65536 ∧ ((a % 8) * 262144 + (b % 64) * 4096 + (c % 64) * 64 + d % 64 < 55296 ∨ 57344 ≤ (a % 8) * 262144 + (b % 64) * 4096 + (c % 64) * 64 + d % 64 ∧ (a % 8) * 262144 + (b % 64) * 4096 + (c % 64) * 64 + d % 64 ≤ 1114111)
              · rw [if_pos hg] at ed
                refine good _ _ (er.trans (if_pos ?_)) ed (.inl (by omega))
                unfold isC
                omega
              · rw [if_neg hg] at ed
                refine bad (er.trans (if_neg ?_)) ed
                unfold isC
                omega
            · refine bad (er.trans (if_neg ?_)) (by unfold dec; rw [if_neg h0, if_neg n1, if_neg n2, if_neg (fun h => hb2 ⟨h.2.1.2, h.2.2.1.2, h.2.2.2.2⟩)])
              unfold isC
              omega
          · refine bad (by unfold ref; rw [if_neg h0, if_neg m1, if_neg m2, if_neg (fun h => hn h.2.2)]) (by unfold dec; rw [if_neg h0, if_neg n1, if_neg n2, if_neg (fun h => hn h.2.2.2.1)])
        · refine bad (by unfold ref; rw [if_neg h0, if_neg m1, if_neg m2, if_neg (fun h => h3 ⟨h.1, h.2.1⟩)]) (by unfold dec; rw [if_neg h0, if_neg n1, if_neg n2, if_neg (by omega)])

/-- The bytes from a place on, as numbers. -/
def nth (s : List UInt8) (j : Nat) : Nat := (s.getD j 0).toNat
theorem nth_lt (s : List UInt8) (j : Nat) : nth s j < 256 := (s.getD j 0).toNat_lt

theorem unitAt_ref {l : List UInt8} {i : Nat} (h : i < l.length) : unitAt l i = ref (l.length - i) (nth l i) (nth l (i + 1)) (nth l (i + 2)) (nth l (i + 3)) := by
  have hne : l.drop i ≠ [] := by
    intro e
    have := congrArg List.length e
    simp at this
    omega
  have hg : ∀ j, (l.drop i).getD j 0 = l.getD (i + j) 0 := by
    intro j
    rw [List.getD_eq_getElem?_getD, List.getElem?_drop, ← List.getD_eq_getElem?_getD]
  rw [ref_dec _ _ _ _ _ (nth_lt _ _) (nth_lt _ _) (nth_lt _ _) (nth_lt _ _)]
  unfold unitAt strayed
  rw [dec_eq hne]
  simp only [hg, List.length_drop, Nat.add_zero]
  rfl

end Go.Proofs.YtbecmoihajlobaaDoor
end

section
set_option linter.unusedSimpArgs false
set_option linter.unusedVariables false
/- The reference's Next and Split; the anchor. -/
namespace Go.Proofs.YtbecmoihajlobaaDoor
open Go Go.Abs Go.RowKit

theorem xsl_mid {l : List UInt8} {o : Abs.Own} {i j : Nat} {k k' : IntKind} (h : i ≤ j) (h' : j ≤ l.length) (ho : o ≠ .nl := by simp) :
    xsl 1 (.p (.lst o (bl l))) (some (.p (.v (.int k i)))) (some (.p (.v (.int k' j)))) none = some (.p (.lst .sh (bl ((l.take j).drop i)))) := by
  have hc : (0 : Int) ≤ i ∧ (i : Int) ≤ j ∧ (j : Int) ≤ (bl l).length ∧ szOk 1 (bl l) = true ∧ 0 < 1 := ⟨by omega, by omega, by rw [bl_len]; omega, szOk_one (fun _ => rfl) l, by omega⟩
  unfold xsl
  simp only [optI, ob_sm]
  rw [if_pos hc]
  have e : ((bl l).take (j : Int).toNat).drop (i : Int).toNat = bl ((l.take j).drop i) := by simp [bl]
  cases o with
  | nl => exact absurd rfl ho
  | _ => simp only [e]

theorem bytesOf_bl : ∀ (l : List UInt8), bytesOf (bl l) = some l
  | [] => rfl
  | b :: l => by
    show bytesOf (.v (.int .u8 b.toNat) :: bl l) = _
    rw [bytesOf, bytesOf_bl l]
    show some (UInt8.ofNat (b.toNat : Int).toNat :: l) = _
    rw [Int.toNat_natCast, UInt8.ofNat_toNat]

theorem str_bl (l : List UInt8) (o : Abs.Own) : xcnv N2.PP 22 9 (.p (.lst o (bl l))) = some (.p (.v (.string ⟨l.toArray⟩))) := by
  unfold xcnv
  have h1 : (isStr N2.PP 9 && isSliceOf N2.PP 22 .u8) = true := by kernel_rfl
  rw [if_pos h1]
  unfold xstr
  simp only [bytesOf_bl, Option.map_some]

theorem str_eq (a b : List UInt8) : ((⟨a.toArray⟩ : ByteArray).toList == (⟨b.toArray⟩ : ByteArray).toList) = decide (a = b) := by
  rw [Lib.toList_data, Lib.toList_data]
  simp only [List.toList_toArray]
  by_cases e : a = b
  · simp [e]
  · simp [e]

namespace N2
theorem nth_get {l : List UInt8} {i : Nat} (h : i < l.length) : l[i].toNat = nth l i := by simp [nth, h]

theorem idx8 {l : List UInt8} {i : Nat} (h : i < l.length) : xidx 1 (.p (.lst .sh (bl l))) (.p (.v (.int .i64 i))) = some (.cptr [.v (.int .u8 (nth l i))]) := by
  rw [xidx_bl h, nth_get h]

theorem w8 (a : Nat) (h : a < 256) : xcnv PP 5 3 (.p (.v (.int .u8 a))) = some (.p (.v (.int .i64 a))) := by
  rw [x_cnv Tryd.underlying5 Tryd.underlying3, wrap_i64 (by omega) (by omega)]

/-- Two numbers. -/
def tw (a b : Int) : Option Res := some (.p (.tup [.v (.int .i64 a), .v (.int .i64 b)]), [])

theorem r9_val {l : List UInt8} {i : Nat} (h : i < l.length) (m0 : Nat) : f11_r9 m0 (.p (.lst .sh (bl l))) (.p (.v (.int .i64 i))) [] = tw (1114112 + nth l i) 1 := by
  have hl := nth_lt l i
  rw [f11_r9_eq]
  simp only [mk_eq, lp_eq, iv, kv, bv, shr_v, shr_sh, shr_un, shr_ex, shr_nl, shr_tup, shr_agg, List.map_cons, List.map_nil, shrP_v, shrP_sh, nrm_v, nrm_lst, x_ext0, x_ext1, x_ext2, ob_sm, asB_b, gcB_nil, x_lss, x_leq, x_gtr, x_geq, x_eql, x_neq, x_add, x_sub, x_mul, x_not, x_seql, x_sneq, decide_true, decide_false, br_t, br_f, idx8 h, ldN_one, w8 _ hl]
  rw [wrap_i64 (by omega) (by omega)]
  rfl

theorem callChar (n : Int) : callS false EE 15 [.p (.v (.int .i64 n))] [] = fun k => k (.p (.v (.bool (isChar n)))) [] := callS_f [.v (.int .i64 n)] (char_val n)
theorem callBytes {n : Nat} (h : n ≤ 1114111) : callS false EE 16 [.p (.v (.int .i64 n))] [] = fun k => k (.p (.lst .sh (bl (encB n)))) [] := callS_f [.v (.int .i64 n)] (bytes_val h)
theorem callGuess {c : Int} (h0 : 0 ≤ c) (h1 : c < 256) : callS false EE 22 [.p (.v (.int .i64 c))] [] = fun k => k (.p (.tup [.v (.int .i64 (guess c).1), .v (.int .i64 (guess c).2)])) [] := callS_f [.v (.int .i64 c)] (guess_val h0 h1)

theorem isChar_iff (n : Int) : isChar n = true ↔ isC n := by unfold isChar isC; simp

theorem r7_val {l : List UInt8} {i more : Nat} {n : Int} (hl : l.length ≤ 1099511627776) (h : i + more < l.length) (m0 : Nat) :
    f11_r7 m0 (.p (.lst .sh (bl l))) (.p (.v (.int .i64 i))) (.p (.v (.int .i64 n))) (.p (.v (.int .i64 more))) [] =
      if isC n ∧ encB n.toNat = (l.take (i + more + 1)).drop i then tw n (more + 1) else tw (1114112 + nth l i) 1 := by
  rw [f11_r7_eq]
  simp only [mk_eq, shr_v, iv, callChar, asB_b]
  by_cases hc : isC n
  · obtain ⟨m, rfl⟩ : ∃ m : Nat, n = m := ⟨n.toNat, by unfold isC at hc; omega⟩
    have hm : m ≤ 1114111 := by unfold isC at hc; omega
    rw [(isChar_iff _).2 hc, br_t]
    simp only [callBytes hm]
    rw [str_bl, ob_sm, a64 _ _ (by omega) (by omega), ob_sm, a64 _ _ (by omega) (by omega), ob_sm, show (i : Int) + (more : Int) + 1 = ((i + more + 1 : Nat) : Int) by omega, shr_sh, xsl_mid (by omega) (by omega), ob_sm, str_bl, ob_sm]
    simp only [mk_eq, lp_eq, iv, kv, bv, shr_v, shr_sh, shr_un, shr_ex, shr_nl, shr_tup, shr_agg, List.map_cons, List.map_nil, shrP_v, shrP_sh, nrm_v, nrm_lst, x_ext0, x_ext1, x_ext2, ob_sm, asB_b, gcB_nil, x_lss, x_leq, x_gtr, x_geq, x_eql, x_neq, x_add, x_sub, x_mul, x_not, x_seql, x_sneq, decide_true, decide_false, br_t, br_f, str_eq]
    by_cases he : encB m = (l.take (i + more + 1)).drop i
    · rw [if_pos ⟨hc, by simpa using he⟩]
      simp only [he, mk_eq, lp_eq, iv, kv, bv, shr_v, shr_sh, shr_un, shr_ex, shr_nl, shr_tup, shr_agg, List.map_cons, List.map_nil, shrP_v, shrP_sh, nrm_v, nrm_lst, x_ext0, x_ext1, x_ext2, ob_sm, asB_b, gcB_nil, x_lss, x_leq, x_gtr, x_geq, x_eql, x_neq, x_add, x_sub, x_mul, x_not, x_seql, x_sneq, decide_true, decide_false, br_t, br_f, f11_r8_eq]
      rw [wrap_i64 (by omega) (by omega)]
      rfl
    · rw [if_neg (fun h => he (by simpa using h.2))]
      simp only [he, mk_eq, lp_eq, iv, kv, bv, shr_v, shr_sh, shr_un, shr_ex, shr_nl, shr_tup, shr_agg, List.map_cons, List.map_nil, shrP_v, shrP_sh, nrm_v, nrm_lst, x_ext0, x_ext1, x_ext2, ob_sm, asB_b, gcB_nil, x_lss, x_leq, x_gtr, x_geq, x_eql, x_neq, x_add, x_sub, x_mul, x_not, x_seql, x_sneq, decide_true, decide_false, br_t, br_f]
      exact r9_val (by omega) m0
  · have : isChar n = false := by
      cases hh : isChar n with
      | false => rfl
      | true => exact absurd ((isChar_iff n).1 hh) hc
    rw [this, br_f, if_neg (fun h => hc h.1), gcB_nil]
    exact r9_val (by omega) m0

theorem l4_end {l : List UInt8} {i more j : Nat} {n : Int} (hj : more < j) (m0 : Nat) :
    f11_l4 m0 (.p (.lst .sh (bl l))) (.p (.v (.int .i64 i))) (.p (.v (.int .i64 n))) (.p (.v (.int .i64 more))) (.p (.v (.int .i64 j))) [] =
      f11_r7 m0 (.p (.lst .sh (bl l))) (.p (.v (.int .i64 i))) (.p (.v (.int .i64 n))) (.p (.v (.int .i64 more))) [] := by
  have h : ¬ (j : Int) ≤ more := by omega
  rw [f11_l4_eq]
  simp only [mk_eq, lp_eq, iv, kv, bv, shr_v, shr_sh, shr_un, shr_ex, shr_nl, shr_tup, shr_agg, List.map_cons, List.map_nil, shrP_v, shrP_sh, nrm_v, nrm_lst, x_ext0, x_ext1, x_ext2, ob_sm, asB_b, gcB_nil, x_lss, x_leq, x_gtr, x_geq, x_eql, x_neq, x_add, x_sub, x_mul, x_not, x_seql, x_sneq, decide_true, decide_false, br_t, br_f, h]

theorem l4_step {l : List UInt8} {i more j : Nat} {n : Int} (hl : l.length ≤ 1099511627776) (hj : j ≤ more) (h : i + j < l.length) (hn : -1099511627776 ≤ n ∧ n ≤ 1099511627776) (m0 : Nat) :
    f11_l4 m0 (.p (.lst .sh (bl l))) (.p (.v (.int .i64 i))) (.p (.v (.int .i64 n))) (.p (.v (.int .i64 more))) (.p (.v (.int .i64 j))) [] =
      f11_l4 m0 (.p (.lst .sh (bl l))) (.p (.v (.int .i64 i))) (.p (.v (.int .i64 (n * 64 + nth l (i + j) - 128)))) (.p (.v (.int .i64 more))) (.p (.v (.int .i64 ((j + 1 : Nat) : Int)))) [] := by
  have h1 : (j : Int) ≤ more := by omega
  have hb := nth_lt l (i + j)
  rw [f11_l4_eq]
  simp only [mk_eq, lp_eq, iv, kv, bv, shr_v, shr_sh, shr_un, shr_ex, shr_nl, shr_tup, shr_agg, List.map_cons, List.map_nil, shrP_v, shrP_sh, nrm_v, nrm_lst, x_ext0, x_ext1, x_ext2, ob_sm, asB_b, gcB_nil, x_lss, x_leq, x_gtr, x_geq, x_eql, x_neq, x_add, x_sub, x_mul, x_not, x_seql, x_sneq, decide_true, decide_false, br_t, br_f, h1, f11_r6_eq]
  rw [wrap_i64 (n := n * 64) (by omega) (by omega), wrap_i64 (n := (i : Int) + j) (by omega) (by omega), show (i : Int) + (j : Int) = ((i + j : Nat) : Int) by omega, idx8 h]
  simp only [ob_sm, ldN_one, w8 _ hb]
  simp only [mk_eq, lp_eq, iv, kv, bv, shr_v, shr_sh, shr_un, shr_ex, shr_nl, shr_tup, shr_agg, List.map_cons, List.map_nil, shrP_v, shrP_sh, nrm_v, nrm_lst, x_ext0, x_ext1, x_ext2, ob_sm, asB_b, gcB_nil, x_lss, x_leq, x_gtr, x_geq, x_eql, x_neq, x_add, x_sub, x_mul, x_not, x_seql, x_sneq, decide_true, decide_false, br_t, br_f]
  rw [wrap_i64 (n := n * 64 + _) (by omega) (by omega), wrap_i64 (n := n * 64 + _ - 128) (by omega) (by omega), wrap_i64 (n := (j : Int) + 1) (by omega) (by omega)]
  rfl

theorem take_drop1 {l : List UInt8} {i : Nat} (h : i < l.length) : (l.take (i + 1)).drop i = [l[i]] := by
  rw [List.take_succ_eq_append_getElem h, List.drop_append_of_le_length (by simp; omega), List.drop_of_length_le (by simp; omega)]
  rfl
theorem take_drop_step {l : List UInt8} {i k : Nat} (h : i < l.length) (hk : 1 ≤ k) : (l.take (i + k)).drop i = l[i] :: (l.take (i + k)).drop (i + 1) := by
  have h1 : i < (l.take (i + k)).length := by simp; omega
  rw [List.drop_eq_getElem_cons h1]
  simp

theorem ite_tw {A B : Prop} [Decidable A] [Decidable B] {n s : Int} {k : Nat} (h : A ↔ B) : (if A then tw n k else tw s 1) = tw (if B then (n, k) else (s, 1)).1 ((if B then (n, k) else (s, 1)).2 : Nat) := by
  by_cases a : A
  · rw [if_pos a, if_pos (h.1 a)]
  · rw [if_neg a, if_neg (fun b => a (h.2 b))]
    rfl

theorem next_ref {l : List UInt8} {i : Nat} (hl : l.length ≤ 1099511627776) (h : i < l.length) :
    EE 11 [.p (.lst .sh (bl l)), .p (.v (.int .i64 i))] [] = tw (ref (l.length - i) (nth l i) (nth l (i + 1)) (nth l (i + 2)) (nth l (i + 3))).1 (ref (l.length - i) (nth l i) (nth l (i + 1)) (nth l (i + 2)) (nth l (i + 3))).2 := by
  have ha := nth_lt l i
  have hbad : ∀ m0, f11_r9 m0 (.p (.lst .sh (bl l))) (.p (.v (.int .i64 i))) [] = tw (1114112 + nth l i) 1 := fun m0 => r9_val h m0
  rw [f11_eq]
  simp only [mk_eq, shr_sh, shr_v, idx8 h, ob_sm, ldN_one, w8 _ ha, callGuess (show (0 : Int) ≤ nth l i by omega) (show (nth l i : Int) < 256 by omega)]
  simp only [mk_eq, lp_eq, iv, kv, bv, shr_v, shr_sh, shr_un, shr_ex, shr_nl, shr_tup, shr_agg, List.map_cons, List.map_nil, shrP_v, shrP_sh, nrm_v, nrm_lst, x_ext0, x_ext1, x_ext2, ob_sm, asB_b, gcB_nil, x_lss, x_leq, x_gtr, x_geq, x_eql, x_neq, x_add, x_sub, x_mul, x_not, x_seql, x_sneq, decide_true, decide_false, br_t, br_f]
  -- the cases of the first byte
  have good : ∀ more : Nat, more ≤ 3 → (guess (nth l i)).1 ≥ 0 → (guess (nth l i)).1 ≤ 255 → (guess (nth l i)).2 = more → i + more < l.length → ∀ X, f11_l4 ([] : List Row).length (.p (.lst .sh (bl l))) (.p (.v (.int .i64 i))) (.p (.v (.int .i64 (guess (nth l i)).1))) (.p (.v (.int .i64 more))) (.p (.v (.int .i64 ((1 : Nat) : Int)))) [] = X →
      (br (decide (0 ≤ (guess (nth l i)).1)) (ob (xlen PP 22 (.p (.lst .sh (bl l)))) fun a11 => ob (xbin PP .lss 3 (.p (.v (.int .i64 (IntKind.i64.wrap ((i : Int) + (guess (nth l i)).2))))) a11) fun a12 =>
        asB (shr a12) fun t13 => br t13 (f11_r3 ([] : List Row).length (.p (.lst .sh (bl l))) (.p (.v (.int .i64 i))) (.p (.v (.int .i64 (guess (nth l i)).1))) (.p (.v (.int .i64 (guess (nth l i)).2))) [])
          (f11_r9 ([] : List Row).length (.p (.lst .sh (bl l))) (.p (.v (.int .i64 i))) []))
        (f11_r9 ([] : List Row).length (.p (.lst .sh (bl l))) (.p (.v (.int .i64 i))) [])) = X := by
    intro more hm h0 h255 h2 hlt X hX
    rw [h2, wrap_i64 (by omega) (by omega)]
    have h3 : (i : Int) + more < l.length := by omega
    have h0' : 0 ≤ (guess (nth l i)).1 := h0
    simp only [h0', decide_true, br_t, x_len Tryd.underlying22, bl_len, ob_sm, x_lss, h3, shr_v, asB_b, f11_r3_eq, mk_eq, gcB_nil]
    exact hX
  have short : ∀ more : Nat, more ≤ 3 → (guess (nth l i)).1 ≥ 0 → (guess (nth l i)).2 = more → ¬ i + more < l.length →
      (br (decide (0 ≤ (guess (nth l i)).1)) (ob (xlen PP 22 (.p (.lst .sh (bl l)))) fun a11 => ob (xbin PP .lss 3 (.p (.v (.int .i64 (IntKind.i64.wrap ((i : Int) + (guess (nth l i)).2))))) a11) fun a12 =>
        asB (shr a12) fun t13 => br t13 (f11_r3 ([] : List Row).length (.p (.lst .sh (bl l))) (.p (.v (.int .i64 i))) (.p (.v (.int .i64 (guess (nth l i)).1))) (.p (.v (.int .i64 (guess (nth l i)).2))) [])
          (f11_r9 ([] : List Row).length (.p (.lst .sh (bl l))) (.p (.v (.int .i64 i))) []))
        (f11_r9 ([] : List Row).length (.p (.lst .sh (bl l))) (.p (.v (.int .i64 i))) [])) = tw (1114112 + nth l i) 1 := by
    intro more hm h0 h2 hlt
    rw [h2, wrap_i64 (by omega) (by omega)]
    have h3 : ¬ (i : Int) + more < l.length := by omega
    have h0' : 0 ≤ (guess (nth l i)).1 := h0
    simp only [h0', decide_true, br_t, br_f, x_len Tryd.underlying22, bl_len, ob_sm, x_lss, h3, decide_false, shr_v, asB_b]
    exact hbad _
  by_cases c0 : nth l i < 128
  · have hg : guess (nth l i) = ((nth l i : Int), 0) := by unfold guess; rw [if_pos (by omega)]
    have e1 := take_drop1 h
    refine (good 0 (by omega) (by rw [hg]; simp only; omega) (by rw [hg]; simp only; omega) (by rw [hg]; rfl) (by omega) _ rfl).trans ?_
    rw [l4_end (by omega), hg, r7_val hl (by omega)]
    have hr : ref (l.length - i) (nth l i) (nth l (i + 1)) (nth l (i + 2)) (nth l (i + 3)) = ((nth l i : Int), 1) := by unfold ref; rw [if_pos c0]
    rw [hr, if_pos]
    · rfl
    · refine ⟨by unfold isC; omega, ?_⟩
      show encB (nth l i) = (l.take (i + 1)).drop i
      rw [e1]
      exact (enc_len1 (by omega)).2 ⟨c0, (nth_get h).symm⟩
  · by_cases c1 : 192 ≤ nth l i ∧ nth l i < 224
    · have hg : guess (nth l i) = ((nth l i : Int) - 192, 1) := by unfold guess; rw [if_neg (by omega), if_pos (by omega)]
      by_cases hn : i + 1 < l.length
      · refine (good 1 (by omega) (by rw [hg]; simp only; omega) (by rw [hg]; simp only; omega) (by rw [hg]; rfl) (by omega) _ rfl).trans ?_
        have hb := nth_lt l (i + 1)
        rw [hg, l4_step hl (by omega) (by omega) ⟨by omega, by omega⟩, l4_end (by omega), r7_val hl (by omega)]
        have e1 : (l.take (i + 1 + 1)).drop i = [l[i], l[i + 1]] := by rw [take_drop_step (k := 2) h (by omega), show i + 2 = i + 1 + 1 from rfl, take_drop1 hn]
        have er : ref (l.length - i) (nth l i) (nth l (i + 1)) (nth l (i + 2)) (nth l (i + 3)) = ref (l.length - i) (nth l i) (nth l (i + 1)) (nth l (i + 2)) (nth l (i + 3)) := rfl
        conv at er => rhs; unfold ref; rw [if_neg c0, if_pos ⟨c1.1, c1.2, by omega⟩]
        rw [er, e1]
        refine ite_tw ⟨fun q => ?_, fun q => ?_⟩
        · obtain ⟨q1, q2⟩ := q
          have := (enc_len2 (by unfold isC at q1; omega)).1 q2
          rw [nth_get h, nth_get hn] at this
          exact ⟨q1, this⟩
        · refine ⟨q.1, (enc_len2 (by have := q.1; unfold isC at this; omega)).2 ?_⟩
          rw [nth_get h, nth_get hn]
          exact q.2
      · rw [short 1 (by omega) (by rw [hg]; simp only; omega) (by rw [hg]; rfl) (by omega)]
        unfold ref
        rw [if_neg c0, if_neg (by omega), if_neg (by omega), if_neg (by omega)]
        rfl
    · by_cases c2 : 224 ≤ nth l i ∧ nth l i < 240
      · have hg : guess (nth l i) = ((nth l i : Int) - 224, 2) := by unfold guess; rw [if_neg (by omega), if_neg (by omega), if_pos (by omega)]
        by_cases hn : i + 2 < l.length
        · refine (good 2 (by omega) (by rw [hg]; simp only; omega) (by rw [hg]; simp only; omega) (by rw [hg]; rfl) (by omega) _ rfl).trans ?_
          have hb := nth_lt l (i + 1)
          have hc := nth_lt l (i + (1 + 1))
          rw [hg, l4_step hl (by omega) (by omega) ⟨by omega, by omega⟩, l4_step hl (by omega) (by omega) ⟨by omega, by omega⟩, l4_end (by omega), r7_val hl (by omega)]
          have h1 : i + 1 < l.length := by omega
          have e1 : (l.take (i + 2 + 1)).drop i = [l[i], l[i + 1], l[i + 2]] := by
            rw [take_drop_step (k := 3) h (by omega), show i + 3 = i + 1 + 2 from by omega, take_drop_step (k := 2) h1 (by omega), show i + 1 + 2 = i + 2 + 1 from by omega, take_drop1 hn]
          have er : ref (l.length - i) (nth l i) (nth l (i + 1)) (nth l (i + 2)) (nth l (i + 3)) = ref (l.length - i) (nth l i) (nth l (i + 1)) (nth l (i + 2)) (nth l (i + 3)) := rfl
          conv at er => rhs; unfold ref; rw [if_neg c0, if_neg (by omega), if_pos ⟨c2.1, c2.2, by omega⟩]
          rw [er, e1]
          refine ite_tw ⟨fun q => ?_, fun q => ?_⟩
          · obtain ⟨q1, q2⟩ := q
            have := (enc_len3 (by unfold isC at q1; omega)).1 q2
            rw [nth_get h, nth_get h1, nth_get hn] at this
            exact ⟨q1, this⟩
          · refine ⟨q.1, (enc_len3 (by have := q.1; unfold isC at this; omega)).2 ?_⟩
            rw [nth_get h, nth_get h1, nth_get hn]
            exact q.2
        · rw [short 2 (by omega) (by rw [hg]; simp only; omega) (by rw [hg]; rfl) (by omega)]
          unfold ref
          rw [if_neg c0, if_neg (by omega), if_neg (by omega), if_neg (by omega)]
          rfl
      · by_cases c3 : 240 ≤ nth l i ∧ nth l i < 248
        · have hg : guess (nth l i) = ((nth l i : Int) - 240, 3) := by unfold guess; rw [if_neg (by omega), if_neg (by omega), if_neg (by omega), if_pos (by omega)]
          by_cases hn : i + 3 < l.length
          · refine (good 3 (by omega) (by rw [hg]; simp only; omega) (by rw [hg]; simp only; omega) (by rw [hg]; rfl) (by omega) _ rfl).trans ?_
            have hb := nth_lt l (i + 1)
            have hc := nth_lt l (i + (1 + 1))
            have hd := nth_lt l (i + (1 + 1 + 1))
            rw [hg, l4_step hl (by omega) (by omega) ⟨by omega, by omega⟩, l4_step hl (by omega) (by omega) ⟨by omega, by omega⟩, l4_step hl (by omega) (by omega) ⟨by omega, by omega⟩, l4_end (by omega), r7_val hl (by omega)]
            have h1 : i + 1 < l.length := by omega
            have h2 : i + 2 < l.length := by omega
            have e1 : (l.take (i + 3 + 1)).drop i = [l[i], l[i + 1], l[i + 2], l[i + 3]] := by
              rw [List.drop_take, show i + 3 + 1 - i = 4 by omega, List.drop_eq_getElem_cons h, List.drop_eq_getElem_cons h1, List.drop_eq_getElem_cons (show i + 1 + 1 < l.length from h2), List.drop_eq_getElem_cons (show i + 1 + 1 + 1 < l.length from hn)]
              rfl
            have er : ref (l.length - i) (nth l i) (nth l (i + 1)) (nth l (i + 2)) (nth l (i + 3)) = ref (l.length - i) (nth l i) (nth l (i + 1)) (nth l (i + 2)) (nth l (i + 3)) := rfl
            conv at er => rhs; unfold ref; rw [if_neg c0, if_neg (by omega), if_neg (by omega), if_pos ⟨c3.1, c3.2, by omega⟩]
            rw [er, e1]
            simp only [Nat.reduceAdd]
            refine ite_tw ⟨fun q => ?_, fun q => ?_⟩
            · obtain ⟨q1, q2⟩ := q
              have := (enc_len4 (by unfold isC at q1; omega)).1 q2
              rw [nth_get h, nth_get h1, nth_get h2, nth_get hn] at this
              exact ⟨q1, this⟩
            · refine ⟨q.1, (enc_len4 (by have := q.1; unfold isC at this; omega)).2 ?_⟩
              rw [nth_get h, nth_get h1, nth_get h2, nth_get hn]
              exact q.2
          · rw [short 3 (by omega) (by rw [hg]; simp only; omega) (by rw [hg]; rfl) (by omega)]
            unfold ref
            rw [if_neg c0, if_neg (by omega), if_neg (by omega), if_neg (by omega)]
            rfl
        · have hg : guess (nth l i) = (-1, 0) := by unfold guess; rw [if_neg (by omega), if_neg (by omega), if_neg (by omega), if_neg (by omega)]
          have hneg : ¬ 0 ≤ (guess (nth l i)).1 := by rw [hg]; simp
          simp only [hneg, decide_false, br_f]
          rw [hbad]
          unfold ref
          rw [if_neg c0, if_neg (by omega), if_neg (by omega), if_neg (by omega)]
          rfl
end N2
end Go.Proofs.YtbecmoihajlobaaDoor
end

section
set_option linter.unusedSimpArgs false
set_option linter.unusedVariables false
/- The reference's Split; the anchor; the law UnitSplits. -/
namespace Go.Proofs.YtbecmoihajlobaaDoor
open Go Go.Abs Go.RowKit

/-- A list that is appended to. -/
def accA (l : List Int) : AV := match l with
  | [] => nilA
  | x :: r => .p (.lst .un (il (x :: r)))

theorem szOk_il (l : List Int) : szOk 1 (il l) = true := szOk_one (fun _ => rfl) l

theorem accA_end (l : List Int) : nrmA (shr (shr (accA l))) = .p (.lst .sh (il l)) := by cases l <;> rfl

theorem xapp_il {pre ys : List Int} {o : Abs.Own} (hy : ys ≠ []) (h : pre.length + ys.length ≤ 1099511627776) : xapp 1 (accA pre) (.p (.lst o (il ys))) = some (accA (pre ++ ys)) := by
  have hl : pre.length + ys.length ≤ lim := h
  obtain ⟨y, r, rfl⟩ := List.exists_cons_of_ne_nil hy
  cases pre with
  | nil =>
    unfold accA nilA xapp
    have hs := szOk_il (y :: r)
    have hl' : (y :: r).length ≤ lim := by simpa using hl
    simp only [elems, ob_sm, List.nil_append]
    rw [if_pos]
    · rfl
    · rw [hs]
      simp only [szOk, List.all_nil, il_len, List.length_nil, Nat.zero_add, decide_eq_true hl']
      rfl
  | cons p q =>
    unfold accA xapp
    have hs := szOk_il (y :: r)
    have hs' := szOk_il (p :: q)
    simp only [elems, ob_sm]
    rw [if_pos]
    · simp [il, apo]
    · rw [hs, hs']
      simp only [il_len, decide_eq_true hl]
      rfl

/-- A call that hands over whose a list is. -/
theorem callS_r {G : GF} {g : FuncId} (l : List PV) {B B' : List Row} {x : PV} (h : G g (l.map .p) [] = some (.p x, B')) : callS true G g (l.map .p) B = fun k => k (.p x) B := by
  funext k
  refine callS_p (ptrsL_p l) (B' := B') ?_
  show G g (relabL _ (l.map .p)) [] = _
  rw [relabL_p]
  exact h

namespace N2
theorem lit27 (a : Int) : xlit PP 27 1 [(0, .p (.v (.int .i64 a)))] = some (.p (.lst .ex (il [a]))) := by kernel_rfl

theorem next_unit {l : List UInt8} {i : Nat} (hl : l.length ≤ 1099511627776) (h : i < l.length) : EE 11 [.p (.lst .sh (bl l)), .p (.v (.int .i64 i))] [] = some (.p (.tup [.v (.int .i64 (unitAt l i).1), .v (.int .i64 (unitAt l i).2)]), []) := by
  rw [next_ref hl h, ← unitAt_ref h]
  rfl

theorem split_loop {l : List UInt8} (hl : l.length ≤ 1099511627776) (m0 : Nat) : ∀ d i pre, l.length - i ≤ d → i ≤ l.length + 4 → pre.length ≤ i →
    f14_l3 m0 (.p (.lst .sh (bl l))) (accA pre) (.p (.v (.int .i64 i))) [] = some (.p (.lst .sh (il (pre ++ Tryd.from (fun i => (unitAt l i).1) (fun i => (unitAt l i).2) l.length l.length i))), []) := by
  intro d
  induction d with
  | zero =>
    intro i pre h h4 hp
    have h0 : ¬ (i : Int) < l.length := by omega
    rw [f14_l3_eq]
    simp only [mk_eq, lp_eq, iv, kv, bv, shr_v, shr_sh, shr_un, shr_ex, shr_nl, shr_tup, shr_agg, List.map_cons, List.map_nil, shrP_v, shrP_sh, nrm_v, nrm_lst, x_ext0, x_ext1, x_ext2, ob_sm, asB_b, gcB_nil, x_lss, x_leq, x_gtr, x_geq, x_eql, x_neq, x_add, x_sub, x_mul, x_not, x_seql, x_sneq, decide_true, decide_false, br_t, br_f, x_len Tryd.underlying22, bl_len, h0, f14_r7_eq]
    rw [Tryd.from_end (by omega), List.append_nil]
    show some (nrmA (shr (shr (accA pre))), _) = _
    rw [accA_end]
  | succ d ih =>
    intro i pre h h4 hp
    rw [f14_l3_eq]
    by_cases hi : i < l.length
    · have h0 : (i : Int) < l.length := by omega
      obtain ⟨n1, n4⟩ := unit_size hi
      simp only [mk_eq, lp_eq, iv, kv, bv, shr_v, shr_sh, shr_un, shr_ex, shr_nl, shr_tup, shr_agg, List.map_cons, List.map_nil, shrP_v, shrP_sh, nrm_v, nrm_lst, x_ext0, x_ext1, x_ext2, ob_sm, asB_b, gcB_nil, x_lss, x_leq, x_gtr, x_geq, x_eql, x_neq, x_add, x_sub, x_mul, x_not, x_seql, x_sneq, decide_true, decide_false, br_t, br_f, x_len Tryd.underlying22, bl_len, h0, f14_r4_eq]
      rw [show callS false EE 11 [.p (.lst .sh (bl l)), .p (.v (.int .i64 i))] [] = _ from callS_f [.lst .sh (bl l), .v (.int .i64 i)] (next_unit hl hi)]
      simp only [mk_eq, lp_eq, iv, kv, bv, shr_v, shr_sh, shr_un, shr_ex, shr_nl, shr_tup, shr_agg, List.map_cons, List.map_nil, shrP_v, shrP_sh, nrm_v, nrm_lst, x_ext0, x_ext1, x_ext2, ob_sm, asB_b, gcB_nil, x_lss, x_leq, x_gtr, x_geq, x_eql, x_neq, x_add, x_sub, x_mul, x_not, x_seql, x_sneq, decide_true, decide_false, br_t, br_f, lit27]
      rw [xapp_il (by simp) (by simp; omega)]
      simp only [mk_eq, lp_eq, iv, kv, bv, shr_v, shr_sh, shr_un, shr_ex, shr_nl, shr_tup, shr_agg, List.map_cons, List.map_nil, shrP_v, shrP_sh, nrm_v, nrm_lst, x_ext0, x_ext1, x_ext2, ob_sm, asB_b, gcB_nil, x_lss, x_leq, x_gtr, x_geq, x_eql, x_neq, x_add, x_sub, x_mul, x_not, x_seql, x_sneq, decide_true, decide_false, br_t, br_f]
      rw [wrap_i64 (by omega) (by omega), show (i : Int) + ((unitAt l i).2 : Int) = ((i + (unitAt l i).2 : Nat) : Int) by omega, ih (i + (unitAt l i).2) (pre ++ [(unitAt l i).1]) (by omega) (by omega) (by simp; omega)]
      rw [Tryd.from_step (fun j hj => (unit_size hj).1) hi, List.append_assoc]
      rfl
    · have h0 : ¬ (i : Int) < l.length := by omega
      simp only [mk_eq, lp_eq, iv, kv, bv, shr_v, shr_sh, shr_un, shr_ex, shr_nl, shr_tup, shr_agg, List.map_cons, List.map_nil, shrP_v, shrP_sh, nrm_v, nrm_lst, x_ext0, x_ext1, x_ext2, ob_sm, asB_b, gcB_nil, x_lss, x_leq, x_gtr, x_geq, x_eql, x_neq, x_add, x_sub, x_mul, x_not, x_seql, x_sneq, decide_true, decide_false, br_t, br_f, x_len Tryd.underlying22, bl_len, h0, f14_r7_eq]
      rw [Tryd.from_end hi, List.append_nil]
      show some (nrmA (shr (shr (accA pre))), _) = _
      rw [accA_end]

theorem split_ref {l : List UInt8} (hl : l.length ≤ 1099511627776) : EE 14 [.p (.lst .sh (bl l))] [] = some (.p (.lst .sh (il (units l))), []) := by
  rw [f14_eq]
  simp only [mk_eq, lp_eq, iv, kv, bv, shr_v, shr_sh, shr_un, shr_ex, shr_nl, shr_tup, shr_agg, List.map_cons, List.map_nil, shrP_v, shrP_sh, nrm_v, nrm_lst, x_ext0, x_ext1, x_ext2, ob_sm, asB_b, gcB_nil, x_lss, x_leq, x_gtr, x_geq, x_eql, x_neq, x_add, x_sub, x_mul, x_not, x_seql, x_sneq, decide_true, decide_false, br_t, br_f]
  have := split_loop hl ([] : List Row).length l.length 0 [] (by omega) (by omega) (by simp)
  exact this

theorem split_val {l : List UInt8} (hl : l.length ≤ 1099511627776) (o : Abs.Own) : EE 13 [.p (.lst o (bl l))] [] = some (.p (.lst (accO (units l)) (il (units l))), []) := by
  rw [show EE = E PP XX HH from rfl, E_ext (show XX 13 = some xSplit from rfl)]
  have e : xSplit [.p (.lst o (bl l))] [] = (match bytesX (bl l) with | some l => if l.length ≤ 1099511627776 then some (.p (.lst (accO (units l)) (il (units l))), ([] : List Row)) else none | none => none) := rfl
  have e2 : bytesX (bl l) = some l := bytesX_map l
  rw [e, e2]
  simp only
  rw [if_pos hl]

theorem callSplit {l : List UInt8} (hl : l.length ≤ 1099511627776) (o : Abs.Own) : callS true EE 13 [.p (.lst o (bl l))] [] = fun k => k (.p (.lst (accO (units l)) (il (units l)))) [] := callS_r [.lst o (bl l)] (split_val hl o)
theorem callSplitR {l : List UInt8} (hl : l.length ≤ 1099511627776) (o : Abs.Own) : callS false EE 14 [.p (.lst o (bl l))] [] = fun k => k (.p (.lst .sh (il (units l)))) [] := callS_f [.lst o (bl l)] (split_ref hl)
theorem callSame {a b : List Int} (ha : a.length ≤ 1099511627776) (o o' : Abs.Own) : callS false EE 12 [.p (.lst o (il a)), .p (.lst o' (il b))] [] = fun k => k (.p (.v (.bool (decide (a = b))))) [] := callS_f [.lst o (il a), .lst o' (il b)] (same_val ha)

theorem units_a : units [97, 195, 169, 255] = [97, 233, 1114367] := by decide +kernel
theorem units_b : units [192, 128] = [1114304, 1114240] := by decide +kernel

theorem lits4 : xlit PP 22 4 [(0, kv .u8 97), (1, kv .u8 195), (2, kv .u8 169), (3, kv .u8 255)] = some (.p (.lst .ex (bl [97, 195, 169, 255]))) := by kernel_rfl
theorem lits2 : xlit PP 22 2 [(0, kv .u8 192), (1, kv .u8 128)] = some (.p (.lst .ex (bl [192, 128]))) := by kernel_rfl
theorem lits3i : xlit PP 27 3 [(0, iv 97), (1, iv 233), (2, iv 1114367)] = some (.p (.lst .ex (il [97, 233, 1114367]))) := by kernel_rfl
theorem lits2i : xlit PP 27 2 [(0, iv 1114304), (1, iv 1114240)] = some (.p (.lst .ex (il [1114304, 1114240]))) := by kernel_rfl
theorem same4 : xsame PP 22 (unOf (.p (.lst .ex (bl [97, 195, 169, 255])))) = some (.p (.lst .sh (bl [97, 195, 169, 255]))) := by kernel_rfl
theorem same2 : xsame PP 22 (unOf (.p (.lst .ex (bl [192, 128])))) = some (.p (.lst .sh (bl [192, 128]))) := by kernel_rfl

theorem anchor_val : EE 9 [] [] = some (.p (.v (.bool true)), []) := by
  rw [f9_eq]
  simp only [mk_eq, lits4, ob_sm, same4, callSplit (show ([97, 195, 169, 255] : List UInt8).length ≤ 1099511627776 by decide), lits3i, units_a, callSame (show ([97, 233, 1114367] : List Int).length ≤ 1099511627776 by decide), shr_v, asB_b, decide_true, br_t,
    lits2, same2, callSplit (show ([192, 128] : List UInt8).length ≤ 1099511627776 by decide), lits2i, units_b, callSame (show ([1114304, 1114240] : List Int).length ≤ 1099511627776 by decide)]
  rfl

theorem callAnchor : callS false EE 9 [] [] = fun k => k (.p (.v (.bool true))) [] := callS_f [] anchor_val

theorem units_len (l : List UInt8) : (units l).length ≤ l.length := Tryd.from_len _ _

theorem next_out2 (l : List UInt8) (i : Int) (h : ¬ (0 ≤ i ∧ i < l.length)) : EE 10 [.p (.lst .sh (bl l)), .p (.v (.int .i64 i))] [] = some (.p (.tup [.v (.int .i64 0), .v (.int .i64 0)]), []) := by
  rw [f10_eq]
  simp only [mk_eq, shr_v, shr_sh, iv, x_lss, ob_sm, asB_b, gcB_nil, x_len Tryd.underlying22, x_geq, bl_len]
  by_cases h0 : i < 0
  · simp only [h0, decide_true, br_t, f10_r2_eq, mk_eq]
    rfl
  · have h1 : (l.length : Int) ≤ i := by omega
    simp only [h0, h1, decide_true, decide_false, br_t, br_f, f10_r2_eq, mk_eq]
    rfl

theorem next_in2 (l : List UInt8) (i : Nat) (h : i < l.length) : EE 10 [.p (.lst .sh (bl l)), .p (.v (.int .i64 i))] [] = some (.p (.tup [.v (.int .i64 (unitAt l i).1), .v (.int .i64 (unitAt l i).2)]), []) := by
  rw [f10_eq]
  have h0 : ¬ (i : Int) < 0 := by omega
  have h1 : ¬ (l.length : Int) ≤ i := by omega
  simp only [mk_eq, shr_v, shr_sh, iv, x_lss, ob_sm, asB_b, gcB_nil, x_len Tryd.underlying22, x_geq, bl_len, h0, h1, decide_false, br_f, f10_r3_eq]
  rw [xsl_bl (by omega), ob_sm]
  have hd : EE 21 [.p (.lst .sh (bl (l.drop i)))] [] = some (.p (.tup [.v (.int .i32 (Lib.decodeGo ⟨(l.drop i).toArray⟩).1), .v (.int .i64 (Lib.decodeGo ⟨(l.drop i).toArray⟩).2)]), []) := by
    rw [show EE = E PP XX HH from rfl, E_ext (show XX 21 = some xDecode from rfl)]
    have hne : l.drop i ≠ [] := by
      intro e
      have := congrArg List.length e
      simp at this
      omega
    obtain ⟨x, r, hx⟩ := List.exists_cons_of_ne_nil hne
    unfold xDecode
    rw [hx]
    have := bytesX_map (x :: r)
    simp only [bl, List.map_cons] at this ⊢
    rw [this]
    rfl
  rw [show callS false EE 21 [.p (.lst .sh (bl (l.drop i)))] [] = _ from callS_f [.lst .sh (bl (l.drop i))] hd]
  generalize hD : Lib.decodeGo ⟨(l.drop i).toArray⟩ = D
  have hb := decode_bounds ⟨(l.drop i).toArray⟩
  rw [hD] at hb
  have hget : (bl l)[i]? = some (.v (.int .u8 l[i].toNat)) := bl_get (by simp [h])
  have hgd : l.getD i 0 = l[i] := by simp [h]
  have hlt : l[i].toNat < 256 := l[i].toNat_lt
  simp only [shr_tup, List.map_cons, List.map_nil, shrP_v, x_ext0, x_ext1, ob_sm, shr_v, kv, x_eql, asB_b, gcB_nil, unitAt, hD]
  by_cases h2 : D.1 = 65533
  · by_cases h3 : D.2 = 1
    · have e1 : ((D.1 : Int) == 65533) = true := by rw [h2]; rfl
      have e2 : ((D.2 : Int) == 1) = true := by rw [h3]; rfl
      rw [e1, e2, br_t, br_t, if_pos ⟨h2, h3⟩, f10_r5_eq]
      simp only [mk_eq, shr_v, shr_sh]
      rw [xidx_one (by omega) (by simpa using hget) rfl]
      simp only [ob_sm, ldN_one, iv]
      rw [x_cnv Tryd.underlying5 Tryd.underlying3, wrap_i64 (by omega) (by omega)]
      simp only [ob_sm, x_add]
      rw [wrap_i64 (by omega) (by omega), hgd]
      rfl
    · have e1 : ((D.1 : Int) == 65533) = true := by rw [h2]; rfl
      have e2 : ((D.2 : Int) == 1) = false := by simpa using (show ¬ (D.2 : Int) = 1 by omega)
      rw [e1, e2, br_t, br_f, if_neg (fun h => h3 h.2), f10_r6_eq]
      simp only [mk_eq, shr_v]
      rw [x_cnv Tryd.underlying21 Tryd.underlying3, wrap_i64 (by omega) (by omega)]
      rfl
  · have e1 : ((D.1 : Int) == 65533) = false := by simpa using (show ¬ (D.1 : Int) = 65533 by omega)
    rw [e1, br_f, if_neg (fun h => h2 h.1), f10_r6_eq]
    simp only [mk_eq, shr_v]
    rw [x_cnv Tryd.underlying21 Tryd.underlying3, wrap_i64 (by omega) (by omega)]
    rfl

theorem callNext (l : List UInt8) (a : Int) : ∃ u n, callS false EE 10 [.p (.lst .sh (bl l)), .p (.v (.int .i64 a))] [] = (fun k => k (.p (.tup [.v (.int .i64 u), .v (.int .i64 n)])) []) ∧
    ((a < 0 ∨ (l.length : Int) ≤ a) → u = 0 ∧ n = 0) ∧ (∀ i : Nat, a = i → i < l.length → u = (unitAt l i).1 ∧ n = (unitAt l i).2) := by
  by_cases h : 0 ≤ a ∧ a < l.length
  · obtain ⟨i, rfl⟩ : ∃ i : Nat, a = i := ⟨a.toNat, by omega⟩
    exact ⟨_, _, callS_f [.lst .sh (bl l), .v (.int .i64 i)] (next_in2 l i (by omega)), fun h' => by omega, fun j hj _ => by
      have : j = i := by omega
      subst this; exact ⟨rfl, rfl⟩⟩
  · exact ⟨0, 0, callS_f [.lst .sh (bl l), .v (.int .i64 a)] (next_out2 l a h), fun _ => ⟨rfl, rfl⟩, fun j hj hj' => by omega⟩

/-- The law, in the evaluator. -/
theorem splits_val (l : List UInt8) (a : Int) : EE 3 [.p (.lst .sh (bl l)), .p (.v (.int .i64 a))] [] = some (.p (.v (.bool true)), []) := by
  rw [f3_eq]
  simp only [mk_eq, callAnchor, x_not, ob_sm, asB_b, Bool.not_true, br_f, gcB_nil, f3_r3_eq, shr_sh, x_len Tryd.underlying22, bl_len, iv, x_gtr]
  by_cases hl : (1000 : Int) < l.length
  · simp only [hl, decide_true, br_t]
    rfl
  · have hl' : l.length ≤ 1099511627776 := by omega
    simp only [hl, decide_false, br_f, f3_r5_eq, mk_eq, shr_sh, shr_v]
    obtain ⟨u, n, hc, ho, hi⟩ := callNext l a
    have fin : ∀ m0, f3_r12 m0 (.p (.lst .sh (bl l))) [] = some (.p (.v (.bool true)), []) := by
      intro m0
      rw [f3_r12_eq]
      simp only [mk_eq, shr_sh, callSplit hl', callSplitR hl', callSame (show (units l).length ≤ 1099511627776 by have := units_len l; omega), decide_true]
      rfl
    simp only [hc]
    simp only [shr_tup, List.map_cons, List.map_nil, shrP_v, x_ext0, x_ext1, ob_sm, shr_v, x_lss, iv, asB_b, gcB_nil]
    by_cases h0 : a < 0
    · obtain ⟨rfl, rfl⟩ := ho (.inl h0)
      simp only [h0, decide_true, br_t, f3_r7_eq, mk_eq, shr_v, iv, x_neq, ob_sm, asB_b, bne_self_eq_false, br_f, gcB_nil]
      exact fin _
    · simp only [h0, decide_false, br_f, x_len Tryd.underlying22, bl_len, ob_sm, x_geq, shr_v, asB_b]
      by_cases h1 : (l.length : Int) ≤ a
      · obtain ⟨rfl, rfl⟩ := ho (.inr h1)
        simp only [h1, decide_true, br_t, f3_r7_eq, mk_eq, shr_v, iv, x_neq, ob_sm, asB_b, bne_self_eq_false, br_f, gcB_nil]
        exact fin _
      · obtain ⟨i, rfl⟩ : ∃ i : Nat, a = i := ⟨a.toNat, by omega⟩
        have hil : i < l.length := by omega
        obtain ⟨rfl, rfl⟩ := hi i rfl hil
        simp only [h1, decide_false, br_f, f3_r9_eq, mk_eq, shr_sh, shr_v]
        simp only [show callS false EE 11 [.p (.lst .sh (bl l)), .p (.v (.int .i64 i))] [] = _ from callS_f [.lst .sh (bl l), .v (.int .i64 i)] (next_unit hl' hil)]
        simp only [shr_tup, List.map_cons, List.map_nil, shrP_v, x_ext0, x_ext1, ob_sm, shr_v, x_neq, asB_b, bne_self_eq_false, br_f, gcB_nil]
        exact fin _
end N2
end Go.Proofs.YtbecmoihajlobaaDoor
end
